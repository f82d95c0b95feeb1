/- A board as plain data: which alarms each counter has, and where each lies there. No program is in sight here. -/
import Derived.Test.YtemhfonneggneaaTbK
namespace Go.Tb
open Go.RowKit Go.Fr

/-- the alarms of a counter, rising -/
def alsOf (l : List AlarmR) (c : Int) : List Int := ((List.range l.length).filter (fun i => (l[i]?.map (·.counter)) == some c)).map (fun i : Nat => (i : Int))
/-- of an alarm, how many of its counter's lie ahead of it -/
def plOf (l : List AlarmR) (i : Nat) : Int := match l[i]? with | some x => ((ctrs (l.take i)).count x.counter : Nat) | none => 0
def placesOf (l : List AlarmR) : List Int := (List.range l.length).map (plOf l)

theorem alsOf_nil (c : Int) : alsOf [] c = [] := rfl
theorem alsOf_snoc (l : List AlarmR) (x : AlarmR) (c : Int) : alsOf (l ++ [x]) c = alsOf l c ++ (if x.counter = c then [(l.length : Int)] else []) := by
  unfold alsOf
  rw [List.length_append, List.length_singleton, List.range_succ, List.filter_append, List.map_append]
  congr 1
  · congr 1
    apply List.filter_congr
    intro i hi
    rw [List.mem_range] at hi
    rw [List.getElem?_append_left hi]
  · have h : (l ++ [x])[l.length]? = some x := by simp
    simp only [List.filter_cons, h, Option.map_some, List.filter_nil]
    by_cases hc : x.counter = c <;> simp [hc]
theorem alsOf_take {l : List AlarmR} {k : Nat} {x : AlarmR} (h : l[k]? = some x) (c : Int) : alsOf (l.take (k + 1)) c = alsOf (l.take k) c ++ (if x.counter = c then [(k : Int)] else []) := by
  have hk := (List.getElem?_eq_some_iff.1 h).1
  have e : l.take (k + 1) = l.take k ++ [x] := by rw [List.take_add_one, h]; rfl
  rw [e, alsOf_snoc, show (l.take k).length = k by rw [List.length_take]; omega]
theorem alsOf_len (l : List AlarmR) (c : Int) : (alsOf l c).length = (ctrs l).count c := by
  have key : ∀ k, k ≤ l.length → (alsOf (l.take k) c).length = (ctrs (l.take k)).count c := by
    intro k
    induction k with
    | zero => intro _; rfl
    | succ k ih =>
      intro hk
      have hx : l[k]? = some l[k] := List.getElem?_eq_getElem (by omega)
      rw [alsOf_take hx, ctrs_snoc hx, List.length_append, ih (by omega), count_snoc]
      by_cases hc : l[k].counter = c <;> simp [hc]
  have h := key l.length (Nat.le_refl _)
  rwa [List.take_length] at h
theorem plOf_at {l : List AlarmR} {i : Nat} {x : AlarmR} (h : l[i]? = some x) : plOf l i = ((alsOf (l.take i) x.counter).length : Nat) := by
  unfold plOf; rw [h, alsOf_len]
theorem placesOf_at {l : List AlarmR} {i : Nat} {x : AlarmR} (h : l[i]? = some x) : (placesOf l)[i]? = some ((alsOf (l.take i) x.counter).length : Int) := by
  have hi := (List.getElem?_eq_some_iff.1 h).1
  unfold placesOf
  rw [List.getElem?_map, List.getElem?_range hi, Option.map_some, plOf_at h]
theorem placesOf_take {l : List AlarmR} {k : Nat} {x : AlarmR} (h : l[k]? = some x) : placesOf (l.take (k + 1)) = placesOf (l.take k) ++ [((alsOf (l.take k) x.counter).length : Int)] := by
  have hk := (List.getElem?_eq_some_iff.1 h).1
  have e : l.take (k + 1) = l.take k ++ [x] := by rw [List.take_add_one, h]; rfl
  rw [e]
  unfold placesOf
  have hl : (l.take k).length = k := by rw [List.length_take]; omega
  rw [List.length_append, List.length_singleton, hl, List.range_succ, List.map_append]
  congr 1
  · apply List.map_congr_left
    intro i hi
    rw [List.mem_range] at hi
    unfold plOf
    rw [List.getElem?_append_left (by omega), List.take_append_of_le_length (by omega)]
  · have h2 : (l.take k ++ [x])[k]? = some x := by rw [List.getElem?_append_right (by omega), hl]; simp
    simp only [List.map_cons, List.map_nil]
    rw [plOf_at h2, List.take_append_of_le_length (by omega), List.take_of_length_le (by omega)]
theorem alsOf_pre (l : List AlarmR) (c : Int) : ∀ k j, k ≤ j → j ≤ l.length → alsOf (l.take k) c <+: alsOf (l.take j) c := by
  intro k j hkj hj
  induction j with
  | zero =>
    obtain rfl : k = 0 := by omega
    exact List.prefix_refl _
  | succ j ih =>
    rcases Nat.lt_or_ge k (j + 1) with h | h
    · refine (ih (by omega) (by omega)).trans ?_
      have hx : l[j]? = some l[j] := List.getElem?_eq_getElem (by omega)
      rw [alsOf_take hx]
      exact List.prefix_append _ _
    · obtain rfl : k = j + 1 := by omega
      exact List.prefix_refl _
/-- the alarm at its place is the alarm -/
theorem alsOf_place {l : List AlarmR} {i : Nat} {x : AlarmR} (h : l[i]? = some x) : (alsOf l x.counter)[(alsOf (l.take i) x.counter).length]? = some (i : Int) := by
  have hi := (List.getElem?_eq_some_iff.1 h).1
  have h1 := alsOf_pre l x.counter (i + 1) l.length (by omega) (Nat.le_refl _)
  rw [List.take_length, alsOf_take h, if_pos rfl] at h1
  obtain ⟨t, ht⟩ := h1
  rw [← ht, List.append_assoc, List.getElem?_append_right (Nat.le_refl _), Nat.sub_self]
  rfl
/-- what stands in a counter's list is an alarm of it, at its place -/
theorem alsOf_spec {l : List AlarmR} {c : Int} {p : Nat} {a : Int} (h : (alsOf l c)[p]? = some a) : ∃ i x, a = ((i : Nat) : Int) ∧ l[i]? = some x ∧ x.counter = c ∧ p = (alsOf (l.take i) c).length := by
  have key : ∀ k, k ≤ l.length → ∀ p a, (alsOf (l.take k) c)[p]? = some a → ∃ i x, a = ((i : Nat) : Int) ∧ l[i]? = some x ∧ x.counter = c ∧ p = (alsOf (l.take i) c).length := by
    intro k
    induction k with
    | zero => intro _ p a h; simp [alsOf] at h
    | succ k ih =>
      intro hk p a h
      have hx : l[k]? = some l[k] := List.getElem?_eq_getElem (by omega)
      rw [alsOf_take hx] at h
      by_cases hc : l[k].counter = c
      · rw [if_pos hc] at h
        rcases Nat.lt_or_ge p (alsOf (l.take k) c).length with hp | hp
        · rw [List.getElem?_append_left hp] at h
          exact ih (by omega) p a h
        · rw [List.getElem?_append_right hp] at h
          have hp2 := (List.getElem?_eq_some_iff.1 h).1
          simp at hp2
          obtain rfl : p = (alsOf (l.take k) c).length := by omega
          simp at h
          exact ⟨k, _, h.symm, hx, hc, rfl⟩
      · rw [if_neg hc, List.append_nil] at h
        exact ih (by omega) p a h
  exact key l.length (Nat.le_refl _) p a (by rwa [List.take_length])
end Go.Tb
