/- A board as plain data: which alarms each counter has, and where each lies there. No program is in sight here. -/
import Derived.Test.YtemhfonneggneaaTbC
import Derived.Test.YtemhfonneggneaaMem
/- Package table: room, the plain part: counts and the most of them. No program is in sight here. -/
namespace Go.Tb
open Go.RowKit Go.Fr

/-- how often each number below n stands in a list -/
def cnts (l : List Int) (n : Nat) : List Int := (List.range n).map (fun c : Nat => (l.count (c : Int) : Int))
theorem cnts_len (l : List Int) (n : Nat) : (cnts l n).length = n := by simp [cnts]
theorem cnts_nil (n : Nat) : cnts [] n = List.replicate n 0 := by
  apply List.ext_getElem
  · simp [cnts]
  · intro i h1 h2; simp [cnts]
theorem cnts_at (l : List Int) {n c : Nat} (h : c < n) : (cnts l n)[c]? = some (l.count (c : Int) : Int) := by simp [cnts, h]
theorem count_snoc (l : List Int) (a b : Int) : (l ++ [a]).count b = l.count b + (if a = b then 1 else 0) := by
  rw [List.count_append, List.count_singleton]
  by_cases h : a = b <;> simp [h]
theorem cnts_snoc (l : List Int) {n c : Nat} (h : c < n) : cnts (l ++ [(c : Int)]) n = (cnts l n).set c ((l.count (c : Int) : Int) + 1) := by
  apply List.ext_getElem
  · simp [cnts]
  · intro i h1 h2
    rw [List.getElem_set]
    simp only [cnts, List.getElem_map, List.getElem_range]
    rw [count_snoc]
    by_cases hi : c = i
    · subst hi; simp
    · have : ¬ ((c : Int) = (i : Int)) := by omega
      simp [this, hi]

/-- m is the greatest count of either list, and two at least -/
structure Mx (m : Int) (A B : List Int) : Prop where
  two : 2 ≤ m
  a : ∀ c, (A.count c : Int) ≤ m
  b : ∀ c, (B.count c : Int) ≤ m
  is : m = 2 ∨ (∃ c, (A.count c : Int) = m) ∨ ∃ c, (B.count c : Int) = m
theorem Mx.start : Mx 2 [] [] := ⟨by omega, fun c => by simp, fun c => by simp, Or.inl rfl⟩
theorem mxi_le (m v : Int) : m ≤ mxi m v ∧ v ≤ mxi m v ∧ (mxi m v = m ∨ mxi m v = v) := by unfold mxi; split <;> omega
theorem count_last (l : List Int) (a : Int) : ((l ++ [a]).count a : Int) = (l.count a : Int) + 1 := by rw [count_snoc]; simp
theorem count_mono (l : List Int) (a c : Int) : (l.count c : Int) ≤ ((l ++ [a]).count c : Int) := by rw [count_snoc]; split <;> omega
theorem Mx.left {m : Int} {A B : List Int} (h : Mx m A B) (a : Int) : Mx (mxi m ((A.count a : Int) + 1)) (A ++ [a]) B := by
  obtain ⟨h1, h2, h3⟩ := mxi_le m ((A.count a : Int) + 1)
  refine ⟨by have := h.two; omega, fun c => ?_, fun c => by have := h.b c; omega, ?_⟩
  · rw [count_snoc]
    by_cases hc : a = c
    · subst hc; simp; omega
    · simp [hc]; have := h.a c; omega
  · rcases h3 with h4 | h4
    · rcases h.is with h5 | ⟨c, h5⟩ | h5
      · exact Or.inl (by omega)
      · refine Or.inr (Or.inl ⟨c, ?_⟩)
        have h6 := count_mono A a c
        have h7 : ((A ++ [a]).count c : Int) ≤ mxi m ((A.count a : Int) + 1) := by
          rw [count_snoc]
          by_cases hc : a = c
          · subst hc; simp; omega
          · simp [hc]; have := h.a c; omega
        omega
      · obtain ⟨c, h5⟩ := h5; exact Or.inr (Or.inr ⟨c, by omega⟩)
    · exact Or.inr (Or.inl ⟨a, by rw [count_last]; omega⟩)
theorem Mx.swap {m : Int} {A B : List Int} (h : Mx m A B) : Mx m B A := ⟨h.two, h.b, h.a, h.is.imp id (fun h => h.symm)⟩
theorem Mx.right {m : Int} {A B : List Int} (h : Mx m A B) (b : Int) : Mx (mxi m ((B.count b : Int) + 1)) A (B ++ [b]) := (h.swap.left b).swap
theorem Mx.uniq {m n : Int} {A B : List Int} (h : Mx m A B) (k : Mx n A B) : m = n := by
  have key : ∀ {m n : Int}, Mx m A B → Mx n A B → m ≤ n := by
    intro m n h k
    rcases h.is with h5 | ⟨c, h5⟩ | ⟨c, h5⟩
    · have := k.two; omega
    · have := k.a c; omega
    · have := k.b c; omega
  have h1 := key h k
  have h2 := key k h
  omega
theorem Mx.le {m : Int} {A B : List Int} (h : Mx m A B) : m ≤ 2 + A.length + B.length := by
  rcases h.is with h5 | ⟨c, h5⟩ | ⟨c, h5⟩
  · omega
  · have := List.count_le_length (a := c) (l := A); omega
  · have := List.count_le_length (a := c) (l := B); omega

/-- the counters of the alarms; the messages that others are received from; how many call back -/
def ctrs (l : List AlarmR) : List Int := l.map (·.counter)
def srcs (l : List MsgR) : List Int := (l.filter (fun x => x.kind != 1)).map (·.src)
def backsA (l : List AlarmR) : Int := (l.countP (fun x => x.kind == 3) : Nat)
def backsM (l : List MsgR) : Int := (l.countP (fun x => x.akind == 3) : Nat)
theorem ctrs_snoc {l : List AlarmR} {k : Nat} {x : AlarmR} (h : l[k]? = some x) : ctrs (l.take (k + 1)) = ctrs (l.take k) ++ [x.counter] := by
  rw [List.take_add_one, h]; simp [ctrs]
theorem backsA_snoc {l : List AlarmR} {k : Nat} {x : AlarmR} (h : l[k]? = some x) : backsA (l.take (k + 1)) = backsA (l.take k) + (if x.kind = 3 then 1 else 0) := by
  rw [List.take_add_one, h]
  simp only [backsA, Option.toList_some, List.countP_append, List.countP_singleton]
  by_cases h3 : x.kind = 3 <;> simp [h3]
theorem srcs_snoc {l : List MsgR} {k : Nat} {x : MsgR} (h : l[k]? = some x) (h1 : x.kind ≠ 1) : srcs (l.take (k + 1)) = srcs (l.take k) ++ [x.src] := by
  rw [List.take_add_one, h]; simp [srcs, List.filter_append, h1]
theorem srcs_skip {l : List MsgR} {k : Nat} {x : MsgR} (h : l[k]? = some x) (h1 : x.kind = 1) : srcs (l.take (k + 1)) = srcs (l.take k) := by
  rw [List.take_add_one, h]; simp [srcs, List.filter_append, h1]
theorem backsM_snoc {l : List MsgR} {k : Nat} {x : MsgR} (h : l[k]? = some x) : backsM (l.take (k + 1)) = backsM (l.take k) + (if x.akind = 3 then 1 else 0) := by
  rw [List.take_add_one, h]
  simp only [backsM, Option.toList_some, List.countP_append, List.countP_singleton]
  by_cases h3 : x.akind = 3 <;> simp [h3]
theorem backsA_le (l : List AlarmR) : 0 ≤ backsA l ∧ backsA l ≤ l.length := by
  unfold backsA; have := List.countP_le_length (p := fun x : AlarmR => x.kind == 3) (l := l); omega
theorem backsM_le (l : List MsgR) : 0 ≤ backsM l ∧ backsM l ≤ l.length := by
  unfold backsM; have := List.countP_le_length (p := fun x : MsgR => x.akind == 3) (l := l); omega
theorem ctrs_len (l : List AlarmR) : (ctrs l).length = l.length := by simp [ctrs]
theorem srcs_len (l : List MsgR) : (srcs l).length ≤ l.length := by
  unfold srcs; rw [List.length_map]; exact List.length_filter_le _ _
end Go.Tb
namespace Go.Tb
open Go.RowKit Go.Fr

/-- the alarms of a counter, rising -/
def alsOf (l : List AlarmR) (c : Int) : List Int := ((List.range l.length).filter (fun i => (l[i]?.map (·.counter)) == some c)).map (fun i : Nat => (i : Int))
/-- of an alarm, how many of its counter's lie ahead of it -/
def plOf (l : List AlarmR) (i : Nat) : Int := match l[i]? with | some x => ((ctrs (l.take i)).count x.counter : Nat) | none => 0
def placesOf (l : List AlarmR) : List Int := (List.range l.length).map (plOf l)

theorem alsOf_nil (c : Int) : alsOf [] c = [] := rfl
theorem alsOf_snoc (l : List AlarmR) (x : AlarmR) (c : Int) : alsOf (l ++ [x]) c = alsOf l c ++ (if x.counter = c then [(l.length : Int)] else []) := by
  unfold alsOf
  rw [List.length_append, List.length_singleton, List.range_succ, List.filter_append, List.map_append]
  congr 1
  · congr 1
    apply List.filter_congr
    intro i hi
    rw [List.mem_range] at hi
    rw [List.getElem?_append_left hi]
  · have h : (l ++ [x])[l.length]? = some x := by simp
    simp only [List.filter_cons, h, Option.map_some, List.filter_nil]
    by_cases hc : x.counter = c <;> simp [hc]
theorem alsOf_take {l : List AlarmR} {k : Nat} {x : AlarmR} (h : l[k]? = some x) (c : Int) : alsOf (l.take (k + 1)) c = alsOf (l.take k) c ++ (if x.counter = c then [(k : Int)] else []) := by
  have hk := (List.getElem?_eq_some_iff.1 h).1
  have e : l.take (k + 1) = l.take k ++ [x] := by rw [List.take_add_one, h]; rfl
  rw [e, alsOf_snoc, show (l.take k).length = k by rw [List.length_take]; omega]
theorem alsOf_len (l : List AlarmR) (c : Int) : (alsOf l c).length = (ctrs l).count c := by
  have key : ∀ k, k ≤ l.length → (alsOf (l.take k) c).length = (ctrs (l.take k)).count c := by
    intro k
    induction k with
    | zero => intro _; rfl
    | succ k ih =>
      intro hk
      have hx : l[k]? = some l[k] := List.getElem?_eq_getElem (by omega)
      rw [alsOf_take hx, ctrs_snoc hx, List.length_append, ih (by omega), count_snoc]
      by_cases hc : l[k].counter = c <;> simp [hc]
  have h := key l.length (Nat.le_refl _)
  rwa [List.take_length] at h
theorem plOf_at {l : List AlarmR} {i : Nat} {x : AlarmR} (h : l[i]? = some x) : plOf l i = ((alsOf (l.take i) x.counter).length : Nat) := by
  unfold plOf; rw [h, alsOf_len]
theorem placesOf_at {l : List AlarmR} {i : Nat} {x : AlarmR} (h : l[i]? = some x) : (placesOf l)[i]? = some ((alsOf (l.take i) x.counter).length : Int) := by
  have hi := (List.getElem?_eq_some_iff.1 h).1
  unfold placesOf
  rw [List.getElem?_map, List.getElem?_range hi, Option.map_some, plOf_at h]
theorem placesOf_take {l : List AlarmR} {k : Nat} {x : AlarmR} (h : l[k]? = some x) : placesOf (l.take (k + 1)) = placesOf (l.take k) ++ [((alsOf (l.take k) x.counter).length : Int)] := by
  have hk := (List.getElem?_eq_some_iff.1 h).1
  have e : l.take (k + 1) = l.take k ++ [x] := by rw [List.take_add_one, h]; rfl
  rw [e]
  unfold placesOf
  have hl : (l.take k).length = k := by rw [List.length_take]; omega
  rw [List.length_append, List.length_singleton, hl, List.range_succ, List.map_append]
  congr 1
  · apply List.map_congr_left
    intro i hi
    rw [List.mem_range] at hi
    unfold plOf
    rw [List.getElem?_append_left (by omega), List.take_append_of_le_length (by omega)]
  · have h2 : (l.take k ++ [x])[k]? = some x := by rw [List.getElem?_append_right (by omega), hl]; simp
    simp only [List.map_cons, List.map_nil]
    rw [plOf_at h2, List.take_append_of_le_length (by omega), List.take_of_length_le (by omega)]
theorem alsOf_pre (l : List AlarmR) (c : Int) : ∀ k j, k ≤ j → j ≤ l.length → alsOf (l.take k) c <+: alsOf (l.take j) c := by
  intro k j hkj hj
  induction j with
  | zero =>
    obtain rfl : k = 0 := by omega
    exact List.prefix_refl _
  | succ j ih =>
    rcases Nat.lt_or_ge k (j + 1) with h | h
    · refine (ih (by omega) (by omega)).trans ?_
      have hx : l[j]? = some l[j] := List.getElem?_eq_getElem (by omega)
      rw [alsOf_take hx]
      exact List.prefix_append _ _
    · obtain rfl : k = j + 1 := by omega
      exact List.prefix_refl _
/-- the alarm at its place is the alarm -/
theorem alsOf_place {l : List AlarmR} {i : Nat} {x : AlarmR} (h : l[i]? = some x) : (alsOf l x.counter)[(alsOf (l.take i) x.counter).length]? = some (i : Int) := by
  have hi := (List.getElem?_eq_some_iff.1 h).1
  have h1 := alsOf_pre l x.counter (i + 1) l.length (by omega) (Nat.le_refl _)
  rw [List.take_length, alsOf_take h, if_pos rfl] at h1
  obtain ⟨t, ht⟩ := h1
  rw [← ht, List.append_assoc, List.getElem?_append_right (Nat.le_refl _), Nat.sub_self]
  rfl
/-- what stands in a counter's list is an alarm of it, at its place -/
theorem alsOf_spec {l : List AlarmR} {c : Int} {p : Nat} {a : Int} (h : (alsOf l c)[p]? = some a) : ∃ i x, a = ((i : Nat) : Int) ∧ l[i]? = some x ∧ x.counter = c ∧ p = (alsOf (l.take i) c).length := by
  have key : ∀ k, k ≤ l.length → ∀ p a, (alsOf (l.take k) c)[p]? = some a → ∃ i x, a = ((i : Nat) : Int) ∧ l[i]? = some x ∧ x.counter = c ∧ p = (alsOf (l.take i) c).length := by
    intro k
    induction k with
    | zero => intro _ p a h; simp [alsOf] at h
    | succ k ih =>
      intro hk p a h
      have hx : l[k]? = some l[k] := List.getElem?_eq_getElem (by omega)
      rw [alsOf_take hx] at h
      by_cases hc : l[k].counter = c
      · rw [if_pos hc] at h
        rcases Nat.lt_or_ge p (alsOf (l.take k) c).length with hp | hp
        · rw [List.getElem?_append_left hp] at h
          exact ih (by omega) p a h
        · rw [List.getElem?_append_right hp] at h
          have hp2 := (List.getElem?_eq_some_iff.1 h).1
          simp at hp2
          obtain rfl : p = (alsOf (l.take k) c).length := by omega
          simp at h
          exact ⟨k, _, h.symm, hx, hc, rfl⟩
      · rw [if_neg hc, List.append_nil] at h
        exact ih (by omega) p a h
  exact key l.length (Nat.le_refl _) p a (by rwa [List.take_length])
end Go.Tb
