/- What comes first, as the document reckons it: the first of the least, found from the left. No program is in sight here. -/
import Derived.Test.YtialldmepphloaaComL
namespace Go.Com

def norm (a : Al) : Al := if a.1 then a else (false, 0, 0)
theorem am_norm : ∀ l : List Al, am (l.map norm) = am l
  | [] => rfl
  | (s, lf, cy) :: l => by
    rw [List.map_cons, am, am, am_norm l]
    cases s <;> cases am l <;> simp [norm]
theorem am_snoc (a : Al) : ∀ l : List Al, am (l ++ [a]) = match am l with
    | none => if a.1 then some (l.length, a.2.1) else none
    | some (j, m) => if a.1 && decide (a.2.1 < m) then some (l.length, a.2.1) else some (j, m)
  | [] => by simp [am]
  | b :: l => by
    rw [List.cons_append, am, am, am_snoc a l]
    cases hl : am l with
    | none =>
      cases ha : a.1 <;> cases hb : b.1 <;> simp
      by_cases h : b.2.1 ≤ a.2.1
      · rw [if_pos h, if_neg (by omega)]
      · rw [if_neg h, if_pos (by omega)]
    | some r =>
      obtain ⟨j, m⟩ := r
      have e : (a.2.1 < b.2.1) = ¬ (b.2.1 ≤ a.2.1) := by simp
      have e2 : (m < b.2.1) = ¬ (b.2.1 ≤ m) := by simp
      cases ha : a.1 <;> cases hb : b.1 <;> by_cases h1 : b.2.1 ≤ m <;> by_cases h2 : a.2.1 < m <;> by_cases h3 : b.2.1 ≤ a.2.1 <;> simp [h1, h2, h3, e] <;> omega

/-- how the document sets an alarm on -/
def nxr (a : Al) : Al := (decide (0 < a.2.2), a.2.1 + a.2.2, a.2.2)
theorem norm_nxr (a : Al) : norm (nxr a) = nx a := by
  unfold norm nxr nx
  by_cases h : a.2.2 = 0
  · simp [h]
  · simp [h, show 0 < a.2.2 by omega]
theorem upd_norm {A : List Al} {k : Nat} {a : Al} (h : A[k]? = some a) (ha : a.1 = true) : upd (A.map norm) k = (A.set k (nxr a)).map norm := by
  unfold upd
  rw [List.getElem?_map, h]
  simp only [Option.map_some]
  rw [List.map_set, norm_nxr]
  congr 1
  unfold norm nx; rw [if_pos ha]
theorem absA_zero (l : List Al) : l.map (absA 0) = l.map norm := by
  refine List.map_congr_left fun a _ => ?_
  obtain ⟨s, lf, cy⟩ := a
  cases s <;> simp [absA, norm]
theorem am_take {A : List Al} {k m : Nat} (h : am A = some (k, m)) : ∃ c, A[k]? = some (true, m, c) := ((am_spec A).2 k m h).1

/-- the place of the first of the least, as a number of Go's -/
def amI (A : List Al) : Int := match am A with | none => -1 | some (k, _) => (k : Int)
theorem amI_lt (A : List Al) : -1 ≤ amI A ∧ amI A < A.length := by
  unfold amI
  cases h : am A with
  | none => simp only; omega
  | some r =>
    obtain ⟨c, hc⟩ := am_take (k := r.1) (m := r.2) h
    have := (List.getElem?_eq_some_iff.1 hc).1
    simp only; omega
theorem amI_skip {A : List Al} {i lf cy : Nat} (h : A[i]? = some (false, lf, cy)) : amI (A.take (i + 1)) = amI (A.take i) := by
  unfold amI
  rw [List.take_add_one, h, Option.toList_some, am_snoc]
  cases am (A.take i) <;> simp
theorem amI_first {A : List Al} {i lf cy : Nat} (h : A[i]? = some (true, lf, cy)) (hn : amI (A.take i) < 0) : amI (A.take (i + 1)) = i := by
  have hi := (List.getElem?_eq_some_iff.1 h).1
  unfold amI at *
  rw [List.take_add_one, h, Option.toList_some, am_snoc]
  cases hc : am (A.take i) with
  | none => simp; omega
  | some r => rw [hc] at hn; simp at hn; omega
theorem amI_more {A : List Al} {i lf cy k m c : Nat} (h : A[i]? = some (true, lf, cy)) (hk : amI (A.take i) = (k : Int)) (hm : A[k]? = some (true, m, c)) : amI (A.take (i + 1)) = if lf < m then (i : Int) else (k : Int) := by
  have hi := (List.getElem?_eq_some_iff.1 h).1
  have hlt := (amI_lt (A.take i)).2
  rw [List.length_take] at hlt
  rw [hk] at hlt
  unfold amI at *
  rw [List.take_add_one, h, Option.toList_some, am_snoc]
  cases hc : am (A.take i) with
  | none => rw [hc] at hk; simp only at hk; omega
  | some r =>
    obtain ⟨k', m'⟩ := r
    rw [hc] at hk
    simp only at hk
    obtain rfl : k' = k := by omega
    obtain ⟨c', hc'⟩ := am_take hc
    rw [List.getElem?_take_of_lt (by omega), hm] at hc'
    simp only [Option.some.injEq, Prod.mk.injEq] at hc'
    obtain ⟨_, rfl, rfl⟩ := hc'
    by_cases hl : lf < m
    · simp [hl]; omega
    · simp [hl]
theorem amI_set {A : List Al} {k : Nat} (h : amI A = (k : Int)) : ∃ m c, A[k]? = some (true, m, c) ∧ am A = some (k, m) := by
  unfold amI at h
  cases hc : am A with
  | none => rw [hc] at h; simp only at h; omega
  | some r =>
    obtain ⟨k', m'⟩ := r
    rw [hc] at h
    simp only at h
    obtain rfl : k' = k := by omega
    obtain ⟨c', hc'⟩ := am_take hc
    exact ⟨m', c', hc', rfl⟩
theorem amI_set' {A : List Al} {k i : Nat} (h : amI (A.take i) = (k : Int)) : ∃ m c, A[k]? = some (true, m, c) := by
  obtain ⟨m, c, h1, _⟩ := amI_set h
  have hk := (List.getElem?_eq_some_iff.1 h1).1
  rw [List.length_take] at hk
  rw [List.getElem?_take_of_lt (by omega)] at h1
  exact ⟨m, c, h1⟩
theorem amI_none {A : List Al} (h : amI A < 0) : am A = none := by
  unfold amI at h
  cases hc : am A with
  | none => rfl
  | some r => rw [hc] at h; simp only at h; omega

end Go.Com
