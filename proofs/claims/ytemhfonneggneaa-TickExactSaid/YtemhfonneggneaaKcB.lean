/- Package clock: Rel, Abs, Set, Cancel, each in one form; the law of one alarm over many ticks. -/
import Derived.Test.YtemhfonneggneaaKcA
namespace Go.Proofs.Ytemhfonneggneaa.CK
open Go.RowKit Go.Fr

/-- an alarm is put -/
def putL (l : List (Bool × Nat × Nat)) (i : Int) (fine : Bool) (lf cy : Nat) : List (Bool × Nat × Nat) × Int :=
  if 0 ≤ i then (match l[i.toNat]? with | none => (l, 3) | some a => if a.1 then (l, 7) else if fine then (l.set i.toNat (true, lf, cy), 0) else (l, 8)) else (l, 3)
def cancelL (l : List (Bool × Nat × Nat)) (i : Int) : List (Bool × Nat × Nat) × Int :=
  if 0 ≤ i then (match l[i.toNat]? with | none => (l, 3) | some a => if a.1 then (l.set i.toNat (false, 0, 0), 0) else (l, 5)) else (l, 3)

theorem putL_no {l : List (Bool × Nat × Nat)} {i : Int} (h : (decide (0 ≤ i) && decide (i < l.length)) = false) (f : Bool) (lf cy : Nat) : putL l i f lf cy = (l, 3) := by
  unfold putL
  by_cases h0 : 0 ≤ i
  · have h1 : l.length ≤ i.toNat := by simp [h0] at h; omega
    rw [if_pos h0, List.getElem?_eq_none h1]
  · rw [if_neg h0]
theorem putL_at {l : List (Bool × Nat × Nat)} {k : Nat} {a : Bool × Nat × Nat} (h : l[k]? = some a) (f : Bool) (lf cy : Nat) : putL l k f lf cy = if a.1 then (l, 7) else if f then (l.set k (true, lf, cy), 0) else (l, 8) := by
  unfold putL
  rw [if_pos (Int.natCast_nonneg _), Int.toNat_natCast, h]
theorem cancelL_no {l : List (Bool × Nat × Nat)} {i : Int} (h : (decide (0 ≤ i) && decide (i < l.length)) = false) : cancelL l i = (l, 3) := by
  unfold cancelL
  by_cases h0 : 0 ≤ i
  · have h1 : l.length ≤ i.toNat := by simp [h0] at h; omega
    rw [if_pos h0, List.getElem?_eq_none h1]
  · rw [if_neg h0]
theorem cancelL_at {l : List (Bool × Nat × Nat)} {k : Nat} {a : Bool × Nat × Nat} (h : l[k]? = some a) : cancelL l k = if a.1 then (l.set k (false, 0, 0), 0) else (l, 5) := by
  unfold cancelL
  rw [if_pos (Int.natCast_nonneg _), Int.toNat_natCast, h]

theorem putL_length (l : List (Bool × Nat × Nat)) (i : Int) (f : Bool) (lf cy : Nat) : (putL l i f lf cy).1.length = l.length := by
  unfold putL; repeat' split
  all_goals simp
theorem cancelL_length (l : List (Bool × Nat × Nat)) (i : Int) : (cancelL l i).1.length = l.length := by
  unfold cancelL; repeat' split
  all_goals simp
theorem putL_other (l : List (Bool × Nat × Nat)) (i : Int) (f : Bool) (lf cy : Nat) {k : Nat} (h : i ≠ k) : (putL l i f lf cy).1[k]? = l[k]? := by
  unfold putL; repeat' split
  all_goals (first | rfl | (rw [List.getElem?_set_ne (by omega)]))
theorem cancelL_other (l : List (Bool × Nat × Nat)) (i : Int) {k : Nat} (h : i ≠ k) : (cancelL l i).1[k]? = l[k]? := by
  unfold cancelL; repeat' split
  all_goals (first | rfl | (rw [List.getElem?_set_ne (by omega)]))
theorem cancelL_snd (l : List (Bool × Nat × Nat)) (i : Int) : (cancelL l i).2 = ofS l i := by
  unfold cancelL ofS; repeat' split
  all_goals (first | rfl | simp_all)

theorem until_in (g n v : Nat) : 1 ≤ until' g n v ∧ until' g n v ≤ g + 1 := by
  unfold until'
  have := Nat.min_le_right n g
  have := Nat.min_le_right v g
  split <;> omega
theorem cyc_le {n m cy : Nat} (h : cycB n m cy = true) : cy ≤ m := by
  simp [cycB] at h; omega

section
variable {w : World} {b : Nat} {v : Value} {m n x : Nat} {l : List (Bool × Nat × Nat)}

theorem IsClk.same {w' : World} (hs : IsClk w b v m n x l) (k : Kept (fun _ => False) w w') : IsClk w' b v m n x l ∧ Kept (foot b v) w w' := ⟨hs.kept k (fun _ _ h => h), k.mono (fun _ _ h => h.elim)⟩

theorem rel_all (i : Int) (t cy : Nat) (ht : t ≤ 4294967295) (hs : IsClk w b v m n x l) : Calls Try.prog 33 #[.pointer (some ⟨b, 0, none⟩), .int .i64 i, .int .u32 t, .int .u32 cy] w fun e w' =>
    e = .returned (.int .i64 (putL l i (decide (1 ≤ t) && decide (t ≤ m) && cycB n m cy) t cy).2) ∧ IsClk w' b v m n x (putL l i (decide (1 ≤ t) && decide (t ≤ m) && cycB n m cy) t cy).1 ∧ Kept (foot b v) w w' := by
  cases hh : (decide (0 ≤ i) && decide (i < l.length)) with
  | false =>
    rw [putL_no hh]
    exact (rel_no i t cy hs hh).mono fun e w' ⟨he, k⟩ => ⟨he, hs.same k⟩
  | true =>
    obtain ⟨k, ⟨s, lf, c'⟩, rfl, hk, hx⟩ := at_of hh
    rw [putL_at hx]
    cases s with
    | true => exact (rel_set t cy hs hx).mono fun e w' ⟨he, k⟩ => ⟨he, hs.same k⟩
    | false =>
      cases hf : (decide (1 ≤ t) && decide (t ≤ m) && cycB n m cy) with
      | false => exact (rel_bad ht hs hx hf).mono fun e w' ⟨he, k⟩ => ⟨he, hs.same k⟩
      | true =>
        have h1 : 1 ≤ t := by simp at hf; omega
        have h2 : cycB n m cy = true := by simp at hf; exact hf.2
        exact (rel_ok ht hs hx hf ⟨h1, by omega⟩ (cyc_le h2)).mono fun e w' ⟨he, h, k⟩ => ⟨he, h, k⟩

theorem abs_all (i : Int) (t cy : Nat) (ht : t ≤ 4294967295) (hs : IsClk w b v m n x l) : Calls Try.prog 32 #[.pointer (some ⟨b, 0, none⟩), .int .i64 i, .int .u32 t, .int .u32 cy] w fun e w' =>
    e = .returned (.int .i64 (putL l i (decide (t ≤ m) && cycB n m cy) (until' m x t) cy).2) ∧ IsClk w' b v m n x (putL l i (decide (t ≤ m) && cycB n m cy) (until' m x t) cy).1 ∧ Kept (foot b v) w w' := by
  have hu := until_in m x t
  have hm := hs.2.2.2.hmost
  cases hh : (decide (0 ≤ i) && decide (i < l.length)) with
  | false =>
    rw [putL_no hh]
    exact (abs_no i t cy hs hh).mono fun e w' ⟨he, k⟩ => ⟨he, hs.same k⟩
  | true =>
    obtain ⟨k, ⟨s, lf, c'⟩, rfl, hk, hx⟩ := at_of hh
    rw [putL_at hx]
    cases s with
    | true => exact (abs_set t cy hs hx).mono fun e w' ⟨he, k⟩ => ⟨he, hs.same k⟩
    | false =>
      cases hf : (decide (t ≤ m) && cycB n m cy) with
      | false => exact (abs_bad ht hs hx hf).mono fun e w' ⟨he, k⟩ => ⟨he, hs.same k⟩
      | true =>
        have h2 : cycB n m cy = true := by simp at hf; exact hf.2
        exact (abs_ok ht hs hx hf ⟨hu.1, by omega⟩ (cyc_le h2)).mono fun e w' ⟨he, h, k⟩ => ⟨he, h, k⟩

theorem set_all (i : Int) (t cy : Nat) (ht : t ≤ 4294967295) (hs : IsClk w b v m n x l) : Calls Try.prog 77 #[.pointer (some ⟨b, 0, none⟩), .int .i64 i, .int .u32 t, .int .u32 cy] w fun e w' =>
    e = .returned (.int .i64 (putL l i (decide (1 ≤ t) && decide (t ≤ m + 1) && decide (cy ≤ m)) t cy).2) ∧ IsClk w' b v m n x (putL l i (decide (1 ≤ t) && decide (t ≤ m + 1) && decide (cy ≤ m)) t cy).1 ∧ Kept (foot b v) w w' := by
  have hm := hs.2.2.2.hmost
  cases hh : (decide (0 ≤ i) && decide (i < l.length)) with
  | false =>
    rw [putL_no hh]
    exact (set_no i t cy hs hh).mono fun e w' ⟨he, k⟩ => ⟨he, hs.same k⟩
  | true =>
    obtain ⟨k, ⟨s, lf, c'⟩, rfl, hk, hx⟩ := at_of hh
    rw [putL_at hx]
    cases s with
    | true => exact (set_set t cy hs hx).mono fun e w' ⟨he, k⟩ => ⟨he, hs.same k⟩
    | false =>
      cases hf : (decide (1 ≤ t) && decide (t ≤ m + 1) && decide (cy ≤ m)) with
      | false => exact (set_bad ht hs hx hf).mono fun e w' ⟨he, k⟩ => ⟨he, hs.same k⟩
      | true =>
        have h1 : 1 ≤ t ∧ t ≤ m + 1 ∧ cy ≤ m := by simp at hf; omega
        exact (set_ok ht hs hx hf ⟨h1.1, by omega⟩ h1.2.2).mono fun e w' ⟨he, h, k⟩ => ⟨he, h, k⟩

theorem cancel_all (i : Int) (hs : IsClk w b v m n x l) : Calls Try.prog 34 #[.pointer (some ⟨b, 0, none⟩), .int .i64 i] w fun e w' =>
    e = .returned (.int .i64 (cancelL l i).2) ∧ IsClk w' b v m n x (cancelL l i).1 ∧ Kept (foot b v) w w' := by
  have hno := cancel_no (i := i) hs
  cases hh : (decide (0 ≤ i) && decide (i < l.length)) with
  | false =>
    rw [cancelL_no hh]
    rw [(of_no hh).2] at hno
    exact (hno (by decide)).mono fun e w' ⟨he, k⟩ => ⟨he, hs.same k⟩
  | true =>
    obtain ⟨k, ⟨s, lf, c'⟩, rfl, hk, hx⟩ := at_of hh
    rw [cancelL_at hx]
    cases s with
    | true => exact (cancel_ok hs hx).mono fun e w' ⟨he, h, k⟩ => ⟨he, h, k⟩
    | false =>
      rw [(of_at hx).2] at hno
      exact (hno (by simp)).mono fun e w' ⟨he, k⟩ => ⟨he, hs.same k⟩
end

theorem succ_mod (a c : Nat) (hc : 0 < c) : (a + 1) % c = if a % c + 1 = c then 0 else a % c + 1 := by
  have h := Nat.div_add_mod a c
  have hl := Nat.mod_lt a hc
  split
  · rename_i e
    have h2 : a + 1 = c * (a / c + 1) := by rw [Nat.mul_add]; omega
    rw [h2, Nat.mul_mod_right]
  · have h2 : a + 1 = (a % c + 1) + c * (a / c) := by omega
    rw [h2, Nat.add_mul_mod_self_left, Nat.mod_eq_of_lt (by omega)]

/-- an alarm that was set to d ticks, j ticks behind -/
def al (d cy j : Nat) : Bool × Nat × Nat := if j < d then (true, d - j, cy) else if cy = 0 then (false, 0, 0) else (true, cy - (j - d) % cy, cy)
def due (d cy t : Nat) : Bool := decide (t = d) || (decide (d < t) && decide (0 < cy) && decide ((t - d) % cy = 0))

theorem al_zero {d : Nat} (cy : Nat) (h : 1 ≤ d) : al d cy 0 = (true, d, cy) := by
  unfold al; rw [if_pos (by omega)]; rfl
theorem al_tick {d : Nat} (cy j : Nat) (h : 1 ≤ d) : tick1 (al d cy j) = al d cy (j + 1) := by
  unfold al
  rcases Nat.lt_trichotomy (j + 1) d with h1 | h1 | h1
  · rw [if_pos (by omega : j < d), if_pos h1]
    simp only [tick1, if_true]
    rw [if_neg (by omega), show d - j - 1 = d - (j + 1) by omega]
  · subst h1
    rw [if_pos (Nat.lt_succ_self j), if_neg (Nat.lt_irrefl _)]
    simp only [tick1, if_true]
    rw [if_pos (by omega), Nat.sub_self, Nat.zero_mod, Nat.sub_zero]
  · rw [if_neg (show ¬ j < d by omega), if_neg (show ¬ j + 1 < d by omega)]
    by_cases hc : cy = 0
    · rw [if_pos hc, if_pos hc]; rfl
    · rw [if_neg hc, if_neg hc, show j + 1 - d = (j - d) + 1 by omega, succ_mod _ _ (by omega)]
      have hl := Nat.mod_lt (j - d) (show 0 < cy by omega)
      simp only [tick1, if_true]
      by_cases he : (j - d) % cy + 1 = cy
      · rw [if_pos (by omega), if_neg hc, if_pos he, Nat.sub_zero]
      · rw [if_neg (by omega), if_neg he, show cy - (j - d) % cy - 1 = cy - ((j - d) % cy + 1) by omega]
theorem al_fires {d : Nat} (cy j : Nat) (h : 1 ≤ d) : fires (al d cy j) = due d cy (j + 1) := by
  unfold al due
  rcases Nat.lt_trichotomy (j + 1) d with h1 | h1 | h1
  · rw [if_pos (show j < d by omega), decide_eq_false (show ¬ j + 1 = d by omega), decide_eq_false (show ¬ d < j + 1 by omega)]
    simp [fires]; omega
  · subst h1
    rw [if_pos (Nat.lt_succ_self j)]
    simp [fires]
  · rw [if_neg (show ¬ j < d by omega), decide_eq_false (show ¬ j + 1 = d by omega), decide_eq_true (show d < j + 1 by omega)]
    by_cases hc : cy = 0
    · rw [if_pos hc, decide_eq_false (show ¬ 0 < cy by omega)]; simp [fires]
    · rw [if_neg hc, decide_eq_true (show 0 < cy by omega), show j + 1 - d = (j - d) + 1 by omega, succ_mod _ _ (by omega)]
      have hl := Nat.mod_lt (j - d) (show 0 < cy by omega)
      by_cases he : (j - d) % cy + 1 = cy
      · rw [if_pos he]; simp [fires]; omega
      · rw [if_neg he]; simp [fires]; omega
theorem al_set {d : Nat} (cy j : Nat) : (al d cy j).1 = (decide (0 < cy) || decide (j < d)) := by
  unfold al
  by_cases h : j < d
  · rw [if_pos h]; simp [h]
  · rw [if_neg h]
    by_cases hc : cy = 0
    · rw [if_pos hc]; simp [hc, h]
    · rw [if_neg hc]; simp; omega

theorem fired_mem : ∀ (l : List (Bool × Nat × Nat)) (k : Nat) (y : Int), y ∈ fired l k → (k : Int) ≤ y ∧ y < k + l.length
  | [], k, y, h => by simp [fired] at h
  | a :: l, k, y, h => by
    rw [fired, List.mem_append] at h
    rw [List.length_cons]
    rcases h with h | h
    · split at h
      · simp at h; omega
      · simp at h
    · have := fired_mem l (k + 1) y h; omega
theorem fired_sorted : ∀ (l : List (Bool × Nat × Nat)) (k : Nat), (fired l k).Pairwise (· < ·)
  | [], k => by simp [fired]
  | a :: l, k => by
    rw [fired, List.pairwise_append]
    refine ⟨by split <;> simp, fired_sorted l (k + 1), fun y hy z hz => ?_⟩
    have := fired_mem l (k + 1) z hz
    split at hy
    · simp at hy; omega
    · simp at hy
theorem fired_has : ∀ (l : List (Bool × Nat × Nat)) (k j : Nat) (a : Bool × Nat × Nat), l[j]? = some a → (((k + j : Nat) : Int) ∈ fired l k ↔ fires a = true)
  | [], k, j, a, h => by simp at h
  | b :: l, k, 0, a, h => by
    simp at h; subst h
    rw [fired, List.mem_append, Nat.add_zero]
    constructor
    · rintro (h | h)
      · split at h
        · assumption
        · simp at h
      · have := fired_mem l (k + 1) _ h; omega
    · intro h; rw [if_pos h]; exact Or.inl (by simp)
  | b :: l, k, j + 1, a, h => by
    rw [fired, List.mem_append, show k + (j + 1) = k + 1 + j by omega]
    have ih := fired_has l (k + 1) j a (by simpa using h)
    constructor
    · rintro (h | h)
      · split at h
        · simp at h; omega
        · simp at h
      · exact ih.1 h
    · intro h; exact Or.inr (ih.2 h)

end Go.Proofs.Ytemhfonneggneaa.CK
