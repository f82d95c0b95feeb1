/- A queue of ready tasks as a list of rows (priority, capacity, the most there were, the ids), the priorities falling; its bits; what each call makes of it. No program is in sight here. -/
import Derived.Test.YtdjdnfjfomeldaaFrame
import Derived.Lib.BitFns
namespace Go.Rq

abbrev En := Nat × Nat × Int × List Int
def ne (e : En) : Bool := !e.2.2.2.isEmpty
def bitsN : List En → Nat
  | [] => 0
  | e :: st => bitsN st ||| (if ne e then 2 ^ e.1 else 0)

structure Falls (st : List En) : Prop where
  falls : st.Pairwise (fun a b => b.1 < a.1)
  lt : ∀ e ∈ st, e.1 < 64
  cap : ∀ e ∈ st, 1 ≤ e.2.1 ∧ e.2.1 ≤ 65536
  len : ∀ e ∈ st, e.2.2.2.length ≤ e.2.1

theorem bits_test (p : Nat) : ∀ st : List En, (bitsN st).testBit p = st.any (fun e => ne e && decide (e.1 = p))
  | [] => by simp [bitsN]
  | e :: st => by
    rw [bitsN, Nat.testBit_or, bits_test p st, List.any_cons]
    cases ne e <;> simp [Bool.or_comm, Nat.testBit_two_pow]
theorem or_swap (a b c : Nat) : (a ||| b) ||| c = (a ||| c) ||| b := by rw [Nat.or_assoc, Nat.or_comm b c, ← Nat.or_assoc]
theorem bits_snoc (e : En) : ∀ st : List En, bitsN (st ++ [e]) = bitsN st ||| (if ne e then 2 ^ e.1 else 0)
  | [] => by simp [bitsN]
  | a :: st => by rw [List.cons_append, bitsN, bitsN, bits_snoc e st, or_swap]
theorem bits_zero {st : List En} (h : ∀ e ∈ st, ne e = false) : bitsN st = 0 := by
  refine Nat.eq_of_testBit_eq fun p => ?_
  rw [bits_test, Nat.zero_testBit, List.any_eq_false]
  intro e he
  simp [h e he]
theorem bits_lt {st : List En} (h : ∀ e ∈ st, e.1 < 64) : bitsN st < 18446744073709551616 := by
  refine Nat.lt_pow_two_of_testBit (n := 64) _ fun i hi => ?_
  rw [bits_test, List.any_eq_false]
  intro e he
  have := h e he
  simp; omega
theorem bits_put {e' : En} : ∀ {st : List En} {i : Nat} {e : En}, st[i]? = some e → e'.1 = e.1 → ne e' = true → bitsN (st.set i e') = bitsN st ||| 2 ^ e.1
  | [], i, e, h, _, _ => by simp at h
  | a :: st, 0, e, h, h1, h2 => by
    simp at h; subst h
    rw [List.set_cons_zero, bitsN, bitsN, if_pos h2, h1]
    cases ne a with
    | false => simp
    | true => simp [Nat.or_assoc]
  | a :: st, i + 1, e, h, h1, h2 => by
    rw [List.set_cons_succ, bitsN, bitsN, bits_put (by simpa using h) h1 h2, or_swap]
theorem bits_same {e' : En} : ∀ {st : List En} {i : Nat} {e : En}, st[i]? = some e → e'.1 = e.1 → ne e' = ne e → bitsN (st.set i e') = bitsN st
  | [], i, e, h, _, _ => by simp at h
  | a :: st, 0, e, h, h1, h2 => by
    simp at h; subst h
    rw [List.set_cons_zero, bitsN, bitsN, h2, h1]
  | a :: st, i + 1, e, h, h1, h2 => by
    rw [List.set_cons_succ, bitsN, bitsN, bits_same (by simpa using h) h1 h2]
theorem mask_test (p i : Nat) (hp : p < 64) : (18446744073709551615 - 2 ^ p).testBit i = (decide (i < 64) && !decide (p = i)) := by
  rw [show 18446744073709551615 - 2 ^ p = 2 ^ 64 - (2 ^ p + 1) by omega, Nat.testBit_two_pow_sub_succ (Nat.pow_lt_pow_right (by decide) hp), Nat.testBit_two_pow]
theorem bits_take {st : List En} {i : Nat} {e e' : En} (hF : Falls st) (hx : st[i]? = some e) (h1 : ne e' = false) : bitsN (st.set i e') = bitsN st &&& (18446744073709551615 - 2 ^ e.1) := by
  have hi := (List.getElem?_eq_some_iff.1 hx).1
  have hp := hF.lt e (List.mem_of_getElem? hx)
  refine Nat.eq_of_testBit_eq fun p => ?_
  rw [Nat.testBit_and, bits_test, bits_test, mask_test _ _ hp, Bool.eq_iff_iff]
  simp only [List.any_eq_true, Bool.and_eq_true, decide_eq_true_eq, Bool.not_eq_true', decide_eq_false_iff_not]
  constructor
  · rintro ⟨a, ha, h2, rfl⟩
    obtain ⟨j, hj⟩ := List.getElem?_of_mem ha
    rw [List.getElem?_set] at hj
    by_cases hij : i = j
    · rw [if_pos hij] at hj
      rw [if_pos (by omega)] at hj
      simp at hj; subst hj; rw [h1] at h2; cases h2
    · rw [if_neg hij] at hj
      have hm := List.mem_of_getElem? hj
      refine ⟨⟨a, hm, h2, rfl⟩, hF.lt a hm, fun he => hij ?_⟩
      obtain ⟨hi', ei⟩ := List.getElem?_eq_some_iff.1 hx
      obtain ⟨hj', ej⟩ := List.getElem?_eq_some_iff.1 hj
      have hpw := List.pairwise_iff_getElem.1 hF.falls
      rcases Nat.lt_trichotomy i j with h | h | h
      · have := hpw i j hi' hj' h; rw [ei, ej] at this; omega
      · exact h
      · have := hpw j i hj' hi' h; rw [ei, ej] at this; omega
  · rintro ⟨⟨a, ha, h2, rfl⟩, _, h3⟩
    obtain ⟨j, hj⟩ := List.getElem?_of_mem ha
    refine ⟨a, ?_, h2, rfl⟩
    have hij : i ≠ j := by rintro rfl; rw [hx] at hj; simp at hj; subst hj; exact h3 rfl
    refine List.mem_of_getElem? (i := j) ?_
    rw [List.getElem?_set, if_neg hij, hj]
theorem bits_nz {st : List En} {e : En} (he : e ∈ st) (hn : ne e = true) : 0 < bitsN st := by
  have h : (bitsN st).testBit e.1 = true := by rw [bits_test, List.any_eq_true]; exact ⟨e, he, by simp [hn]⟩
  have := Nat.ge_two_pow_of_testBit h
  have := Nat.two_pow_pos e.1
  omega
/-- the first row with an id is the greatest bit -/
theorem bits_top {st : List En} {i : Nat} {e : En} (hF : Falls st) (hx : st[i]? = some e) (hn : ne e = true) (hb : ∀ j a, j < i → st[j]? = some a → ne a = false) : Lib.bitLen (bitsN st) = e.1 + 1 := by
  have hm := List.mem_of_getElem? hx
  have hp := hF.lt e hm
  have h1 : 2 ^ e.1 ≤ bitsN st := Nat.ge_two_pow_of_testBit (by rw [bits_test, List.any_eq_true]; exact ⟨e, hm, by simp [hn]⟩)
  have h2 : bitsN st < 2 ^ (e.1 + 1) := by
    refine Nat.lt_pow_two_of_testBit _ fun q hq => ?_
    rw [bits_test, List.any_eq_false]
    intro a ha
    simp only [Bool.and_eq_true, decide_eq_true_eq, not_and]
    intro h3 h4
    obtain ⟨j, hj⟩ := List.getElem?_of_mem ha
    obtain ⟨hi', ei⟩ := List.getElem?_eq_some_iff.1 hx
    obtain ⟨hj', ej⟩ := List.getElem?_eq_some_iff.1 hj
    rcases Nat.lt_or_ge j i with h | h
    · rw [hb j a h hj] at h3; cases h3
    · rcases Nat.eq_or_lt_of_le h with h | h
      · subst h; rw [hx] at hj; simp at hj; subst hj; omega
      · have := List.pairwise_iff_getElem.1 hF.falls i j hi' hj' h; rw [ei, ej] at this; omega
  rw [Lib.bitLen_shift e.1 _ h1 (bits_lt hF.lt)]
  have h3 : bitsN st / 2 ^ e.1 = 1 := by
    have hpos := Nat.two_pow_pos e.1
    rw [Nat.pow_succ] at h2
    refine Nat.div_eq_of_lt_le (by omega) (by omega)
  rw [h3]
  rfl

/-- the place of a priority's row -/
def idx : List En → Int → Option Nat
  | [], _ => none
  | e :: st, p => if (e.1 : Int) = p then some 0 else (idx st p).map (· + 1)
theorem idx_none : ∀ {st : List En} {p : Int}, idx st p = none → ∀ e ∈ st, (e.1 : Int) ≠ p
  | [], _, _, e, he => by cases he
  | a :: st, p, h, e, he => by
    rw [idx] at h
    split at h
    · cases h
    · rename_i hn
      rcases List.mem_cons.1 he with rfl | he
      · exact hn
      · exact idx_none (by simpa using h) e he
theorem idx_some : ∀ {st : List En} {p : Int} {i : Nat}, idx st p = some i → ∃ e, st[i]? = some e ∧ (e.1 : Int) = p ∧ ∀ j a, j < i → st[j]? = some a → (a.1 : Int) ≠ p
  | [], _, _, h => by cases h
  | a :: st, p, i, h => by
    rw [idx] at h
    split at h
    · rename_i hn
      simp at h; subst h
      exact ⟨a, rfl, hn, fun j _ hj => by omega⟩
    · rename_i hn
      obtain ⟨k, hk, rfl⟩ := Option.map_eq_some_iff.1 h
      obtain ⟨e, h1, h2, h3⟩ := idx_some hk
      refine ⟨e, by simpa using h1, h2, fun j b hj hb => ?_⟩
      cases j with
      | zero => simp at hb; subst hb; exact hn
      | succ j => exact h3 j b (by omega) (by simpa using hb)
theorem idx_set {e e' : En} : ∀ {st : List En} {i : Nat}, st[i]? = some e → e'.1 = e.1 → ∀ p, idx (st.set i e') p = idx st p
  | [], i, h, _, _ => by simp at h
  | a :: st, 0, h, h1, p => by simp at h; subst h; rw [List.set_cons_zero, idx, idx, h1]
  | a :: st, i + 1, h, h1, p => by rw [List.set_cons_succ, idx, idx, idx_set (by simpa using h) h1 p]

theorem Falls.set {st : List En} {i : Nat} {e e' : En} (h : Falls st) (hx : st[i]? = some e) (h1 : e'.1 = e.1) (h2 : e'.2.1 = e.2.1) (h3 : e'.2.2.2.length ≤ e'.2.1) : Falls (st.set i e') := by
  have hi := (List.getElem?_eq_some_iff.1 hx).1
  have hm := List.mem_of_getElem? hx
  have cases' : ∀ a ∈ st.set i e', a ∈ st ∨ a = e' := fun a ha => List.mem_or_eq_of_mem_set ha
  refine ⟨?_, fun a ha => ?_, fun a ha => ?_, fun a ha => ?_⟩
  · rw [List.pairwise_iff_getElem]
    intro j k hj hk hjk
    rw [List.length_set] at hj hk
    have hpw := List.pairwise_iff_getElem.1 h.falls j k hj hk hjk
    have he := (List.getElem?_eq_some_iff.1 hx).2
    rw [List.getElem_set, List.getElem_set]
    split
    · rename_i hij
      subst hij
      split
      · omega
      · rw [h1, ← he]; exact hpw
    · split
      · rename_i hik
        subst hik
        rw [h1, ← he]; exact hpw
      · exact hpw
  · rcases cases' a ha with h' | rfl
    · exact h.lt a h'
    · rw [h1]; exact h.lt e hm
  · rcases cases' a ha with h' | rfl
    · exact h.cap a h'
    · rw [h2]; exact h.cap e hm
  · rcases cases' a ha with h' | rfl
    · exact h.len a h'
    · exact h3

/-- put -/
def putQ (st : List En) (p x : Int) (head : Bool) : List En × Int :=
  match idx st p with
  | none => (st, 130)
  | some i => match st[i]? with
    | none => (st, 130)
    | some e => if e.2.1 ≤ e.2.2.2.length then (st, 131) else
      (st.set i (e.1, e.2.1, Fr.mxi e.2.2.1 ((e.2.2.2.length : Int) + 1), if head then x :: e.2.2.2 else e.2.2.2 ++ [x]), 0)
/-- the first row that has an id -/
def top : List En → Option Nat
  | [] => none
  | e :: st => if ne e then some 0 else (top st).map (· + 1)
theorem top_none : ∀ {st : List En}, top st = none → ∀ e ∈ st, ne e = false
  | [], _, e, he => by cases he
  | a :: st, h, e, he => by
    rw [top] at h
    split at h
    · cases h
    · rename_i hn
      rcases List.mem_cons.1 he with rfl | he
      · simpa using hn
      · exact top_none (by simpa using h) e he
theorem top_some : ∀ {st : List En} {i : Nat}, top st = some i → ∃ e, st[i]? = some e ∧ ne e = true ∧ ∀ j a, j < i → st[j]? = some a → ne a = false
  | [], _, h => by cases h
  | a :: st, i, h => by
    rw [top] at h
    split at h
    · rename_i hn
      simp at h; subst h
      exact ⟨a, rfl, hn, fun j _ hj => by omega⟩
    · rename_i hn
      obtain ⟨k, hk, rfl⟩ := Option.map_eq_some_iff.1 h
      obtain ⟨e, h1, h2, h3⟩ := top_some hk
      refine ⟨e, by simpa using h1, h2, fun j b hj hb => ?_⟩
      cases j with
      | zero => simp at hb; subst hb; simpa using hn
      | succ j => exact h3 j b (by omega) (by simpa using hb)
/-- Take -/
def takeQ (st : List En) : List En × (Int × Int) × Int :=
  match top st with
  | none => (st, (0, 0), 132)
  | some i => match st[i]? with
    | some (p, c, h, x :: l) => (st.set i (p, c, h, l), ((p : Int), x), 0)
    | _ => (st, (0, 0), 132)
theorem takeQ_none {st : List En} (h : top st = none) : takeQ st = (st, (0, 0), 132) := by unfold takeQ; rw [h]
theorem takeQ_some {st : List En} {i : Nat} {p c : Nat} {hi x : Int} {l : List Int} (h : top st = some i) (hx : st[i]? = some (p, c, hi, x :: l)) : takeQ st = (st.set i (p, c, hi, l), ((p : Int), x), 0) := by unfold takeQ; rw [h]; simp only [hx]
def allQ (st : List En) : List (Int × Int) := st.flatMap (fun e => e.2.2.2.map (fun x => ((e.1 : Int), x)))
def clearQ (st : List En) : List En := st.map (fun e => (e.1, e.2.1, e.2.2.1, []))
/-- how many ids a priority's row has -/
def lenAt (st : List En) (p : Int) : Nat := ((idx st p).bind fun i => (st[i]?).map fun e => e.2.2.2.length).getD 0
/-- how many ids the rows below a priority have -/
def lenB (st : List En) (P : Nat) : Nat := (st.map (fun e => if e.1 < P then e.2.2.2.length else 0)).sum
theorem lenB_zero (st : List En) : lenB st 0 = 0 := by
  unfold lenB
  induction st with
  | nil => rfl
  | cons e st ih => simp at ih ⊢; exact ih
theorem lenAt_le {st : List En} (hF : Falls st) (p : Int) : lenAt st p ≤ 65536 := by
  unfold lenAt
  cases h : idx st p with
  | none => simp
  | some i =>
    obtain ⟨e, he, _, _⟩ := idx_some h
    have h1 := hF.cap e (List.mem_of_getElem? he)
    have h2 := hF.len e (List.mem_of_getElem? he)
    simp [he]; omega
theorem Falls.tail {e : En} {st : List En} (h : Falls (e :: st)) : Falls st ∧ ∀ a ∈ st, a.1 < e.1 := by
  have h1 := List.pairwise_cons.1 h.falls
  exact ⟨⟨h1.2, fun a ha => h.lt a (List.mem_cons_of_mem _ ha), fun a ha => h.cap a (List.mem_cons_of_mem _ ha), fun a ha => h.len a (List.mem_cons_of_mem _ ha)⟩, h1.1⟩
theorem lenB_cons (e : En) (st : List En) (P : Nat) : lenB (e :: st) P = (if e.1 < P then e.2.2.2.length else 0) + lenB st P := by simp [lenB]
theorem lenAt_cons (e : En) (st : List En) (p : Int) : lenAt (e :: st) p = if (e.1 : Int) = p then e.2.2.2.length else lenAt st p := by
  unfold lenAt
  rw [idx]
  split
  · simp
  · cases idx st p <;> simp
theorem lenAt_low {st : List En} {p : Nat} (h : ∀ a ∈ st, a.1 < p) : lenAt st p = 0 := by
  unfold lenAt
  cases hi : idx st p with
  | none => rfl
  | some i => obtain ⟨e, he, h2, _⟩ := idx_some hi; have := h e (List.mem_of_getElem? he); omega
theorem lenB_succ : ∀ {st : List En}, Falls st → ∀ P : Nat, lenB st (P + 1) = lenB st P + lenAt st P
  | [], _, P => rfl
  | e :: st, hF, P => by
    obtain ⟨h1, h2⟩ := hF.tail
    rw [lenB_cons, lenB_cons, lenAt_cons, lenB_succ h1 P]
    by_cases h : e.1 = P
    · have : lenAt st P = 0 := lenAt_low (fun a ha => by have := h2 a ha; omega)
      rw [if_pos (by omega), if_neg (by omega), if_pos (by omega), this]
      omega
    · rw [if_neg (show ¬ (e.1 : Int) = P by omega)]
      by_cases h3 : e.1 < P
      · rw [if_pos (by omega), if_pos h3]; omega
      · rw [if_neg (by omega), if_neg h3]; omega
theorem lenB_le {st : List En} (hF : Falls st) : ∀ P : Nat, lenB st P ≤ P * 65536
  | 0 => by rw [lenB_zero]; omega
  | P + 1 => by have := lenB_le hF P; have := lenAt_le hF P; rw [lenB_succ hF]; omega
theorem lenB_all {st : List En} (h : ∀ e ∈ st, e.1 < 64) : lenB st 64 = (allQ st).length := by
  induction st with
  | nil => rfl
  | cons e st ih =>
    rw [lenB_cons, ih (fun a ha => h a (List.mem_cons_of_mem _ ha)), if_pos (h e (by simp))]
    simp [allQ]
/-- the rows below a priority are cleared -/
def clearE (e : En) : En := (e.1, e.2.1, e.2.2.1, [])
def clearB (st : List En) (P : Nat) : List En := st.map (fun e => if e.1 < P then clearE e else e)
theorem clearB_zero (st : List En) : clearB st 0 = st := by unfold clearB; simp
theorem clearB_at {st : List En} {P i : Nat} {e : En} (h : st[i]? = some e) : (clearB st P)[i]? = some (if e.1 < P then clearE e else e) := by unfold clearB; rw [List.getElem?_map, h]; rfl
theorem clearB_idx (P : Nat) (p : Int) : ∀ st : List En, idx (clearB st P) p = idx st p
  | [] => rfl
  | e :: st => by
    have ih := clearB_idx P p st
    unfold clearB at ih ⊢
    rw [List.map_cons, idx, idx, ih]
    have : ((if e.1 < P then clearE e else e).1 : Int) = (e.1 : Int) := by split <;> rfl
    rw [this]
theorem clearB_none {st : List En} {P : Nat} (h : idx st (P : Int) = none) : clearB st (P + 1) = clearB st P := by
  unfold clearB
  refine List.map_congr_left fun e he => ?_
  have := idx_none h e he
  by_cases h2 : e.1 < P
  · rw [if_pos (by omega), if_pos h2]
  · rw [if_neg (by omega), if_neg h2]
theorem clearB_some {st : List En} (hF : Falls st) {P i : Nat} {e : En} (hx : st[i]? = some e) (hp : e.1 = P) : clearB st (P + 1) = (clearB st P).set i (clearE e) := by
  refine List.ext_getElem? fun j => ?_
  have hi := (List.getElem?_eq_some_iff.1 hx)
  rw [List.getElem?_set]
  by_cases hij : i = j
  · subst hij
    rw [clearB_at hx, if_pos (show e.1 < P + 1 by omega), if_pos rfl, if_pos (by unfold clearB; rw [List.length_map]; exact hi.1)]
  · rw [if_neg hij]
    cases ha : st[j]? with
    | none => unfold clearB; rw [List.getElem?_map, List.getElem?_map, ha]; rfl
    | some a =>
      rw [clearB_at ha, clearB_at ha]
      have hne : a.1 ≠ P := by
        obtain ⟨hj, ej⟩ := List.getElem?_eq_some_iff.1 ha
        have hpw := List.pairwise_iff_getElem.1 hF.falls
        rcases Nat.lt_trichotomy i j with h | h | h
        · have := hpw i j hi.1 hj h; rw [hi.2, ej] at this; omega
        · exact absurd h hij
        · have := hpw j i hj hi.1 h; rw [hi.2, ej] at this; omega
      by_cases h2 : a.1 < P
      · rw [if_pos (by omega), if_pos h2]
      · rw [if_neg (by omega), if_neg h2]
theorem clearB_all {st : List En} (h : ∀ e ∈ st, e.1 < 64) : clearB st 64 = clearQ st := by
  unfold clearB clearQ
  exact List.map_congr_left fun e he => by rw [if_pos (h e he)]; rfl
theorem clearQ_bits (st : List En) : bitsN (clearQ st) = 0 := by
  refine bits_zero fun e he => ?_
  obtain ⟨a, _, rfl⟩ := List.mem_map.1 he
  rfl

/-- the rows below a priority -/
def below (st : List En) (P : Nat) : List En := st.filter (fun e => decide (e.1 < P))
theorem below_zero (st : List En) : below st 0 = [] := by unfold below; simp
theorem below_all {st : List En} (h : ∀ e ∈ st, e.1 < 64) : below st 64 = st := by unfold below; rw [List.filter_eq_self]; intro e he; simpa using h e he
theorem below_mem {st : List En} {P : Nat} {e : En} (h : e ∈ below st P) : e ∈ st ∧ e.1 < P := by unfold below at h; rw [List.mem_filter] at h; simpa using h
theorem below_none {st : List En} {P : Nat} (h : idx st (P : Int) = none) : below st (P + 1) = below st P := by
  unfold below
  refine List.filter_congr fun e he => ?_
  have := idx_none h e he
  rw [decide_eq_decide]; omega
theorem below_some : ∀ {st : List En}, Falls st → ∀ {P i : Nat} {e : En}, idx st (P : Int) = some i → st[i]? = some e → below st (P + 1) = e :: below st P
  | [], _, _, _, _, h, _ => by cases h
  | a :: st, hF, P, i, e, h, hx => by
    obtain ⟨h1, h2⟩ := hF.tail
    rw [idx] at h
    unfold below
    split at h
    · rename_i hp
      simp at h; subst h
      simp at hx; subst hx
      have hall : ∀ Q : Nat, a.1 ≤ Q → st.filter (fun e => decide (e.1 < Q)) = st := fun Q hQ => by
        rw [List.filter_eq_self]; intro b hb; have := h2 b hb; simp; omega
      rw [List.filter_cons_of_pos (by simp; omega), List.filter_cons_of_neg (by simp; omega), hall _ (by omega), hall _ (by omega)]
    · rename_i hp
      obtain ⟨k, hk, rfl⟩ := Option.map_eq_some_iff.1 h
      have ih := below_some h1 hk (by simpa using hx)
      unfold below at ih
      obtain ⟨e', he', hpe, _⟩ := idx_some hk
      have hge : P < a.1 := by have := h2 e' (List.mem_of_getElem? he'); omega
      rw [List.filter_cons_of_neg (by simp; omega), List.filter_cons_of_neg (by simp; omega), ih]
theorem Falls.below {st : List En} (h : Falls st) (P : Nat) : Falls (below st P) :=
  ⟨h.falls.filter _, fun e he => h.lt e (below_mem he).1, fun e he => h.cap e (below_mem he).1, fun e he => h.len e (below_mem he).1⟩
/-- the ids of a priority; all ids of the rows from a priority on -/
def idsAt (st : List En) (p : Int) : List Int := ((idx st p).bind fun i => (st[i]?).map fun e => e.2.2.2).getD []
def aboveQ (st : List En) (q : Nat) : List (Int × Int) := allQ (st.filter fun e => decide (q ≤ e.1))
theorem idsAt_cons (e : En) (st : List En) (p : Int) : idsAt (e :: st) p = if (e.1 : Int) = p then e.2.2.2 else idsAt st p := by
  unfold idsAt
  rw [idx]
  split
  · simp
  · cases idx st p <;> simp
theorem idsAt_low {st : List En} {p : Nat} (h : ∀ a ∈ st, a.1 < p) : idsAt st p = [] := by
  unfold idsAt
  cases hi : idx st p with
  | none => rfl
  | some i => obtain ⟨e, he, h2, _⟩ := idx_some hi; have := h e (List.mem_of_getElem? he); omega
theorem idsAt_len' {st : List En} (hF : Falls st) (p : Int) : (idsAt st p).length ≤ 65536 := by
  unfold idsAt
  cases h : idx st p with
  | none => simp
  | some i =>
    obtain ⟨e, he, _, _⟩ := idx_some h
    have h1 := hF.cap e (List.mem_of_getElem? he)
    have h2 := hF.len e (List.mem_of_getElem? he)
    simp [he]; omega
theorem aboveQ_low {st : List En} {q : Nat} (h : ∀ a ∈ st, a.1 < q) : aboveQ st q = [] := by
  unfold aboveQ
  rw [List.filter_eq_nil_iff.2 (fun a ha => by have := h a ha; simp; omega)]
  rfl
theorem aboveQ_all (st : List En) : aboveQ st 0 = allQ st := by
  unfold aboveQ
  rw [List.filter_eq_self.2 (fun a _ => by simp)]
theorem aboveQ_top {st : List En} (hF : Falls st) : aboveQ st 64 = [] := aboveQ_low hF.lt
theorem aboveQ_cons_ge {e : En} {st : List En} {q : Nat} (h : q ≤ e.1) : aboveQ (e :: st) q = e.2.2.2.map (fun x => ((e.1 : Int), x)) ++ aboveQ st q := by
  unfold aboveQ
  rw [List.filter_cons_of_pos (by simpa using h)]
  rfl
theorem aboveQ_cons_lt {e : En} {st : List En} {q : Nat} (h : e.1 < q) : aboveQ (e :: st) q = aboveQ st q := by
  unfold aboveQ
  rw [List.filter_cons_of_neg (by simpa using h)]
theorem aboveQ_succ : ∀ {st : List En}, Falls st → ∀ q : Nat, aboveQ st q = aboveQ st (q + 1) ++ (idsAt st q).map (fun x => ((q : Int), x))
  | [], _, q => rfl
  | e :: st, hF, q => by
    obtain ⟨h1, h2⟩ := hF.tail
    have ih := aboveQ_succ h1 q
    rw [idsAt_cons]
    rcases Nat.lt_trichotomy e.1 q with h | h | h
    · rw [if_neg (by omega), aboveQ_cons_lt h, aboveQ_cons_lt (show e.1 < q + 1 by omega), ih]
    · rw [if_pos (by omega), aboveQ_cons_ge (by omega), aboveQ_cons_lt (by omega), aboveQ_low (fun a ha => by have := h2 a ha; omega), aboveQ_low (q := q + 1) (fun a ha => by have := h2 a ha; omega), h]
      simp
    · rw [if_neg (by omega), aboveQ_cons_ge (by omega), aboveQ_cons_ge (by omega), ih, List.append_assoc]
theorem aboveQ_len {st : List En} (hF : Falls st) : ∀ k : Nat, k ≤ 64 → (aboveQ st (64 - k)).length ≤ k * 65536
  | 0, _ => by rw [aboveQ_top hF]; simp
  | k + 1, hk => by
    have ih := aboveQ_len hF k (by omega)
    have h1 := idsAt_len' hF ((64 - (k + 1) : Nat) : Int)
    rw [aboveQ_succ hF, show 64 - (k + 1) + 1 = 64 - k by omega]
    simp only [List.length_append, List.length_map]
    omega
theorem aboveQ_le {st : List En} (hF : Falls st) (q : Nat) (hq : q ≤ 64) : (aboveQ st q).length ≤ 4194304 := by
  have := aboveQ_len hF (64 - q) (by omega)
  rw [show 64 - (64 - q) = q by omega] at this
  omega
theorem allQ_le {st : List En} (hF : Falls st) : (allQ st).length ≤ 4194304 := by rw [← aboveQ_all]; exact aboveQ_le hF 0 (by omega)
/-- the rows that New is given: may the next one be? -/
def okRow (last : Int) (x : Int × Int) : Bool := decide (0 ≤ x.1) && decide (x.1 < last) && decide (1 ≤ x.2) && decide (x.2 ≤ 65536)
def lastAt (rs : List (Int × Int)) (k : Nat) : Int := if k = 0 then 64 else ((rs[k - 1]?).map (·.1)).getD 0
def okAt (rs : List (Int × Int)) (k : Nat) : Bool := ((rs[k]?).map (okRow (lastAt rs k))).getD true
/-- so many rows may be -/
structure Upto (rs : List (Int × Int)) (p : Nat) : Prop where
  le : p ≤ rs.length
  ok : ∀ k, k < p → okAt rs k = true
  bad : p < rs.length → okAt rs p = false
theorem upto (rs : List (Int × Int)) : ∃ p, Upto rs p := by
  have h : ∀ n, n ≤ rs.length → (∀ k, k < n → okAt rs k = true) ∨ ∃ p, Upto rs p := by
    intro n
    induction n with
    | zero => exact fun _ => Or.inl (fun k hk => by omega)
    | succ n ih =>
      intro hn
      rcases ih (by omega) with h | h
      · cases hb : okAt rs n with
        | true => exact Or.inl (fun k hk => by rcases Nat.lt_or_ge k n with h2 | h2; exact h k h2; rw [show k = n by omega]; exact hb)
        | false => exact Or.inr ⟨n, by omega, h, fun _ => hb⟩
      · exact Or.inr h
  rcases h rs.length (Nat.le_refl _) with h | h
  · exact ⟨rs.length, Nat.le_refl _, h, fun h => by omega⟩
  · exact h
theorem okAt_some {rs : List (Int × Int)} {k : Nat} {x : Int × Int} (h : rs[k]? = some x) : okAt rs k = okRow (lastAt rs k) x := by unfold okAt; rw [h]; rfl
theorem lastAt_succ {rs : List (Int × Int)} {k : Nat} {x : Int × Int} (h : rs[k]? = some x) : lastAt rs (k + 1) = x.1 := by unfold lastAt; rw [if_neg (by omega), Nat.add_sub_cancel, h]; rfl
theorem okRow_iff {last : Int} {x : Int × Int} : okRow last x = true ↔ 0 ≤ x.1 ∧ x.1 < last ∧ 1 ≤ x.2 ∧ x.2 ≤ 65536 := by unfold okRow; simp [and_assoc]
def mkE (x : Int × Int) : En := (x.1.toNat, x.2.toNat, 0, [])
theorem Upto.low {rs : List (Int × Int)} {p : Nat} (h : Upto rs p) : ∀ k, k ≤ p → 0 ≤ lastAt rs k ∧ lastAt rs k + k ≤ 64 ∧ ∀ e ∈ (rs.take k).map mkE, lastAt rs k ≤ (e.1 : Int)
  | 0, _ => ⟨by simp [lastAt], by simp [lastAt], by simp⟩
  | k + 1, hk => by
    obtain ⟨h1, h2, h3⟩ := Upto.low h k (by omega)
    obtain ⟨x, hx⟩ : ∃ x, rs[k]? = some x := ⟨_, List.getElem?_eq_getElem (by have := h.le; omega)⟩
    have ho := h.ok k (by omega)
    rw [okAt_some hx, okRow_iff] at ho
    rw [lastAt_succ hx]
    refine ⟨ho.1, by omega, fun e he => ?_⟩
    rw [List.take_add_one, hx] at he
    simp only [Option.toList_some, List.map_append, List.map_cons, List.map_nil, List.mem_append, List.mem_singleton] at he
    rcases he with he | rfl
    · have := h3 e he; omega
    · simp only [mkE]; omega
theorem mkE_bits (rs : List (Int × Int)) (k : Nat) : bitsN ((rs.take k).map mkE) = 0 := by
  refine bits_zero fun e he => ?_
  obtain ⟨x, _, rfl⟩ := List.mem_map.1 he
  rfl
end Go.Rq
