/- Package task: each call in one form. -/
import Derived.Test.YtallbbjmfcohfaaTskP
import Derived.Test.YtallbbjmfcohfaaTskA
namespace Go.Proofs.Ytallbbjmfcohfaa.TK
open Go.RowKit Go.Fr

theorem hasT_none {l : List Tk} {i : Int} (h : at? l i = none) : hasT l i = false := by
  cases hh : hasT l i with
  | false => rfl
  | true =>
    obtain ⟨k, lm, st, ac, ex, rfl, hk, hx⟩ := hasT_at hh
    rw [at_nat, hx] at h
    cases h
theorem at_some {l : List Tk} {i : Int} {x : Tk} (h : at? l i = some x) : ∃ k : Nat, i = k ∧ l[k]? = some x := by
  unfold at? at h
  split at h
  · exact ⟨i.toNat, by omega, h⟩
  · cases h

section
variable {w : World} {b : Nat} {v : Value} {run : Int} {l : List Tk}

theorem act_all (i : Int) (hs : IsTk w b v run l) (ho : Ok run l) : Calls Try.prog 12 #[.pointer (some ⟨b, 0, none⟩), .int .i64 i] w fun e w' =>
    e = .returned (.tuple #[.bool (actP l i).1, .int .i64 (actP l i).2.1]) ∧ IsTk w' b v run (actP l i).2.2 ∧ Kept (foot b v) w w' := by
  cases ha : at? l i with
  | none =>
    have e : actP l i = (false, 3, l) := by unfold actP; rw [ha]
    rw [e]
    refine (act_no i hs (hasT_none ha)).mono ?_
    rintro e w' ⟨rfl, rfl⟩
    exact ⟨rfl, hs, Kept.refl _ _⟩
  | some x =>
    obtain ⟨lm, ex, st, ac⟩ := x
    obtain ⟨k, rfl, hx⟩ := at_some ha
    obtain ⟨g1, g2, g3, g4, g5, g6, g7, g8⟩ := ho.el _ _ _ _ _ hx
    by_cases h1 : lm ≤ ac
    · have e : actP l k = (false, 4, l) := by unfold actP; rw [ha]; exact if_pos h1
      rw [e]
      refine (act_full hs hx h1).mono ?_
      rintro e w' ⟨rfl, q, rfl⟩
      exact ⟨rfl, hs.drewN q, (Kept.refl _ _).drewN q⟩
    · by_cases h3 : st = 3
      · have e : actP l k = (true, 0, l.set k (lm, ex, 2, ac + 1)) := by unfold actP; rw [ha]; simp [h1, h3]
        rw [e]
        exact act_new hs hx (by omega) g3 g5 h3
      · have e : actP l k = (false, 0, l.set k (lm, ex, st, ac + 1)) := by unfold actP; rw [ha]; simp [h1, h3]
        rw [e]
        exact act_more hs hx (by omega) g3 g5 (by simpa using h3)

theorem start_all (i : Int) (hs : IsTk w b v run l) : Calls Try.prog 13 #[.pointer (some ⟨b, 0, none⟩), .int .i64 i] w fun e w' =>
    e = .returned (.int .i64 (startP run l i).1) ∧ IsTk w' b v (startP run l i).2.1 (startP run l i).2.2 ∧ Kept (foot b v) w w' := by
  cases ha : at? l i with
  | none =>
    have e : startP run l i = (2, run, l) := by unfold startP; rw [ha]
    rw [e]
    refine (start_no i hs (hasT_none ha)).mono ?_
    rintro e w' ⟨rfl, rfl⟩
    exact ⟨rfl, hs, Kept.refl _ _⟩
  | some x =>
    obtain ⟨lm, ex, st, ac⟩ := x
    obtain ⟨k, rfl, hx⟩ := at_some ha
    by_cases h1 : 0 ≤ run
    · have e : startP run l k = (181, run, l) := by unfold startP; rw [ha]; exact if_pos h1
      rw [e]
      refine (start_busy hs hx h1).mono ?_
      rintro e w' ⟨rfl, rfl⟩
      exact ⟨rfl, hs, Kept.refl _ _⟩
    · by_cases h2 : st = 2
      · subst h2
        have e : startP run l k = (0, (k : Int), l.set k (lm, ex, 0, ac)) := by unfold startP; rw [ha]; simp [h1]
        rw [e]
        exact start_ok hs hx (by omega)
      · have e : startP run l k = (180, run, l) := by unfold startP; rw [ha]; simp [h1, h2]
        rw [e]
        refine (start_state hs hx (by omega) (by simpa using h2)).mono ?_
        rintro e w' ⟨rfl, rfl⟩
        exact ⟨rfl, hs, Kept.refl _ _⟩

theorem release_all (i : Int) (hs : IsTk w b v run l) : Calls Try.prog 17 #[.pointer (some ⟨b, 0, none⟩), .int .i64 i] w fun e w' =>
    e = .returned (.int .i64 (relP l i).1) ∧ IsTk w' b v run (relP l i).2 ∧ Kept (foot b v) w w' := by
  cases ha : at? l i with
  | none =>
    have e : relP l i = (2, l) := by unfold relP; rw [ha]
    rw [e]
    refine (release_no i hs (hasT_none ha)).mono ?_
    rintro e w' ⟨rfl, rfl⟩
    exact ⟨rfl, hs, Kept.refl _ _⟩
  | some x =>
    obtain ⟨lm, ex, st, ac⟩ := x
    obtain ⟨k, rfl, hx⟩ := at_some ha
    by_cases h2 : st = 1
    · subst h2
      have e : relP l k = (0, l.set k (lm, ex, 2, ac)) := by unfold relP; rw [ha]; rfl
      rw [e]
      exact release_ok hs hx
    · have e : relP l k = (180, l) := by unfold relP; rw [ha]; simp [h2]
      rw [e]
      refine (release_state hs hx (by simpa using h2)).mono ?_
      rintro e w' ⟨rfl, rfl⟩
      exact ⟨rfl, hs, Kept.refl _ _⟩

theorem preempt_all (hs : IsTk w b v run l) (ho : Ok run l) : Calls Try.prog 18 #[.pointer (some ⟨b, 0, none⟩)] w fun e w' =>
    e = .returned (.tuple #[.int .i64 (preP run l).1, .int .i64 (preP run l).2.1]) ∧ IsTk w' b v (preP run l).2.2.1 (preP run l).2.2.2 ∧ Kept (foot b v) w w' := by
  unfold preP
  rcases ho.at with ⟨rfl, e⟩ | ⟨k, lm, ex, ac, rfl, hx, e, h1, h2, h3⟩
  · rw [e]
    refine (preempt_no hs (by decide)).mono ?_
    rintro e w' ⟨rfl, rfl⟩
    exact ⟨rfl, hs, Kept.refl _ _⟩
  · rw [e]
    exact preempt_ok hs hx
theorem again_all (hs : IsTk w b v run l) (ho : Ok run l) : Calls Try.prog 19 #[.pointer (some ⟨b, 0, none⟩)] w fun e w' =>
    e = .returned (.tuple #[.int .i64 (preP run l).1, .int .i64 (preP run l).2.1]) ∧ IsTk w' b v (preP run l).2.2.1 (preP run l).2.2.2 ∧ Kept (foot b v) w w' := by
  unfold preP
  rcases ho.at with ⟨rfl, e⟩ | ⟨k, lm, ex, ac, rfl, hx, e, h1, h2, h3⟩
  · rw [e]
    refine (again_no hs (by decide)).mono ?_
    rintro e w' ⟨rfl, rfl⟩
    exact ⟨rfl, hs, Kept.refl _ _⟩
  · rw [e]
    exact again_ok hs hx
theorem wait_all (hs : IsTk w b v run l) (ho : Ok run l) : Calls Try.prog 15 #[.pointer (some ⟨b, 0, none⟩)] w fun e w' =>
    e = .returned (.tuple #[.int .i64 (waitP run l).1, .int .i64 (waitP run l).2.1]) ∧ IsTk w' b v (waitP run l).2.2.1 (waitP run l).2.2.2 ∧ Kept (foot b v) w w' := by
  unfold waitP
  rcases ho.at with ⟨rfl, e⟩ | ⟨k, lm, ex, ac, rfl, hx, e, h1, h2, h3⟩
  · rw [e]
    refine (wait_no hs (by decide)).mono ?_
    rintro e w' ⟨rfl, q, rfl⟩
    exact ⟨rfl, hs.drewN q, (Kept.refl _ _).drewN q⟩
  · rw [e]
    cases ex with
    | false =>
      refine (wait_basic hs hx).mono ?_
      rintro e w' ⟨rfl, q, rfl⟩
      exact ⟨rfl, hs.drewN q, (Kept.refl _ _).drewN q⟩
    | true => exact wait_ok hs hx
theorem end_all (hs : IsTk w b v run l) (ho : Ok run l) : Calls Try.prog 21 #[.pointer (some ⟨b, 0, none⟩)] w fun e w' =>
    e = .returned (.tuple #[.int .i64 (endP run l).1, .int .i64 (endP run l).2.1, .int .i64 (endP run l).2.2.1]) ∧ IsTk w' b v (endP run l).2.2.2.1 (endP run l).2.2.2.2 ∧ Kept (foot b v) w w' := by
  unfold endP
  rcases ho.at with ⟨rfl, e⟩ | ⟨k, lm, ex, ac, rfl, hx, e, h1, h2, h3⟩
  · rw [e]
    refine (end_no hs (by decide)).mono ?_
    rintro e w' ⟨rfl, rfl⟩
    exact ⟨rfl, hs, Kept.refl _ _⟩
  · rw [e]
    dsimp only
    by_cases h4 : ac = 1
    · rw [if_pos h4]
      exact end_last hs hx h4
    · rw [if_neg h4]
      exact end_more hs hx (by omega) (by omega)

/-- a task's state and its activations, whatever the index -/
theorem state_all (i : Int) (hs : IsTk w b v run l) : Calls Try.prog 16 #[.pointer (some ⟨b, 0, none⟩), .int .i64 i] w fun e w' => e = .returned (.tuple #[.int .i64 ((at? l i).elim 0 (fun x => x.2.2.1)), .int .i64 ((at? l i).elim 3 (fun _ => 0))]) ∧ w = w' := by
  cases ha : at? l i with
  | none => exact state_no i hs (hasT_none ha)
  | some x =>
    obtain ⟨k, rfl, hx⟩ := at_some ha
    exact state_ok hs hx
theorem active_all (i : Int) (hs : IsTk w b v run l) : Calls Try.prog 20 #[.pointer (some ⟨b, 0, none⟩), .int .i64 i] w fun e w' => e = .returned (.int .i64 ((at? l i).elim 0 (fun x => x.2.2.2))) ∧ w = w' := by
  cases ha : at? l i with
  | none => exact active_no i hs (hasT_none ha)
  | some x =>
    obtain ⟨k, rfl, hx⟩ := at_some ha
    exact active_ok hs hx
end

theorem first_bad (rs : List (Int × Bool)) : (∀ (j : Nat) (r : Int × Bool), j < rs.length → rs[j]? = some r → goodR r = true) ∨ ∃ (p : Nat) (rb : Int × Bool), rs[p]? = some rb ∧ goodR rb = false ∧ ∀ (j : Nat) (r : Int × Bool), j < p → rs[j]? = some r → goodR r = true := by
  induction rs with
  | nil => exact Or.inl (fun j r h _ => by simp at h)
  | cons r rs ih =>
    cases hr : goodR r with
    | false => exact Or.inr ⟨0, r, rfl, hr, fun j r h _ => by omega⟩
    | true =>
      rcases ih with ih | ⟨p, rb, h1, h2, h3⟩
      · left
        rintro (_ | j) r' h hj
        · cases hj; exact hr
        · exact ih j r' (by simp at h; omega) (by simpa using hj)
      · right
        refine ⟨p + 1, rb, by simpa using h1, h2, ?_⟩
        rintro (_ | j) r' h hj
        · cases hj; exact hr
        · exact h3 j r' (by omega) (by simpa using hj)

/-- rows that New refuses -/
def BadRows (rs : List (Int × Bool)) : Prop := 256 < rs.length ∨ rs.length ≤ 256 ∧ ∃ (p : Nat) (rb : Int × Bool), rs[p]? = some rb ∧ goodR rb = false ∧ ∀ (j : Nat) (r : Int × Bool), j < p → rs[j]? = some r → goodR r = true
theorem new_cases (rs : List (Int × Bool)) : BadRows rs ∨ (rs.length ≤ 256 ∧ ∀ (j : Nat) (r : Int × Bool), j < rs.length → rs[j]? = some r → goodR r = true) := by
  rcases Nat.lt_or_ge 256 rs.length with h | h
  · exact Or.inl (Or.inl h)
  · rcases first_bad rs with h1 | h1
    · exact Or.inr ⟨h, h1⟩
    · exact Or.inl (Or.inr ⟨h, h1⟩)
theorem new_fails {ao : Option Addr} {c : Nat} {rs : List (Int × Bool)} (h : BadRows rs) (w : World) (hc : CameL w 2 (encKB .i64) ao rs) : Calls Try.prog 10 #[.slice ao rs.length c] w fun e w' =>
    e = .returned (.tuple #[.pointer none, .int .i64 182]) ∧ Kept (fun _ => False) w w' := by
  rcases h with h | ⟨h, p, rb, h1, h2, h3⟩
  · refine (new_big ao rs.length c w h).mono ?_
    rintro e w' ⟨rfl, rfl⟩
    exact ⟨rfl, Kept.refl _ _⟩
  · exact new_bad ao c rs w h hc h1 h2 h3
end Go.Proofs.Ytallbbjmfcohfaa.TK
