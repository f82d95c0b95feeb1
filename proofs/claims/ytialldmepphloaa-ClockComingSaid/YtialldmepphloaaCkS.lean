/- The document's clock: put, Rel, Abs, Set, Get, Cancel. -/
import Derived.Test.YtialldmepphloaaCkR
import Derived.Laws.ResultCell
namespace Go.Proofs.Ytialldmepphloaa.CR
open Go.RowKit Go.Fr Go.Proofs.Ytialldmepphloaa.CK

section
variable {w : World} {b : Nat} {v : Value} {nm : ByteArray} {bs m n x : Nat} {l : List (Bool × Nat × Nat)}

theorem has_at {i : Int} (h : (decide (0 ≤ i) && decide (i < l.length)) = true) : ∃ (k : Nat) (s : Bool) (lf cy : Nat), i = k ∧ k < l.length ∧ l[k]? = some (s, lf, cy) := by
  simp at h
  obtain ⟨k, rfl⟩ := Int.eq_ofNat_of_zero_le h.1
  exact ⟨k, _, _, _, rfl, by omega, List.getElem?_eq_getElem (by omega)⟩

set_option maxRecDepth 100000 in
set_option maxHeartbeats 2000000 in
theorem put_all (i : Int) (fine : Bool) (lf cy : Nat) (hs : IsRef w b v nm bs m n x l) : Calls Try.prog 58 #[.pointer (some ⟨b, 0, none⟩), .int .i64 i, .bool fine, .int .u64 lf, .int .u32 cy] w fun e w' =>
    e = .returned (.int .i64 (putL l i fine lf cy).2) ∧ IsRef w' b v nm bs m n x (putL l i fine lf cy).1 ∧ Kept (foot b v) w w' := by
  cases hh : (decide (0 ≤ i) && decide (i < l.length)) with
  | false =>
    rw [putL_no hh]
    refine (put_no i fine lf cy hs hh).mono ?_
    rintro e w' ⟨rfl, rfl⟩
    exact ⟨rfl, hs, Kept.refl _ _⟩
  | true =>
    have hhas := has_ok i hs
    rw [hh] at hhas
    obtain ⟨k, s, lf0, cy0, rfl, hk, hx⟩ := has_at hh
    have c6 := hs.1.cell 6 rfl
    obtain ⟨g, c, rfl, hgb, z0, z1, z2, f0, f1, f2⟩ := hs.spot hx
    have hk0 : (0 : Int) ≤ (k : Int) := Int.natCast_nonneg _
    have hk1 : (k : Int) < (l.length : Int) := by omega
    have hkt : (k : Int).toNat = k := rfl
    unfold putL
    rw [if_pos hk0, hkt, hx]
    cases s with
    | true =>
      go_enter Try.func58, Try.ntmps58
      go_wp2_with (go_at_call 60; refine hhas.mono ?_; rintro e w' ⟨rfl, rfl⟩)
      go_ret
      exact ⟨rfl, hs, Kept.refl _ _⟩
    | false =>
      cases fine with
      | false =>
        go_enter Try.func58, Try.ntmps58
        go_wp2_with (go_at_call 60; refine hhas.mono ?_; rintro e w' ⟨rfl, rfl⟩)
        go_ret
        exact ⟨rfl, hs, Kept.refl _ _⟩
      | true =>
        have q : IsRef (((w.setCell ⟨g, k * 3, none⟩ (.bool true)).setCell ⟨g, k * 3 + 1, none⟩ (.int .u64 lf)).setCell ⟨g, k * 3 + 2, none⟩ (.int .u32 cy)) b (.slice (some ⟨g, 0, none⟩) l.length c) nm bs m n x (l.set k (true, lf, cy)) :=
          ⟨((hs.1.other (p := ⟨g, k * 3, none⟩) hgb _).other (p := ⟨g, k * 3 + 1, none⟩) hgb _).other (p := ⟨g, k * 3 + 2, none⟩) hgb _, by rw [List.length_set]; exact rowa_set (true, lf, cy) hs.2.1 hx, hs.2.2⟩
        have kk := (((Kept.refl (foot b (.slice (some ⟨g, 0, none⟩) l.length c)) w).setCell (p := ⟨g, k * 3, none⟩) (Or.inl (Or.inr rfl)) (.bool true)).setCell (p := ⟨g, k * 3 + 1, none⟩) (Or.inl (Or.inr rfl)) (.int .u64 lf)).setCell (p := ⟨g, k * 3 + 2, none⟩) (Or.inl (Or.inr rfl)) (.int .u32 cy)
        have Q := Lib.hid q
        have K := Lib.hid kk
        clear q kk hs
        go_enter Try.func58, Try.ntmps58
        go_wp2_with (go_at_call 60; refine hhas.mono ?_; rintro e w' ⟨rfl, rfl⟩)
        go_ret
        exact ⟨rfl, Q.out, K.out⟩

set_option maxRecDepth 100000 in
set_option maxHeartbeats 2000000 in
theorem rel_all (i : Int) (t cy : Nat) (ht : t ≤ 4294967295) (hs : IsRef w b v nm bs m n x l) : Calls Try.prog 46 #[.pointer (some ⟨b, 0, none⟩), .int .i64 i, .int .u32 t, .int .u32 cy] w fun e w' =>
    e = .returned (.int .i64 (putL l i (decide (1 ≤ t) && decide (t ≤ m) && cycB n m cy) t cy).2) ∧ IsRef w' b v nm bs m n x (putL l i (decide (1 ≤ t) && decide (t ≤ m) && cycB n m cy) t cy).1 ∧ Kept (foot b v) w w' := by
  have hcy := cycle_ok cy hs
  have c2 := hs.1.cell 2 rfl
  by_cases h1 : 1 ≤ t
  · have d1 : decide ((1 : Int) ≤ (t : Int)) = true := by simp; omega
    by_cases h2 : t ≤ m
    · have d2 : decide ((t : Int) ≤ (m : Int)) = true := by simp; omega
      rw [decide_eq_true h1, decide_eq_true h2, Bool.true_and, Bool.true_and]
      obtain ⟨q, hq⟩ : ∃ q, cycB n m cy = q := ⟨_, rfl⟩
      rw [hq] at hcy ⊢
      have hp := put_all i q t cy hs
      go_enter Try.func46, Try.ntmps46
      go_wp2_with (first | (go_at_call 59; refine hcy.mono ?_; rintro e w' ⟨rfl, rfl⟩) | (go_at_call 58; refine hp.mono ?_; rintro e w1 ⟨rfl, q1, k1⟩))
      go_ret
      exact ⟨rfl, q1, k1⟩
    · have d2 : decide ((t : Int) ≤ (m : Int)) = false := by simp; omega
      rw [decide_eq_false h2, Bool.and_false, Bool.false_and]
      have hp := put_all i false t cy hs
      go_enter Try.func46, Try.ntmps46
      go_wp2_with (first | (go_at_call 59; refine hcy.mono ?_; rintro e w' ⟨rfl, rfl⟩) | (go_at_call 58; refine hp.mono ?_; rintro e w1 ⟨rfl, q1, k1⟩))
      go_ret
      exact ⟨rfl, q1, k1⟩
  · have d1 : decide ((1 : Int) ≤ (t : Int)) = false := by simp; omega
    rw [decide_eq_false h1, Bool.false_and, Bool.false_and]
    have hp := put_all i false t cy hs
    go_enter Try.func46, Try.ntmps46
    go_wp2_with (first | (go_at_call 59; refine hcy.mono ?_; rintro e w' ⟨rfl, rfl⟩) | (go_at_call 58; refine hp.mono ?_; rintro e w1 ⟨rfl, q1, k1⟩))
    go_ret
    exact ⟨rfl, q1, k1⟩

set_option maxRecDepth 100000 in
set_option maxHeartbeats 2000000 in
theorem get_all (i : Int) (hs : IsRef w b v nm bs m n x l) : Calls Try.prog 54 #[.pointer (some ⟨b, 0, none⟩), .int .i64 i] w fun e w' =>
    e = .returned (.tuple #[.agg #[.bool (ofA l i).1, .int .u64 (ofA l i).2.1, .int .u32 (ofA l i).2.2], .int .i64 (ofS l i)]) ∧ Kept (fun _ => False) w w' := by
  have kA := (Kept.refl (fun _ => False) w).alloc (.cells #[.bool false, .int .u64 0, .int .u32 0] 87)
  have hs0 := hs.kept kA (fun _ _ h => h)
  have hhas := has_ok i hs0
  cases hh : (decide (0 ≤ i) && decide (i < l.length)) with
  | false =>
    obtain ⟨e1, e2⟩ := of_no hh
    rw [e1, e2]
    rw [hh] at hhas
    go_enter Try.func54, Try.ntmps54
    go_wp2_with (go_at_call 60; refine hhas.mono ?_; rintro e w' ⟨rfl, rfl⟩)
    refine bodyPost_ret (v := .tuple #[.agg #[.bool false, .int .u64 0, .int .u32 0], .int .i64 3]) (by rw [results_cell_tmp rfl]; go_simp) rfl ⟨rfl, kA⟩
  | true =>
    rw [hh] at hhas
    obtain ⟨k, s, lf, cy, rfl, hk, hx⟩ := has_at hh
    have c6 := hs0.1.cell 6 rfl
    obtain ⟨g, c, rfl, hgb, z0, z1, z2, f0, f1, f2⟩ := hs0.spot hx
    have hk0 : (0 : Int) ≤ (k : Int) := Int.natCast_nonneg _
    have hk1 : (k : Int) < (l.length : Int) := by omega
    have hkt : (k : Int).toNat = k := rfl
    unfold ofA ofS
    rw [if_pos hk0, if_pos hk0, hkt, hx]
    cases s with
    | false =>
      go_enter Try.func54, Try.ntmps54
      go_wp2_with (go_at_call 60; refine hhas.mono ?_; rintro e w' ⟨rfl, rfl⟩)
      refine bodyPost_ret (v := .tuple #[.agg #[.bool false, .int .u64 0, .int .u32 0], .int .i64 5]) (by rw [results_cell_tmp rfl]; go_simp) rfl ⟨rfl, kA⟩
    | true =>
      go_enter Try.func54, Try.ntmps54
      go_wp2_with (go_at_call 60; refine hhas.mono ?_; rintro e w' ⟨rfl, rfl⟩)
      refine bodyPost_ret (v := .tuple #[.agg #[.bool true, .int .u64 lf, .int .u32 cy], .int .i64 0]) (by rw [results_cell_tmp rfl]; go_simp) rfl ⟨rfl, ?_⟩
      exact (Kept.refl (fun _ => False) w).alloc _
end
end Go.Proofs.Ytialldmepphloaa.CR
