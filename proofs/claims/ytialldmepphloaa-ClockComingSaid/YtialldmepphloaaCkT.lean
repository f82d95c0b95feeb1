/- The document's clock: Set, Abs, Cancel, Reset. -/
import Derived.Test.YtialldmepphloaaCkS
namespace Go.Proofs.Ytialldmepphloaa.CR
open Go.RowKit Go.Fr Go.Proofs.Ytialldmepphloaa.CK

section
variable {w : World} {b : Nat} {v : Value} {nm : ByteArray} {bs m n x : Nat} {l : List (Bool × Nat × Nat)}
theorem IsRef.drewN (k : Nat) (hs : IsRef w b v nm bs m n x l) : IsRef (w.drewN k) b v nm bs m n x l := hs

set_option maxRecDepth 100000 in
set_option maxHeartbeats 2000000 in
theorem set_all (i : Int) (t cy : Nat) (ht : t ≤ 4294967295) (hm : m ≤ 2147483647) (hs : IsRef w b v nm bs m n x l) : Calls Try.prog 48 #[.pointer (some ⟨b, 0, none⟩), .int .i64 i, .int .u32 t, .int .u32 cy] w fun e w' =>
    e = .returned (.int .i64 (putL l i (decide (1 ≤ t) && decide (t ≤ m + 1) && decide (cy ≤ m)) t cy).2) ∧ IsRef w' b v nm bs m n x (putL l i (decide (1 ≤ t) && decide (t ≤ m + 1) && decide (cy ≤ m)) t cy).1 ∧ Kept (foot b v) w w' := by
  have c2 := hs.1.cell 2 rfl
  have hp := fun q => put_all i q t cy hs
  clear hs
  by_cases h1 : 1 ≤ t
  · have d1 : decide ((1 : Int) ≤ (t : Int)) = true := by simp; omega
    by_cases h2 : t ≤ m + 1
    · have d2 : decide ((t : Int) ≤ (m : Int) + 1) = true := by simp; omega
      by_cases h3 : cy ≤ m
      · have d3 : decide ((cy : Int) ≤ (m : Int)) = true := by simp; omega
        rw [decide_eq_true h1, decide_eq_true h2, decide_eq_true h3]
        go_enter Try.func48, Try.ntmps48
        go_wp2_with (go_at_call 58; refine (hp true).mono ?_; rintro e w1 ⟨rfl, q1, k1⟩)
        go_ret
        exact ⟨rfl, q1, k1⟩
      · have d3 : decide ((cy : Int) ≤ (m : Int)) = false := by simp; omega
        rw [decide_eq_false h3, Bool.and_false]
        go_enter Try.func48, Try.ntmps48
        go_wp2_with (go_at_call 58; refine (hp false).mono ?_; rintro e w1 ⟨rfl, q1, k1⟩)
        go_ret
        exact ⟨rfl, q1, k1⟩
    · have d2 : decide ((t : Int) ≤ (m : Int) + 1) = false := by simp; omega
      rw [decide_eq_false h2, Bool.and_false, Bool.false_and]
      go_enter Try.func48, Try.ntmps48
      go_wp2_with (go_at_call 58; refine (hp false).mono ?_; rintro e w1 ⟨rfl, q1, k1⟩)
      go_ret
      exact ⟨rfl, q1, k1⟩
  · have d1 : decide ((1 : Int) ≤ (t : Int)) = false := by simp; omega
    rw [decide_eq_false h1, Bool.false_and, Bool.false_and]
    go_enter Try.func48, Try.ntmps48
    go_wp2_with (go_at_call 58; refine (hp false).mono ?_; rintro e w1 ⟨rfl, q1, k1⟩)
    go_ret
    exact ⟨rfl, q1, k1⟩

set_option maxRecDepth 100000 in
set_option maxHeartbeats 2000000 in
theorem cancel_all (i : Int) (hs : IsRef w b v nm bs m n x l) : Calls Try.prog 49 #[.pointer (some ⟨b, 0, none⟩), .int .i64 i] w fun e w' =>
    e = .returned (.int .i64 (cancelL l i).2) ∧ IsRef w' b v nm bs m n x (cancelL l i).1 ∧ Kept (foot b v) w w' := by
  have hg := get_all i hs
  cases hh : (decide (0 ≤ i) && decide (i < l.length)) with
  | false =>
    obtain ⟨e1, e2⟩ := of_no hh
    rw [e1, e2] at hg
    have ec : cancelL l i = (l, 3) := by
      unfold cancelL
      by_cases h0 : 0 ≤ i
      · have h1 : l.length ≤ i.toNat := by simp [h0] at hh; omega
        rw [if_pos h0, List.getElem?_eq_none h1]
      · rw [if_neg h0]
    rw [ec]
    go_enter Try.func49, Try.ntmps49
    go_wp2_with fail
    refine hg.mono ?_
    rintro e w1 ⟨rfl, k1⟩
    have h1 := hs.kept k1 (fun _ _ h => h)
    have kk := (k1.alloc (.cells #[.bool false, .int .u64 0, .int .u32 0] 87))
    have h2 := h1.kept ((Kept.refl (fun _ => False) w1).alloc (.cells #[.bool false, .int .u64 0, .int .u32 0] 87)) (fun _ _ h => h)
    go_wp2
    go_ret
    exact ⟨rfl, h2, kk.mono (fun _ _ h => h.elim)⟩
  | true =>
    obtain ⟨k, s, lf, cy, rfl, hk, hx⟩ := has_at hh
    have hk0 : (0 : Int) ≤ (k : Int) := Int.natCast_nonneg _
    have hk1 : (k : Int) < (l.length : Int) := by omega
    have hkt : (k : Int).toNat = k := rfl
    unfold ofA ofS at hg
    rw [if_pos hk0, if_pos hk0, hkt, hx] at hg
    unfold cancelL
    rw [if_pos hk0, hkt, hx]
    cases s with
    | false =>
      go_enter Try.func49, Try.ntmps49
      go_wp2_with fail
      refine hg.mono ?_
      rintro e w1 ⟨rfl, k1⟩
      have h1 := hs.kept k1 (fun _ _ h => h)
      have kk := (k1.alloc (.cells #[.bool false, .int .u64 0, .int .u32 0] 87))
      have h2 := h1.kept ((Kept.refl (fun _ => False) w1).alloc (.cells #[.bool false, .int .u64 0, .int .u32 0] 87)) (fun _ _ h => h)
      go_wp2
      go_ret
      exact ⟨rfl, h2, kk.mono (fun _ _ h => h.elim)⟩
    | true =>
      go_enter Try.func49, Try.ntmps49
      go_wp2_with fail
      refine hg.mono ?_
      rintro e w1 ⟨rfl, k1⟩
      have h1 := hs.kept k1 (fun _ _ h => h)
      have kk := (k1.alloc (.cells #[.bool true, .int .u64 lf, .int .u32 cy] 87))
      have h2 := h1.kept ((Kept.refl (fun _ => False) w1).alloc (.cells #[.bool true, .int .u64 lf, .int .u32 cy] 87)) (fun _ _ h => h)
      have c6 := h2.1.cell 6 rfl
      obtain ⟨g, c, rfl, hgb, z0, z1, z2, f0, f1, f2⟩ := h2.spot hx
      have q : IsRef (((((w1.alloc (.cells #[.bool true, .int .u64 lf, .int .u32 cy] 87)).setCell ⟨g, k * 3, none⟩ (.bool false)).setCell ⟨g, k * 3 + 1, none⟩ (.int .u64 0)).setCell ⟨g, k * 3 + 2, none⟩ (.int .u32 0))) b (.slice (some ⟨g, 0, none⟩) l.length c) nm bs m n x (l.set k (false, 0, 0)) :=
        ⟨((h2.1.other (p := ⟨g, k * 3, none⟩) hgb _).other (p := ⟨g, k * 3 + 1, none⟩) hgb _).other (p := ⟨g, k * 3 + 2, none⟩) hgb _, by rw [List.length_set]; exact rowa_set (false, 0, 0) h2.2.1 hx, h2.2.2⟩
      have k2 := (((kk.mono (S' := foot b (.slice (some ⟨g, 0, none⟩) l.length c)) (fun _ _ h => h.elim)).setCell (p := ⟨g, k * 3, none⟩) (Or.inl (Or.inr rfl)) (.bool false)).setCell (p := ⟨g, k * 3 + 1, none⟩) (Or.inl (Or.inr rfl)) (.int .u64 0)).setCell (p := ⟨g, k * 3 + 2, none⟩) (Or.inl (Or.inr rfl)) (.int .u32 0)
      have Q := Lib.hid q
      have K := Lib.hid k2
      clear q k2 kk h1 h2 k1 hs
      go_wp2
      go_ret
      exact ⟨rfl, Q.out, K.out⟩
end
end Go.Proofs.Ytialldmepphloaa.CR
