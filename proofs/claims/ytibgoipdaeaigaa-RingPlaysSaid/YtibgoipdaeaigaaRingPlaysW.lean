/- P12.1 to P12.6, the walk. -/
import Derived.Test.YtibgoipdaeaigaaRgt
namespace Go.Proofs.Ytibgoipdaeaigaa.ringPlaysW
open Go.RowKit Go.Fr Go.Proofs.Ytibgoipdaeaigaa.RI Go.Proofs.Ytibgoipdaeaigaa.RR Go.Proofs.Ytibgoipdaeaigaa.L

set_option maxRecDepth 100000 in
set_option maxHeartbeats 4000000 in
theorem walk (w : World) (a0 : Int) (w0 : (Lit.int .i64 a0).wf = true) (a1 : Option Addr) (cap1 : Nat) (l1 : List (Int × Int)) (hl1 : l1.length ≤ cap1) (hm1 : cap1 ≤ maxLen) (hc1 : CameL w 2 (encKK .i64 .i64) a1 l1)
    (hw1 : ∀ x ∈ l1, (Lit.int .i64 x.1).wf = true ∧ (Lit.int .i64 x.2).wf = true) :
    Calls Try.prog 8 #[.int .i64 a0, .slice a1 l1.length cap1] w fun e w' => e = .returned (.bool true) ∧ Below w.heap.size w w' := by
  unfold maxLen at hm1
  clear hw1 w0
  have hal : ∀ w : World, Calls Try.prog 14 #[] w fun e w' => e = .returned (.bool true) ∧ Kept (fun _ => False) w w' := fun w => RS.alive_law w
  by_cases hbad : a0 < 0 ∨ 65536 < a0
  · go_enter Try.func8, Try.ntmps8
    go_wp2_with fail
    refine (RI.new_no a0 w hbad).mono ?_
    rintro e w1 ⟨rfl, rfl⟩
    go_wp2_with fail
    refine (RR.new_no a0 w hbad).mono ?_
    rintro e w2 ⟨rfl, hr, k2, z2⟩
    have c0 := hr.1.cell 0 rfl
    go_wp2_with ((go_at_call 11; refine (RS.num_ok _ _).mono ?_; rintro e w3 ⟨rfl, rfl⟩))
    refine (hal _).mono ?_
    rintro e w4 ⟨rfl, k4⟩
    go_wp2
    go_ret
    exact ⟨rfl, (k2.below (Nat.le_refl _) (fun _ h => h.elim)).trans (k4.below (by omega) (fun _ h => h.elim))⟩
  · obtain ⟨D, rfl⟩ := Int.eq_ofNat_of_zero_le (a := a0) (by omega)
    have hD : D ≤ 65536 := by omega
    clear hbad
    go_enter Try.func8, Try.ntmps8
    go_wp2_with fail
    refine (RI.new_ok D w (by omega)).mono ?_
    rintro e w1 ⟨rfl, s1, ks, z1⟩
    go_wp2_with fail
    refine (RR.new_ok D w1 (by omega)).mono ?_
    rintro e w2 ⟨rfl, t2, kt, z2⟩
    have s2 := s1.kept kt (fun _ _ h => h)
    have c0 := t2.1.cell 0 rfl
    have b2 : Below w.heap.size w w2 := (ks.below (Nat.le_refl _) (fun _ h => h.elim)).trans (kt.below (by omega) (fun _ h => h.elim))
    have hG := Lib.hid (got_new (n0 := w.heap.size) (w := w) (Nat.le_refl _) (by omega) z1 ⟨_, _, s2⟩ t2 b2)
    clear s2 s1 t2 ks kt b2
    go_wp2_with ((go_at_call 11; refine (RS.num_ok _ _).mono ?_; rintro e w3 ⟨rfl, rfl⟩))
    refine (got_told hG.out).mono ?_
    rintro e w3 ⟨rfl, hG3⟩
    have hG3 := Lib.hid hG3
    clear hG c0 z1 z2
    go_wp2
    go_loopw [5, 7, 9] (fun p q i wr => ∃ k s b : Nat, k ≤ l1.length ∧ i = .int .i64 k ∧ p = .pointer (some ⟨s, 0, none⟩) ∧ q = .pointer (some ⟨b, 0, none⟩) ∧ Hid (Got w.heap.size w wr s b D)) (fun _ _ i _ => l1.length - (intOf i).toNat)
    case atStart => exact ⟨0, _, _, Nat.zero_le _, rfl, rfl, rfl, hG3⟩
    case round =>
      obtain ⟨k, s, b, hk, rfl, rfl, rfl, hG⟩ := hrel
      by_cases hlt : k < l1.length
      · obtain ⟨x, y, hx⟩ := pair_at hlt
        obtain ⟨ab, off, rfl, hab, e1, e2⟩ := elem_pair hc1 hG.out.below hx
        have Hx := Lib.hid hx
        have Hc := Lib.hid hc1
        clear hx hc1
        have hk0 : (0 : Int) ≤ (k : Int) := Int.natCast_nonneg _
        have hk1 : (k : Int) < (l1.length : Int) := by omega
        by_cases h5 : x = 6
        · subst h5
          go_wp2_with fail
          refine (got_copy hG.out).mono ?_
          rintro e w4 ⟨c, rfl, hP⟩
          have hP := Lib.hid hP
          clear e1 e2
          go_wp2_with fail
          refine (gap_cut hP.out).mono ?_
          rintro e w5 ⟨r, rfl, hP5⟩
          have hP5 := Lib.hid hP5
          clear hP
          go_wp2
          go_loopw [11] (fun i wr => ∃ j : Nat, j ≤ 3 ∧ i = .int .i64 j ∧ Hid (Gap w.heap.size w wr s c b D)) (fun i _ => 3 - (intOf i).toNat)
          case atStart => exact ⟨0, by omega, rfl, hP5⟩
          case round =>
            obtain ⟨j, hj, rfl, hP⟩ := hrel
            by_cases h3 : j < 3
            · obtain ⟨e1, e2⟩ := cells_pair Hc.out hP.out.got.below Hx.out
              go_wp2_with fail
              refine (gap_push _ hP.out).mono ?_
              rintro e w6 ⟨r6, rfl, hP6⟩
              have hP6 := Lib.hid hP6
              go_wp2
              go_roundw
              case rel => exact ⟨j + 1, by omega, by go_num, hP6⟩
              case measure => simp [intOf]; omega
            · go_wp2_with fail
              refine (got_copy_ref hP.out.got).mono ?_
              rintro e w7 ⟨b2, rfl, hG7⟩
              have hG7 := Lib.hid hG7
              clear hP hP5 hG3
              obtain ⟨e1, e2⟩ := cells_pair Hc.out hG7.out.below Hx.out
              go_wp2_with fail
              refine (got_play _ _ hG7.out).mono ?_
              rintro e w8 ⟨rfl, hG8⟩
              have hG8 := Lib.hid hG8
              go_wp2_with fail
              refine (got_told hG8.out).mono ?_
              rintro e w9 ⟨rfl, hG9⟩
              have hG9 := Lib.hid hG9
              go_wp2
              go_roundw
              case rel => exact ⟨k + 1, _, _, by omega, by go_num, rfl, rfl, hG9⟩
              case measure => simp [intOf]; omega
        · have h5' : decide (x = 6) = false := by simp [h5]
          go_wp2_with fail
          refine (got_play _ _ hG.out).mono ?_
          rintro e w8 ⟨rfl, hG8⟩
          have hG8 := Lib.hid hG8
          go_wp2_with fail
          refine (got_told hG8.out).mono ?_
          rintro e w9 ⟨rfl, hG9⟩
          have hG9 := Lib.hid hG9
          go_wp2
          go_roundw
          case rel => exact ⟨k + 1, _, _, by omega, by go_num, rfl, rfl, hG9⟩
          case measure => simp [intOf]; omega
      · go_wp2_with fail
        refine (hal _).mono ?_
        rintro e w4 ⟨rfl, k4⟩
        go_wp2
        go_ret
        exact ⟨rfl, (hG.out.kept k4).below⟩
end Go.Proofs.Ytibgoipdaeaigaa.ringPlaysW
