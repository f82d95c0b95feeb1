/- P16.2 to P16.8, the walk. -/
import Derived.Test.YtialldmepphloaaCkG
import Derived.Test.YtialldmepphloaaCkO
import Derived.Test.YtialldmepphloaaCkN
import Derived.Test.YtialldmepphloaaArgs
namespace Go.Proofs.Ytialldmepphloaa.clockPlaysW
open Go.RowKit Go.Fr Go.Proofs.Ytialldmepphloaa.CK Go.Proofs.Ytialldmepphloaa.L

set_option maxRecDepth 100000 in
set_option maxHeartbeats 8000000 in
theorem walk (w : World) (nm0 : ByteArray) (mx0 : Int) (wmx0 : (Lit.int .u32 mx0).wf = true) (bs0 : Int) (wbs0 : (Lit.int .u32 bs0).wf = true) (mn0 : Int) (wmn0 : (Lit.int .u32 mn0).wf = true)
    (a1 : Int) (w1 : (Lit.int .i64 a1).wf = true)
    (a2 : Option Addr) (cap2 : Nat) (l2 : List (Int × Int × Int × Int)) (hl2 : l2.length ≤ cap2) (hm2 : cap2 ≤ maxLen) (hc2 : CameL w 4 (encKKKK .i64 .i64 .u32 .u32) a2 l2)
    (hw2 : ∀ x ∈ l2, (Lit.int .i64 x.1).wf = true ∧ (Lit.int .i64 x.2.1).wf = true ∧ (Lit.int .u32 x.2.2.1).wf = true ∧ (Lit.int .u32 x.2.2.2).wf = true) :
    Calls Try.prog 8 #[.agg #[.string nm0, .int .u32 mx0, .int .u32 bs0, .int .u32 mn0], .int .i64 a1, .slice a2 l2.length cap2] w fun e w' => e = .returned (.bool true) ∧ Below w.heap.size w w' := by
  obtain ⟨mx, rfl, hmx⟩ := u32_nat wmx0
  obtain ⟨bs, rfl, hbs⟩ := u32_nat wbs0
  obtain ⟨mn, rfl, hmn⟩ := u32_nat wmn0
  unfold maxLen at hm2
  clear wmx0 wbs0 wmn0 w1
  have HC := Lib.hid hc2
  have HW := Lib.hid hw2
  clear hc2 hw2
  have kx := (Kept.refl (fun _ => False) w).alloc (.cells #[.string nm0, .int .u32 mx, .int .u32 bs, .int .u32 mn] 33)
  have bx := Blk.new w [.string nm0, .int .u32 mx, .int .u32 bs, .int .u32 mn] 33
  have KX := Lib.hid kx
  have BX := Lib.hid bx
  clear kx bx
  by_cases hbad : (mx : Int) < 1 ∨ 2147483647 < (mx : Int) ∨ (mn : Int) < 1 ∨ (mx : Int) < mn ∨ a1 < 0 ∨ 64 < a1
  · go_enter Try.func8, Try.ntmps8
    go_wp2_with fail
    refine (new_no nm0 mx bs mn a1 _ hbad).mono ?_
    rintro e w1 ⟨rfl, k1⟩
    have b1 := BX.out.kept k1 (fun h => h)
    have y0 := b1.cell 0 rfl
    have y1 := b1.cell 1 rfl
    have y2 := b1.cell 2 rfl
    have y3 := b1.cell 3 rfl
    have K1 := KX.out.then k1 (fun _ h => Or.inl h)
    clear b1
    go_wp2_with fail
    refine (CR.new_no nm0 mx bs mn a1 w1 hbad).mono ?_
    rintro e w2 ⟨rfl, hd, k2⟩
    have d0 := Blk.cell hd 0 rfl
    have K2 := Lib.hid (K1.then k2 (fun _ h => Or.inl h))
    obtain ⟨D, hD⟩ : ∃ D, w1.heap.size + 1 = D := ⟨_, rfl⟩
    rw [hD] at d0
    simp only [hD]
    clear k1 k2 K1 hd y0 y1 y2 y3 hD
    go_wp2_with (first
      | (go_at_call 11; refine (num_ok _ _).mono ?_; rintro e w' ⟨rfl, rfl⟩)
      | (go_at_call 18; refine (alive_law _).mono ?_; rintro e w9 ⟨rfl, k9⟩))
    go_ret
    exact ⟨rfl, (K2.out.then k9 (fun _ h => Or.inl h)).below (Nat.le_refl _) (fun _ h => False.elim h)⟩
  · have h1 : 1 ≤ mx ∧ mx ≤ 2147483647 := by omega
    have h2 : 1 ≤ mn ∧ mn ≤ mx := by omega
    obtain ⟨n, rfl⟩ := Int.eq_ofNat_of_zero_le (show 0 ≤ a1 by omega)
    have h3 : n ≤ 64 := by omega
    clear hbad
    go_enter Try.func8, Try.ntmps8
    go_wp2_with fail
    refine (new_ok nm0 mx bs mn n _ h1 h2 hbs h3).mono ?_
    rintro e w1 ⟨b1, v1, rfl, c1, f1, k1⟩
    have bb1 := BX.out.kept k1 (fun h => h)
    have y0 := bb1.cell 0 rfl
    have y1 := bb1.cell 1 rfl
    have y2 := bb1.cell 2 rfl
    have y3 := bb1.cell 3 rfl
    have K1 := KX.out.then k1 (fun _ h => Or.inl h)
    have zz : (w.alloc (.cells #[.string nm0, .int .u32 mx, .int .u32 bs, .int .u32 mn] 33)).heap.size = w.heap.size + 1 := World.size_alloc _ _
    rw [zz] at f1
    have z1 := k1.size
    rw [zz] at z1
    clear bb1 zz
    go_wp2_with fail
    refine (CR.new_ok nm0 mx bs mn n w1 h1 h2 h3).mono ?_
    rintro e w2 ⟨b2, u2, rfl, r2, f2, k2⟩
    have K2 := K1.then k2 (fun _ h => Or.inl h)
    have HG : Hid (Got w.heap.size w w2 b1 b2) := ⟨v1, u2, nm0, bs, mx, mn, 0, _, got_new (c1.kept k2 (fun _ _ h => h)) r2 (fun i h => by have := f1 i h; omega) (fun i h => by have := f2 i h; omega) (fun i h e => by have := c1.lt i h; have := f2 i e; omega) (K2.below (Nat.le_refl _) (fun _ h => False.elim h))⟩
    have c0 := r2.1.cell 0 rfl
    clear c1 f1 k1 r2 f2 k2 K1 K2 y0 y1 y2 y3 z1 h1 h2
    go_wp2_with (go_at_call 11; refine (num_ok _ _).mono ?_; rintro e w' ⟨rfl, rfl⟩)
    clear c0
    go_loopw [7, 9, 11] (fun p q i wr => ∃ k s b : Nat, k ≤ l2.length ∧ i = .int .i64 k ∧ p = .pointer (some ⟨s, 0, none⟩) ∧ q = .pointer (some ⟨b, 0, none⟩) ∧ Hid (Got w.heap.size w wr s b)) (fun _ _ i _ => l2.length - (intOf i).toNat)
    case atStart => exact ⟨0, _, _, Nat.zero_le _, rfl, rfl, rfl, HG⟩
    case round =>
      clear HG
      obtain ⟨k, s, b, hk, rfl, rfl, rfl, hG⟩ := hrel
      by_cases hlt : k < l2.length
      · obtain ⟨x1, x2, t, cy, hx, v1, v2, ht, hcy⟩ := four_at HW.out hlt
        obtain ⟨ab, off, rfl, hab, e1, e2, e3, e4⟩ := elem_four HC.out hG.out.below hx
        have Hx := Lib.hid hx
        have Hc := HC
        clear hx
        have hk0 : (0 : Int) ≤ (k : Int) := Int.natCast_nonneg _
        have hk1 : (k : Int) < (l2.length : Int) := by omega
        by_cases h8 : x1 = 8
        · subst h8
          go_wp2_with fail
          refine (got_copy hG.out).mono ?_
          rintro e w4 ⟨c4, rfl, hP⟩
          have hP := Lib.hid hP
          clear e1 e2 e3 e4 hG
          go_wp2_with fail
          refine (gap_tick hP.out).mono ?_
          rintro e w5 ⟨⟨r5, rfl⟩, hP5⟩
          have hP5 := Lib.hid hP5
          clear hP
          go_wp2_with fail
          refine (gap_reset hP5.out).mono ?_
          rintro e w6 ⟨rfl, hP6⟩
          have hP6 := Lib.hid hP6
          clear hP5
          go_wp2_with fail
          refine (got_copy_ref hP6.out.got).mono ?_
          rintro e w8 ⟨b8, rfl, hG8⟩
          have hG8 := Lib.hid hG8
          clear hP6
          obtain ⟨e1, e2, e3, e4⟩ := cells_four Hc.out hG8.out.below Hx.out
          go_wp2_with fail
          refine (got_play _ _ _ _ v2 ht hcy hG8.out).mono ?_
          rintro e w9 ⟨rfl, hG9⟩
          have hG9 := Lib.hid hG9
          clear hG8 e1 e2 e3 e4
          go_wp2_with fail
          refine (got_told hG9.out).mono ?_
          rintro e wa ⟨rfl, hGa⟩
          have hGa := Lib.hid hGa
          clear hG9
          go_wp2
          go_roundw
          case rel => exact ⟨k + 1, _, _, by omega, by go_num, rfl, rfl, hGa⟩
          case measure => simp [intOf]; omega
        · have h8' : decide (x1 = 8) = false := by simp [h8]
          have h8'' : (x1 == 8) = false := by simp [h8]
          go_wp2_with fail
          refine (got_play _ _ _ _ v2 ht hcy hG.out).mono ?_
          rintro e w8 ⟨rfl, hG8⟩
          have hG8 := Lib.hid hG8
          clear hG e1 e2 e3 e4
          go_wp2_with fail
          refine (got_told hG8.out).mono ?_
          rintro e w9 ⟨rfl, hG9⟩
          have hG9 := Lib.hid hG9
          go_wp2
          go_roundw
          case rel => exact ⟨k + 1, _, _, by omega, by go_num, rfl, rfl, hG9⟩
          case measure => simp [intOf]; omega
      · go_wp2_with fail
        refine (got_told hG.out).mono ?_
        rintro e w3 ⟨rfl, hG3⟩
        have hG3 := Lib.hid hG3
        clear hG
        go_wp2_with fail
        refine (alive_law _).mono ?_
        rintro e w4 ⟨rfl, k4⟩
        go_wp2
        go_ret
        exact ⟨rfl, (hG3.out.same k4).below⟩
end Go.Proofs.Ytialldmepphloaa.clockPlaysW
