/- R4, the walk. -/
import Derived.Test.YtialldmepphloaaCkG
import Derived.Test.YtialldmepphloaaCkO
import Derived.Test.YtialldmepphloaaCkN
import Derived.Test.YtialldmepphloaaArgs
namespace Go.Proofs.Ytialldmepphloaa.clockApartW
open Go.RowKit Go.Fr Go.Proofs.Ytialldmepphloaa.CK Go.Proofs.Ytialldmepphloaa.L

set_option maxRecDepth 100000 in
set_option maxHeartbeats 8000000 in
theorem walk (w : World) (nm0 : ByteArray) (mx0 : Int) (wmx0 : (Lit.int .u32 mx0).wf = true) (bs0 : Int) (wbs0 : (Lit.int .u32 bs0).wf = true) (mn0 : Int) (wmn0 : (Lit.int .u32 mn0).wf = true)
    (a1 : Option Addr) (cap1 : Nat) (l1 : List (Int × Int × Int × Int)) (hl1 : l1.length ≤ cap1) (hm1 : cap1 ≤ maxLen) (hc1 : CameL w 4 (encKKKK .i64 .i64 .u32 .u32) a1 l1)
    (hw1 : ∀ x ∈ l1, (Lit.int .i64 x.1).wf = true ∧ (Lit.int .i64 x.2.1).wf = true ∧ (Lit.int .u32 x.2.2.1).wf = true ∧ (Lit.int .u32 x.2.2.2).wf = true)
    (a2 : Option Addr) (cap2 : Nat) (l2 : List (Int × Int × Int × Int)) (hl2 : l2.length ≤ cap2) (hm2 : cap2 ≤ maxLen) (hc2 : CameL w 4 (encKKKK .i64 .i64 .u32 .u32) a2 l2)
    (hw2 : ∀ x ∈ l2, (Lit.int .i64 x.1).wf = true ∧ (Lit.int .i64 x.2.1).wf = true ∧ (Lit.int .u32 x.2.2.1).wf = true ∧ (Lit.int .u32 x.2.2.2).wf = true) :
    Calls Try.prog 9 #[.agg #[.string nm0, .int .u32 mx0, .int .u32 bs0, .int .u32 mn0], .slice a1 l1.length cap1, .slice a2 l2.length cap2] w fun e w' => e = .returned (.bool true) ∧ Below w.heap.size w w' := by
  obtain ⟨mx, rfl, hmx⟩ := u32_nat wmx0
  obtain ⟨bs, rfl, hbs⟩ := u32_nat wbs0
  obtain ⟨mn, rfl, hmn⟩ := u32_nat wmn0
  unfold maxLen at hm1 hm2
  clear wmx0 wbs0 wmn0
  have HW1 := Lib.hid hw1
  have HW2 := Lib.hid hw2
  clear hw1 hw2
  have kx := (Kept.refl (fun _ => False) w).alloc (.cells #[.string nm0, .int .u32 mx, .int .u32 bs, .int .u32 mn] 33)
  have bx := Blk.new w [.string nm0, .int .u32 mx, .int .u32 bs, .int .u32 mn] 33
  have KX := Lib.hid kx
  have BX := Lib.hid bx
  clear kx bx
  have hf : ∀ i : Nat, False → (False ∨ w.heap.size ≤ i) := fun _ h => Or.inl h
  by_cases hbad : (mx : Int) < 1 ∨ 2147483647 < (mx : Int) ∨ (mn : Int) < 1 ∨ (mx : Int) < mn
  · have hb : ∀ a : Int, (mx : Int) < 1 ∨ 2147483647 < (mx : Int) ∨ (mn : Int) < 1 ∨ (mx : Int) < mn ∨ a < 0 ∨ 64 < a := fun a => by omega
    go_enter Try.func9, Try.ntmps9
    go_wp2_with fail
    refine (new_no nm0 mx bs mn 3 _ (hb _)).mono ?_
    rintro e w1 ⟨rfl, k1⟩
    have b1 := BX.out.kept k1 (fun h => h)
    have y0 := b1.cell 0 rfl
    have y1 := b1.cell 1 rfl
    have y2 := b1.cell 2 rfl
    have y3 := b1.cell 3 rfl
    have K1 := KX.out.then k1 hf
    clear k1
    go_wp2_with fail
    refine (new_no nm0 mx bs mn 2 w1 (hb _)).mono ?_
    rintro e w2 ⟨rfl, k2⟩
    clear y0 y1 y2 y3
    have b2 := b1.kept k2 (fun h => h)
    have y0 := b2.cell 0 rfl
    have y1 := b2.cell 1 rfl
    have y2 := b2.cell 2 rfl
    have y3 := b2.cell 3 rfl
    have K2 := K1.then k2 hf
    clear b1 K1 k2
    go_wp2_with fail
    refine (CR.new_no nm0 mx bs mn 3 w2 (hb _)).mono ?_
    rintro e w3 ⟨rfl, hd3, k3⟩
    clear y0 y1 y2 y3
    have b3 := b2.kept k3 (fun h => h)
    have y0 := b3.cell 0 rfl
    have y1 := b3.cell 1 rfl
    have y2 := b3.cell 2 rfl
    have y3 := b3.cell 3 rfl
    have K3 := K2.then k3 hf
    clear b2 K2 k3
    go_wp2_with fail
    refine (CR.new_no nm0 mx bs mn 2 w3 (hb _)).mono ?_
    rintro e w4 ⟨rfl, hd4, k4⟩
    have K4 := Lib.hid (K3.then k4 hf)
    clear y0 y1 y2 y3 b3 K3 k4 hd3 hd4
    go_wp2_with (go_at_call 18; refine (alive_law _).mono ?_; rintro e w9 ⟨rfl, k9⟩)
    go_ret
    exact ⟨rfl, (K4.out.then k9 hf).below (Nat.le_refl _) (fun _ h => False.elim h)⟩
  · have h1 : 1 ≤ mx ∧ mx ≤ 2147483647 := by omega
    have h2 : 1 ≤ mn ∧ mn ≤ mx := by omega
    clear hbad
    go_enter Try.func9, Try.ntmps9
    go_wp2_with fail
    refine (new_ok nm0 mx bs mn 3 _ h1 h2 hbs (by omega)).mono ?_
    rintro e w1 ⟨b1, v1, rfl, c1, f1, k1⟩
    have zz : (w.alloc (.cells #[.string nm0, .int .u32 mx, .int .u32 bs, .int .u32 mn] 33)).heap.size = w.heap.size + 1 := World.size_alloc _ _
    rw [zz] at f1
    have z1 := k1.size
    rw [zz] at z1
    clear zz
    have B1 := BX.out.kept k1 (fun h => h)
    have y0 := B1.cell 0 rfl
    have y1 := B1.cell 1 rfl
    have y2 := B1.cell 2 rfl
    have y3 := B1.cell 3 rfl
    have K1 := KX.out.then k1 hf
    clear k1
    go_wp2_with fail
    refine (new_ok nm0 mx bs mn 2 w1 h1 h2 hbs (by omega)).mono ?_
    rintro e w2 ⟨p, v2, rfl, c2, f2, k2⟩
    clear y0 y1 y2 y3
    have B2 := B1.kept k2 (fun h => h)
    have y0 := B2.cell 0 rfl
    have y1 := B2.cell 1 rfl
    have y2 := B2.cell 2 rfl
    have y3 := B2.cell 3 rfl
    have K2 := K1.then k2 hf
    have z2 := k2.size
    clear B1 K1
    go_wp2_with fail
    refine (CR.new_ok nm0 mx bs mn 3 w2 h1 h2 (by omega)).mono ?_
    rintro e w3 ⟨b2, u3, rfl, c3, f3, k3⟩
    clear y0 y1 y2 y3
    have B3 := B2.kept k3 (fun h => h)
    have y0 := B3.cell 0 rfl
    have y1 := B3.cell 1 rfl
    have y2 := B3.cell 2 rfl
    have y3 := B3.cell 3 rfl
    have K3 := K2.then k3 hf
    have z3 := k3.size
    clear B2 K2
    go_wp2_with fail
    refine (CR.new_ok nm0 mx bs mn 2 w3 h1 h2 (by omega)).mono ?_
    rintro e w4 ⟨q, u4, rfl, c4, f4, k4⟩
    clear y0 y1 y2 y3
    have hT : Hid (Two w.heap.size w w4 b1 b2 p q) := by
      have hb := (K3.then k4 hf).below (Nat.le_refl _) (fun _ h => False.elim h)
      have g1 := c1.lt
      have g2 := c2.lt
      have g3 := c3.lt
      have k24 := k3.then k4 (fun _ h => h.elim)
      have k14 := k2.then k24 (fun _ h => h.elim)
      refine ⟨v1, u3, nm0, bs, mx, mn, 0, _, v2, u4, nm0, bs, mx, mn, 0, _, got_new (c1.kept k14 (fun _ _ h => h)) (c3.kept k4 (fun _ _ h => h)) (fun i hi => by have := f1 i hi; omega) (fun i hi => by have := f3 i hi; omega) (fun i hi e => by have := g1 i hi; have := f3 i e; omega) hb, got_new (c2.kept k24 (fun _ _ h => h)) c4 (fun i hi => by have := f2 i hi; omega) (fun i hi => by have := f4 i hi; omega) (fun i hi e => by have := g2 i hi; have := f4 i e; omega) hb, ?_⟩
      rintro i (hi | hi) (e | e)
      · have := g1 i hi; have := f2 i e; omega
      · have := g1 i hi; have := f4 i e; omega
      · have := g2 i e; have := f3 i hi; omega
      · have := g3 i hi; have := f4 i e; omega
    clear c1 f1 c2 f2 k2 c3 f3 k3 c4 f4 k4 K3 B3 z1 z2 z3
    go_wp2_with fail
    go_loopw [15] (fun i wr => ∃ k : Nat, (k ≤ l1.length ∨ k ≤ l2.length) ∧ i = .int .i64 k ∧ Hid (Two w.heap.size w wr b1 b2 p q)) (fun i _ => l1.length + l2.length - (intOf i).toNat)
    case atStart => exact ⟨0, Or.inl (Nat.zero_le _), rfl, hT⟩
    case round =>
      obtain ⟨k, hk, rfl, hT⟩ := hrel
      have hk0 : (0 : Int) ≤ (k : Int) := Int.natCast_nonneg _
      by_cases ha : k < l1.length
      · have hk1 : (k : Int) < (l1.length : Int) := by omega
        obtain ⟨x1, xa1, t1, cy1, hx1, va1, vb1, ht1, hcy1⟩ := four_at HW1.out ha
        obtain ⟨ab1, off1, rfl, hab1, e1, e2, g1, g2⟩ := elem_four hc1 hT.out.below hx1
        have Hx1 := Lib.hid hx1
        have Hc1 := Lib.hid hc1
        clear hx1 hc1
        by_cases hb : k < l2.length
        · have hk2 : (k : Int) < (l2.length : Int) := by omega
          obtain ⟨x2, xa2, t2, cy2, hx2, va2, vb2, ht2, hcy2⟩ := four_at HW2.out hb
          obtain ⟨ab2, off2, rfl, hab2, e3, e4, g3, g4⟩ := elem_four hc2 hT.out.below hx2
          have Hx2 := Lib.hid hx2
          have Hc2 := Lib.hid hc2
          clear hx2 hc2 e3 e4 g3 g4
          go_wp2_with fail
          refine (two_play x1 xa1 t1 cy1 vb1 ht1 hcy1 hT.out).mono ?_
          rintro e w4 ⟨rfl, hT4⟩
          have hT4 := Lib.hid hT4
          clear hT e1 e2 g1 g2
          obtain ⟨e3, e4, g3, g4⟩ := cells_four Hc2.out hT4.out.below Hx2.out
          go_wp2_with fail
          refine (two_play x2 xa2 t2 cy2 vb2 ht2 hcy2 hT4.out.swap).mono ?_
          rintro e w5 ⟨rfl, hT5⟩
          have hT5 := Lib.hid hT5.swap
          clear hT4 e3 e4 g3 g4
          go_wp2_with fail
          refine (two_told hT5.out).mono ?_
          rintro e w6 ⟨rfl, hT6⟩
          have hT6 := Lib.hid hT6
          clear hT5
          go_wp2_with fail
          refine (two_told hT6.out.swap).mono ?_
          rintro e w7 ⟨rfl, hT7⟩
          have hT7 := Lib.hid hT7.swap
          clear hT6
          go_wp2
          go_roundw
          case rel => exact ⟨k + 1, by omega, by go_num, hT7⟩
          case measure => simp [intOf]; omega
        · have hk2 : ¬ (k : Int) < (l2.length : Int) := by omega
          go_wp2_with fail
          refine (two_play x1 xa1 t1 cy1 vb1 ht1 hcy1 hT.out).mono ?_
          rintro e w4 ⟨rfl, hT4⟩
          have hT4 := Lib.hid hT4
          clear hT e1 e2 g1 g2
          go_wp2_with fail
          refine (two_told hT4.out).mono ?_
          rintro e w6 ⟨rfl, hT6⟩
          have hT6 := Lib.hid hT6
          clear hT4
          go_wp2_with fail
          refine (two_told hT6.out.swap).mono ?_
          rintro e w7 ⟨rfl, hT7⟩
          have hT7 := Lib.hid hT7.swap
          clear hT6
          go_wp2
          go_roundw
          case rel => exact ⟨k + 1, by omega, by go_num, hT7⟩
          case measure => simp [intOf]; omega
      · have hk1 : ¬ (k : Int) < (l1.length : Int) := by omega
        by_cases hb : k < l2.length
        · have hk2 : (k : Int) < (l2.length : Int) := by omega
          obtain ⟨x2, xa2, t2, cy2, hx2, va2, vb2, ht2, hcy2⟩ := four_at HW2.out hb
          obtain ⟨ab2, off2, rfl, hab2, e3, e4, g3, g4⟩ := elem_four hc2 hT.out.below hx2
          have Hx2 := Lib.hid hx2
          have Hc2 := Lib.hid hc2
          clear hx2 hc2
          go_wp2_with fail
          refine (two_play x2 xa2 t2 cy2 vb2 ht2 hcy2 hT.out.swap).mono ?_
          rintro e w5 ⟨rfl, hT5⟩
          have hT5 := Lib.hid hT5.swap
          clear hT e3 e4 g3 g4
          go_wp2_with fail
          refine (two_told hT5.out).mono ?_
          rintro e w6 ⟨rfl, hT6⟩
          have hT6 := Lib.hid hT6
          clear hT5
          go_wp2_with fail
          refine (two_told hT6.out.swap).mono ?_
          rintro e w7 ⟨rfl, hT7⟩
          have hT7 := Lib.hid hT7.swap
          clear hT6
          go_wp2
          go_roundw
          case rel => exact ⟨k + 1, by omega, by go_num, hT7⟩
          case measure => simp [intOf]; omega
        · have hk2 : ¬ (k : Int) < (l2.length : Int) := by omega
          go_wp2_with fail
          refine (mid_copy hT.out.got).mono ?_
          rintro e w5 ⟨c, rfl, hM⟩
          go_wp2_with fail
          refine (mid_ref hM).mono ?_
          rintro e w6 ⟨d, rfl, hT6⟩
          have hT6 := Lib.hid hT6
          clear hM hT hk2 hb hk1 ha hk hk0
          go_wp2
          go_loopw [18] (fun i wr => ∃ k : Nat, k ≤ l2.length ∧ i = .int .i64 k ∧ Hid (Two w.heap.size w wr b1 b2 c d)) (fun i _ => l2.length - (intOf i).toNat)
          case atStart => exact ⟨0, Nat.zero_le _, rfl, hT6⟩
          case round =>
            obtain ⟨k, hk, rfl, hT⟩ := hrel
            have hk0 : (0 : Int) ≤ (k : Int) := Int.natCast_nonneg _
            by_cases hb : k < l2.length
            · have hk2 : (k : Int) < (l2.length : Int) := by omega
              obtain ⟨x2, xa2, t2, cy2, hx2, va2, vb2, ht2, hcy2⟩ := four_at HW2.out hb
              obtain ⟨ab2, off2, rfl, hab2, e3, e4, g3, g4⟩ := elem_four hc2 hT.out.below hx2
              have Hx2 := Lib.hid hx2
              have Hc2 := Lib.hid hc2
              clear hx2 hc2
              go_wp2_with fail
              refine (two_play x2 xa2 t2 cy2 vb2 ht2 hcy2 hT.out.swap).mono ?_
              rintro e w5 ⟨rfl, hT5⟩
              have hT5 := Lib.hid hT5.swap
              clear hT e3 e4 g3 g4
              go_wp2_with fail
              refine (two_told hT5.out).mono ?_
              rintro e w6 ⟨rfl, hT6⟩
              have hT6 := Lib.hid hT6
              clear hT5
              go_wp2_with fail
              refine (two_told hT6.out.swap).mono ?_
              rintro e w7 ⟨rfl, hT7⟩
              have hT7 := Lib.hid hT7.swap
              clear hT6
              go_wp2
              go_roundw
              case rel => exact ⟨k + 1, by omega, by go_num, hT7⟩
              case measure => simp [intOf]; omega
            · go_wp2_with fail
              refine (alive_law _).mono ?_
              rintro e w4 ⟨rfl, k4⟩
              go_wp2
              go_ret
              exact ⟨rfl, (hT.out.got.same k4).below⟩
end Go.Proofs.Ytialldmepphloaa.clockApartW
