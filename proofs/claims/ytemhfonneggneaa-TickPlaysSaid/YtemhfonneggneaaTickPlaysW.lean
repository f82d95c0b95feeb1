/- P21.1 to P21.6, the walk. -/
import Derived.Test.YtemhfonneggneaaBsN
import Derived.Test.YtemhfonneggneaaArgT
import Derived.Deep.CutBlock
namespace Go.Proofs.Ytemhfonneggneaa.tickPlaysW
open Go.RowKit Go.Fr Go.Tb Go.Proofs.Ytemhfonneggneaa.CK Go.Proofs.Ytemhfonneggneaa.BD Go.Proofs.Ytemhfonneggneaa.RB Go.Proofs.Ytemhfonneggneaa.BS Go.Proofs.Ytemhfonneggneaa.BP Go.Proofs.Ytemhfonneggneaa.TC

theorem call_at {w w' : World} {l : List CallR} {ao : Option Addr} {k : Nat} {x : CallR} (hc : CameL w 7 encCall ao l) (hb : Below w.heap.size w w') (hx : l[k]? = some x) :
    ∃ (sb so : Nat), ao = some ⟨sb, so, none⟩ ∧ sb < w.heap.size ∧ w'.cell? ⟨sb, so + k * 7, none⟩ = some (.int .i64 x.kd) ∧ w'.cell? ⟨sb, so + k * 7 + 1, none⟩ = some (.int .i64 x.n) ∧ w'.cell? ⟨sb, so + k * 7 + 2, none⟩ = some (.int .u32 x.a) ∧ w'.cell? ⟨sb, so + k * 7 + 3, none⟩ = some (.int .u32 x.b) ∧
      w'.cell? ⟨sb, so + k * 7 + 4, none⟩ = some (.bool x.s) ∧ w'.cell? ⟨sb, so + k * 7 + 5, none⟩ = some (.int .i64 x.al) ∧ w'.cell? ⟨sb, so + k * 7 + 6, none⟩ = some (.int .i64 x.os) := by
  obtain ⟨sb, so, rfl, hsb, hcc⟩ := hc (by rintro rfl; simp at hx)
  have h0 : ∀ (j : Nat) (v : Value), (encCall x)[j]? = some v → w'.cell? ⟨sb, so + k * 7 + j, none⟩ = some v := fun j v hv => by
    rw [hb.cell (p := ⟨sb, so + k * 7 + j, none⟩) hsb]
    exact hcc k _ hx j v hv
  exact ⟨sb, so, rfl, hsb, h0 0 _ rfl, h0 1 _ rfl, h0 2 _ rfl, h0 3 _ rfl, h0 4 _ rfl, h0 5 _ rfl, h0 6 _ rfl⟩
theorem Both.low {W w : World} {b p : Nat} {T : Tb} (h : Both W w b p T) : Below W.heap.size W w := by
  obtain ⟨_, _, _, _, _, h⟩ := h
  exact h.low

set_option maxRecDepth 100000 in
set_option maxHeartbeats 8000000 in
theorem walk (w : World) (T : Tb) (hT : TabIn w T) (hW : T.Wf) (hC : AT.Caps T)
    (a1 : Option Addr) (cap1 : Nat) (l1 : List CallR) (hl1 : l1.length ≤ cap1) (hm1 : cap1 ≤ maxLen) (hc1 : CameL w 7 encCall a1 l1) (hw1 : ∀ x ∈ l1, x.wf) (hr1 : l1.length * 48 ≤ 140737488351232) :
    Calls Try.prog 4 #[.agg T.cells.toArray, .slice a1 l1.length cap1] w fun e w' => e = .returned (.bool true) ∧ Below w.heap.size w w' := by
  unfold maxLen at hm1
  have HC := Lib.hid hc1
  have HWF := Lib.hid hw1
  have HOK : Hid (CheckP T → Ev w T) := fun hc => ⟨hT, tok hc hW⟩
  clear hc1 hw1 hr1
  have k0 : Kept (fun _ => False) w (box w T) := (Kept.refl _ w).alloc _
  have nb : Blk (box w T) w.heap.size T.cells 37 := Blk.new w T.cells 37
  have hT1 := hT.same k0
  obtain ⟨w1, hw1⟩ : ∃ w1, box w T = w1 := ⟨_, rfl⟩
  obtain ⟨B, hB⟩ : ∃ B, w.heap.size = B := ⟨_, rfl⟩
  rw [hw1] at k0 nb hT1
  rw [hB] at nb
  have hnp := new_p hT1 hW hC.2.2.2.2.2.1
  have HT := Lib.hid hT1
  have HW := Lib.hid hW
  have NB := Lib.hid nb
  have K0 := Lib.hid k0
  clear hT hT1 hW nb k0 hC
  have hs : T.cells.toArray.size = 13 := rfl
  have hn0 : (T.cells.toArray = #[]) = False := by simp [Tb.cells]
  unfold box at hw1
  generalize hZ : T.cells.toArray = Z0 at hw1 hs hn0 hnp ⊢
  have HZ := Lib.hid hZ
  have HNP := Lib.hid hnp
  clear hZ hnp
  go_enter Try.func4, Try.ntmps4
  go_upto_region 1 with fail
  clear hs hn0 hw1 hB
  have hnp := HNP.out
  rw [← HZ.out] at hnp
  obtain ⟨c0, c1, c2, c3, c4, c5, c6, c7, c8, c9, c10, c11, c12⟩ := tab_cells NB.out
  clear HNP HZ
  go_upto_region 2 with (go_at_call 7; refine hnp.mono ?_; rintro e w2 hh; have HH := Lib.hid hh; clear hh; rcases HH.out with ⟨hn, rfl, k2⟩ | ⟨hc, b, M, rfl, s1, f1, k2⟩)
  · clear c0 c1 c2 c3 c4 c5 c6 c7 c8 c9 c10 c11 c12 hnp HH
    obtain ⟨c0, c1, c2, c3, c4, c5, c6, c7, c8, c9, c10, c11, c12⟩ := tab_cells (NB.out.kept k2 (fun x => x))
    have hnr := RB.new_ok (HT.out.same k2) HW.out
    have K2 := Lib.hid k2
    have HN := Lib.hid hn
    clear k2 hn
    go_upto_region 3 with (go_at_call 16; refine hnr.mono ?_; rintro e w3 hh; have HH := Lib.hid hh; clear hh; rcases HH.out with ⟨_, rfl, k3⟩ | ⟨hc, _⟩; rotate_left; exact absurd hc HN.out)
    have K3 := Lib.hid (K2.out.then k3 (fun _ x => x.elim))
    clear c0 c1 c2 c3 c4 c5 c6 c7 c8 c9 c10 c11 c12 hnr HH k3 K2
    go_wp2_with fail
    refine (heads_ok _).mono ?_
    rintro e w4 ⟨rfl, k4⟩
    go_wp2_with fail
    go_ret
    exact ⟨rfl, ((K0.out.then K3.out (fun _ x => x.elim)).then k4 (fun _ x => x.elim)).below (Nat.le_refl _) (fun _ h => h.elim)⟩
  · clear c0 c1 c2 c3 c4 c5 c6 c7 c8 c9 c10 c11 c12 hnp HH
    obtain ⟨c0, c1, c2, c3, c4, c5, c6, c7, c8, c9, c10, c11, c12⟩ := tab_cells (NB.out.kept k2 (fun x => x))
    have hnr := RB.new_ok (HT.out.same k2) HW.out
    have K2 := Lib.hid k2
    have HN := Lib.hid hc
    have HS := Lib.hid s1
    have HF := Lib.hid f1
    clear k2 hc s1 f1
    go_upto_region 3 with (go_at_call 16; refine hnr.mono ?_; rintro e w3 hh; have HH := Lib.hid hh; clear hh; rcases HH.out with ⟨hn, _⟩ | ⟨_, p, Q, rfl, s2, f2, k3⟩; exact absurd HN.out hn)
    have HG : Hid (Both w w3 b p T) := ⟨M, Q, _, _, _, bo_new HS.out (fun q hq => Nat.le_trans K0.out.size (HF.out q hq)) ((K0.out.then K2.out (fun _ x => x.elim)).below (Nat.le_refl _) (fun _ h => h.elim)) s2 f2 k3⟩
    have HE := Lib.hid (HOK.out HN.out)
    clear c0 c1 c2 c3 c4 c5 c6 c7 c8 c9 c10 c11 c12 hnr HH k3 s2 f2 K2 HS HF HOK HN NB K0 HT HW
    go_wp2_with fail
    refine (heads_ok _).mono ?_
    rintro e w4 ⟨rfl, k4⟩
    have HG4 := Lib.hid (HG.out.same k4)
    clear HG k4
    go_wp2_with fail
    go_loopw [5, 7, 9] (fun bb pp i wr => ∃ k b p : Nat, k ≤ l1.length ∧ i = .int .i64 k ∧ bb = .pointer (some ⟨b, 0, none⟩) ∧ pp = .pointer (some ⟨p, 0, none⟩) ∧ Hid (Both w wr b p T)) (fun _ _ i _ => l1.length - (intOf i).toNat)
    case atStart => exact ⟨0, _, _, Nat.zero_le _, rfl, rfl, rfl, HG4⟩
    case round =>
      clear HG4
      obtain ⟨k, b, p, hk, rfl, rfl, rfl, hG⟩ := hrel
      by_cases hkl : k < l1.length
      · obtain ⟨x, hx, hxm⟩ := at_of hkl
        obtain ⟨sb, so, rfl, hsb, q0, q1, q2, q3, q4, q5, q6⟩ := call_at HC.out (Both.low hG.out) hx
        have hwf := Lib.hid (HWF.out x hxm)
        obtain ⟨xk, xn, xa, xb, xs, xal, xos⟩ := x
        dsimp only at q0 q1 q2 q3 q4 q5 q6
        have hk0 : (0 : Int) ≤ (k : Int) := by omega
        have hk1 : (k : Int) < (l1.length : Int) := by omega
        clear hx hxm
        go_upto_region 11 with fail
        obtain ⟨xx, hxx⟩ : ∃ xx, wr.heap.size = xx := ⟨_, rfl⟩
        have kx := (Kept.refl (fun _ => False) wr).alloc (.cells #[.int .i64 xk, .int .i64 xn, .int .u32 xa, .int .u32 xb, .bool xs, .int .i64 xal, .int .i64 xos] 48)
        have bx := Blk.new wr [.int .i64 xk, .int .i64 xn, .int .u32 xa, .int .u32 xb, .bool xs, .int .i64 xal, .int .i64 xos] 48
        simp only [hxx]
        obtain ⟨wx, hwx⟩ : ∃ wx, wr.alloc (.cells #[.int .i64 xk, .int .i64 xn, .int .u32 xa, .int .u32 xb, .bool xs, .int .i64 xal, .int .i64 xos] 48) = wx := ⟨_, rfl⟩
        rw [hwx] at kx bx ⊢
        rw [hxx] at bx
        have BX := Lib.hid bx
        have KX := Lib.hid kx
        clear hwx kx bx q0 q1 q2 q3 q4 q5 q6 hsb hk0 hk1
        have c0 := BX.out.cell 0 rfl
        by_cases h12 : xk = 12
        · subst h12
          have hcp := mid_copy HE.out hG.out KX.out
          rw [hxx] at hcp
          clear hxx
          go_upto_region 14 with (go_at_call 17; refine hcp.mono ?_; rintro e w2 ⟨N, rfl, k2, hD⟩)
          have HD := Lib.hid (hD _ (Kept.refl _ _))
          clear hcp hD c0 KX hG
          go_upto_region 15 with (go_at_call 18; refine HD.out.mono ?_; rintro e w3 ⟨q, rfl, hM, k3⟩)
          have BX3 := Lib.hid ((BX.out.kept k2 (fun x => x)).kept k3 (fun x => x))
          have HM := Lib.hid hM
          have c1 := BX3.out.cell 1 rfl
          clear HD k2 k3 hM BX
          have ht := mid_tick HE.out HM.out xn
          go_upto_region 18 with (go_at_call 9; refine ht.mono ?_; rintro e w5 ⟨⟨ao, tl, tc, tz, rfl⟩, hM, k5⟩)
          have BX5 := Lib.hid (BX3.out.kept k5 (fun h => Nat.lt_irrefl _ h))
          have HM5 := Lib.hid hM
          have d1 := BX5.out.cell 1 rfl
          clear ht hM k5 BX3 HM c1
          have ht := mid_request HE.out HM5.out xn
          go_upto_region 19 with (go_at_call 13; refine ht.mono ?_; rintro e w6 ⟨⟨rz, rfl⟩, hM, k6⟩)
          have BX6 := Lib.hid (BX5.out.kept k6 (fun h => Nat.lt_irrefl _ h))
          have HM6 := Lib.hid hM
          clear ht hM k6 BX5 HM5 d1
          have ht := mid_calm HE.out HM6.out
          go_upto_region 20 with (go_at_call 19; refine ht.mono ?_; rintro e w7 ⟨rfl, hM, k7⟩)
          have BX7 := Lib.hid (BX6.out.kept k7 (fun h => Nat.lt_irrefl _ h))
          have HG7 := Lib.hid hM.both
          clear ht hM k7 BX6 HM6
          have e0 := BX7.out.cell 0 rfl
          have e1 := BX7.out.cell 1 rfl
          have e2 := BX7.out.cell 2 rfl
          have e3 := BX7.out.cell 3 rfl
          have e4 := BX7.out.cell 4 rfl
          have e5 := BX7.out.cell 5 rfl
          have e6 := BX7.out.cell 6 rfl
          have hdo := both_does HE.out HG7.out _ hwf.out
          go_upto_region 21 with (go_at_call 20; refine hdo.mono ?_; rintro e w8 ⟨rfl, hG8⟩)
          have HG8 := Lib.hid hG8
          clear hG8 hdo e0 e1 e2 e3 e4 e5 e6 BX7 HG7
          have htl := both_tells HE.out HG8.out
          go_wp2_with (go_at_call 21; refine htl.mono ?_; rintro e w9 ⟨rfl, hG9⟩; have HG9 := Lib.hid hG9; clear hG9)
          go_roundw
          case rel => exact ⟨k + 1, _, _, by omega, by go_num, rfl, rfl, HG9⟩
          case measure => simp [intOf]; omega
        · have h12' : (xk == 12) = false := by simp [h12]
          have HG7 := Lib.hid (hG.out.same KX.out)
          clear hxx hG KX
          have e1 := BX.out.cell 1 rfl
          have e2 := BX.out.cell 2 rfl
          have e3 := BX.out.cell 3 rfl
          have e4 := BX.out.cell 4 rfl
          have e5 := BX.out.cell 5 rfl
          have e6 := BX.out.cell 6 rfl
          have hdo := both_does HE.out HG7.out _ hwf.out
          go_upto_region 21 with (go_at_call 20; refine hdo.mono ?_; rintro e w8 ⟨rfl, hG8⟩)
          have HG8 := Lib.hid hG8
          clear hG8 hdo c0 e1 e2 e3 e4 e5 e6 BX HG7
          have htl := both_tells HE.out HG8.out
          go_wp2_with (go_at_call 21; refine htl.mono ?_; rintro e w9 ⟨rfl, hG9⟩; have HG9 := Lib.hid hG9; clear hG9)
          go_roundw
          case rel => exact ⟨k + 1, _, _, by omega, by go_num, rfl, rfl, HG9⟩
          case measure => simp [intOf]; omega
      · obtain rfl : k = l1.length := by omega
        have HB := Lib.hid (Both.low hG.out)
        go_wp2_with fail
        go_ret
        exact ⟨rfl, HB.out⟩
end Go.Proofs.Ytemhfonneggneaa.tickPlaysW
