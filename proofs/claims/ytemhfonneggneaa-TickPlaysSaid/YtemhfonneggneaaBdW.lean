/- Package tick: New. -/
import Derived.Test.YtemhfonneggneaaBdX
import Derived.Test.YtemhfonneggneaaBdC
import Derived.Test.YtemhfonneggneaaTbM
namespace Go.Proofs.Ytemhfonneggneaa.BD
open Go.RowKit Go.Fr Go.Tb
open Go.Proofs.Ytemhfonneggneaa.CK (IsClk foot)
open Go.Proofs.Ytemhfonneggneaa.TC (check_ok cloneC_ok cloneA_ok CheckP Says tab_cells box CounterP)
attribute [local go_sem] Oper.semAt_some

def Z : Array Value := (([.slice none 0 0, .slice none 0 0, .slice none 0 0, .slice none 0 0, .int .i64 0, .slice none 0 0] : List Value) ++ (List.replicate 32 (Value.bool false) ++ ([.bool false] : List Value))).toArray
theorem z_run (w : World) : (zeroValue 68).run Try.prog w = .ok (.agg Z) w := by kernel_rfl
theorem z_size : Z.size = 39 := by kernel_rfl
theorem z_ne : (Z = #[]) = False := by
  have := z_size
  simp only [eq_iff_iff, iff_false]
  intro e
  rw [e] at this
  cases this
theorem z_made (vr va m : Value) : (((Z.setIfInBounds 0 vr).setIfInBounds 1 va).setIfInBounds 4 m).setIfInBounds 38 (.bool true) = (([vr, va, .slice none 0 0, .slice none 0 0, m, .slice none 0 0] : List Value) ++ ((List.replicate 32 false).map Value.bool ++ ([.bool true] : List Value))).toArray := by
  unfold Z
  simp only [List.setIfInBounds_toArray]
  rfl
theorem infoN : (Try.prog.info? 87).map (fun i => (i.zero, i.size, i.bytes)) = some (some (.agg #[.pointer none, .slice none 0 0]), 2, 32) := by kernel_rfl
theorem infoI : (Try.prog.info? 3).map (fun i => (i.zero, i.size, i.bytes)) = some (some (.int .i64 0), 1, 8) := by kernel_rfl
theorem infoS : (Try.prog.info? 95).map (fun i => (i.zero, i.size, i.bytes)) = some (some (.agg #[.int .i64 0, .int .i64 0]), 2, 16) := by kernel_rfl

/-- what a cell holds now -/
def nowAt (w : World) (p : Addr) : Value := (w.cell? p).getD (.int .i64 0)
theorem nowAt_of {w : World} {p : Addr} {v : Value} (h : w.cell? p = some v) : w.cell? p = some (nowAt w p) := by unfold nowAt; rw [h]; rfl

set_option maxRecDepth 100000 in
set_option maxHeartbeats 8000000 in
theorem new_ok {w : World} {T : Tb} (hT : TabIn w T) (hW : T.Wf) (hic : T.isrs.length ≤ T.ic) :
    Calls Try.prog 7 #[.agg T.cells.toArray] w fun e w' => (¬ CheckP T ∧ e = .returned (.tuple #[.pointer none, .int .i64 210]) ∧ Kept (fun _ => False) w w') ∨
      (CheckP T ∧ ∃ b M C, e = .returned (.tuple #[.pointer (some ⟨b, 0, none⟩), .int .i64 0]) ∧ IsBd w' b M T C (List.replicate 32 false) ∧ (∀ q, bfoot b M q → w.heap.size ≤ q) ∧ Kept (fun _ => False) w w' ∧
        ∀ (c : Nat) (s : Cs), C[c]? = some s → s.x = 0 ∧ s.l = List.replicate (alsOf T.alarms c).length (false, 0, 0)) := by
  have k0 : Kept (fun _ => False) w (box w T) := (Kept.refl _ w).alloc _
  have nb : Blk (box w T) w.heap.size T.cells 37 := Blk.new w T.cells 37
  have hT1 := hT.same k0
  obtain ⟨w1, hw1⟩ : ∃ w1, box w T = w1 := ⟨_, rfl⟩
  obtain ⟨B, hB⟩ : ∃ B, w.heap.size = B := ⟨_, rfl⟩
  rw [hw1] at k0 nb hT1
  rw [hB] at nb
  have hck := check_ok hT1 hW hic
  have HT := Lib.hid hT1
  have HW := Lib.hid hW
  have NB := Lib.hid nb
  have K0 := Lib.hid k0
  clear hT hT1 hW nb k0 hic
  have hs : T.cells.toArray.size = 13 := rfl
  have hn0 : (T.cells.toArray = #[]) = False := by simp [Tb.cells]
  unfold box at hw1
  generalize hZ : T.cells.toArray = Z0 at hw1 hs hn0 hck ⊢
  have HZ := Lib.hid hZ
  have HCK := Lib.hid hck
  clear hZ hck
  go_enter Try.func7, Try.ntmps7
  go_upto_region 1 with fail
  clear hs hn0 hw1 hB
  have hck := HCK.out
  rw [← HZ.out] at hck
  obtain ⟨c0, c1, c2, c3, c4, c5, c6, c7, c8, c9, c10, c11, c12⟩ := tab_cells NB.out
  clear HCK
  go_upto_if 14 with (go_at_call 25; refine hck.mono ?_; rintro e w2 ⟨hsy, k2⟩; have HSY := Lib.hid hsy; have K2 := Lib.hid k2; clear hsy k2; rcases HSY.out with ⟨rfl, hP⟩ | ⟨rfl, hP⟩)
  · clear c0 c1 c2 c3 c4 c5 c6 c7 c8 c9 c10 c11 c12 hck HSY
    have HP := Lib.hid hP
    clear hP
    obtain ⟨c0, c1, c2, c3, c4, c5, c6, c7, c8, c9, c10, c11, c12⟩ := tab_cells (NB.out.kept K2.out (fun x => x))
    go_upto_region 3 with fail
    clear c0 c2 c3 c4 c7 c8 c9 c10 c11 c12
    have hnc : T.counters.length ≤ 16 := HP.out.1.2.2.2.2.1
    have hna : T.alarms.length ≤ 64 := HP.out.1.2.2.2.2.2.1
    have hcc := fun (W : World) (k : Kept (fun _ => False) w1 W) => cloneC_ok (c := T.cc) (camel_same HT.out.counters k) (by omega)
    have hca := fun (W : World) (k : Kept (fun _ => False) w1 W) => cloneA_ok (c := T.ac) (camel_same HT.out.alarms k) hna
    have HCC := Lib.hid hcc
    have HCA := Lib.hid hca
    clear hcc hca
    have zr := z_run
    have zs := z_size
    have zn := z_ne
    have zm := z_made
    obtain ⟨Z, hZ⟩ : ∃ Y, BD.Z = Y := ⟨_, rfl⟩
    rw [hZ] at zr zs zn zm
    clear hZ
    refine wp_region_noPanic ?_
    go_region_held3 (fun w' => w'.cell? ⟨B, 1, none⟩ = some (.int .i64 T.modes) ∧ w'.cell? ⟨B, 5, none⟩ = some (.slice T.ca T.counters.length T.cc) ∧ w'.cell? ⟨B, 6, none⟩ = some (.slice T.aa T.alarms.length T.ac))
      (first
        | (simp [*]; done)
        | (refine ⟨?_, ?_, ?_⟩ <;> (first | exact (((NB.out.kept K2.out (fun x => x)).drewN _).kept k5 (fun x => x)).cell _ rfl | exact ((((NB.out.kept K2.out (fun x => x)).drewN _).kept k5 (fun x => x)).kept k6 (fun x => x)).cell _ rfl | exact (((NB.out.kept K2.out (fun x => x)).drewN _).kept k6 (fun x => x)).cell _ rfl | exact ((((NB.out.kept K2.out (fun x => x)).drewN _).kept k6 (fun x => x)).kept k5 (fun x => x)).cell _ rfl))
        | (refine ⟨?_, ?_, ?_⟩ <;> (first | exact (((((NB.out.kept K2.out (fun x => x)).drewN _).kept k5 (fun x => x)).kept k6 (fun x => x)).alloc _).cell _ rfl | exact (((((NB.out.kept K2.out (fun x => x)).drewN _).kept k6 (fun x => x)).kept k5 (fun x => x)).alloc _).cell _ rfl))
        | fail)
      (first
        | (go_at_call 26; refine (HCC.out _ (by first | exact (K2.out.drewN _) | exact (K2.out.drewN _).then k6 (fun _ x => x.elim))).mono ?_; rintro e w5 ⟨ao5, d5, rfl, h5, k5, o5⟩)
        | (go_at_call 27; refine (HCA.out _ (by first | exact (K2.out.drewN _) | exact (K2.out.drewN _).then k5 (fun _ x => x.elim))).mono ?_; rintro e w6 ⟨ao6, d6, rfl, h6, k6, o6⟩))
    refine NoPanic.normal ?_
    obtain ⟨i0, hi, hz0, hz1, hz2⟩ := info_parts infoN
    obtain ⟨n, hn⟩ : ∃ n, T.counters.length = n := ⟨_, rfl⟩
    have kk6 : Kept (fun _ => False) w1 w6 := (K2.out.drewN _).then (k5.then k6 (fun _ x => x.elim)) (fun _ x => x.elim)
    have hb0 : Pb w1 (made w6 (.slice ao5 n d5) (.slice ao6 T.alarms.length d6) T.modes n) T n ⟨w6.heap.size, w6.heap.size + 1, .slice ao5 n d5, .slice ao6 T.alarms.length d6, .slice none 0 0, .slice none 0 0, [], [], List.replicate n (.slice none 0 0, []), List.replicate n none⟩ := by

      have hz3 := k5.size
      have hz4 := k6.size
      have hzd : w2.drew.heap.size = w2.heap.size := rfl
      have hz5 := K2.out.size

      rw [hn] at o5
      refine pb_new ⟨ao5, d5, by rw [hn], camel_same h5 k6⟩ ⟨ao6, d6, rfl, h6⟩ (fun g hg => ?_) (fun g hg => ?_) (fun g hg hg2 => ?_) kk6 (by omega)
      · have := o5 g hg; omega
      · have := o6 g hg; omega
      · have := o5 g hg; have := o6 g hg2; omega
    have nbm := (NB.out.kept kk6 (fun x => x)).alloc (.cells (bare (.slice ao5 n d5) (.slice ao6 T.alarms.length d6) T.modes).toArray 68)
    have nbw := Blk.new w6 (bare (.slice ao5 n d5) (.slice ao6 T.alarms.length d6) T.modes) 68
    have hmk : ∀ w, (Instr.makeSlice 64 (.int .i64 (n : Int)) (.int .i64 (n : Int))).run Try.prog w = .ok (.slice (some ⟨w.heap.size, 0, none⟩) n n) (w.alloc (.cells (noC n).toArray 87)) :=
      fun w => run_make_flat (enc := encQ) (fun _ => rfl) (by decide) ((.slice none 0 0, []), none) _ _ i0 _ Try.underlying64 hi hz0 hz1 rfl .i64 .i64 n (by rw [hz2]; omega) (by omega) w
    have HB0 := Lib.hid hb0
    have HN := Lib.hid hn
    clear hb0 c1 c5 c6 h5 h6 k5 k6 o5 o6 hi hz0 hz1 hz2 i0 HCC HCA zr zs zn zm
    simp only [hn] at hnc ⊢
    clear hn
    obtain ⟨W, hW0⟩ : ∃ W, w6.alloc (.cells #[.slice ao5 n d5, .slice ao6 T.alarms.length d6, .slice none 0 0, .slice none 0 0, .int .i64 T.modes, .slice none 0 0, .bool false, .bool false, .bool false, .bool false, .bool false, .bool false, .bool false, .bool false, .bool false, .bool false, .bool false, .bool false, .bool false, .bool false, .bool false, .bool false, .bool false, .bool false, .bool false, .bool false, .bool false, .bool false, .bool false, .bool false, .bool false, .bool false, .bool false, .bool false, .bool false, .bool false, .bool false, .bool false, .bool true] 68) = W := ⟨_, rfl⟩
    rw [hW0]
    have hW1 : w6.alloc (.cells (bare (.slice ao5 n d5) (.slice ao6 T.alarms.length d6) T.modes).toArray 68) = W := hW0
    have hWs : W.heap.size = w6.heap.size + 1 := by rw [← hW1, World.size_alloc]
    rw [hW1] at nbm nbw
    obtain ⟨b, hb⟩ : ∃ b, w6.heap.size = b := ⟨_, rfl⟩
    unfold made at HB0
    simp only [hW1, hb] at HB0 nbw ⊢
    have HWS : Hid (W.heap.size = b + 1) := by rw [← hb]; exact hWs
    clear hb hWs
    have HW1 := Lib.hid hW1
    clear hW1 hW0
    have n5 : W.cell? ⟨B, 5, none⟩ = some (.slice T.ca n T.cc) := by rw [← HN.out]; exact nbm.cell 5 rfl
    have f3 := (nbw.alloc (.cells (noC n).toArray 87)).frozen 3
    have n3 := (nbw.alloc (.cells (noC n).toArray 87)).cell 3 rfl
    have NBW := Lib.hid nbw
    have NBM := Lib.hid nbm
    clear nbw nbm
    go_upto_region 5 with fail
    rw [HWS.out]
    obtain ⟨w7, hw7⟩ : ∃ w7, (W.alloc (.cells (noC n).toArray 87)).setCell ⟨b, 3, none⟩ (.slice (some ⟨b + 1, 0, none⟩) n n) = w7 := ⟨_, rfl⟩
    rw [hw7] at HB0 ⊢
    clear hw7 HWS HW1 n5 f3 n3 NBW NBM kk6 hmk
    have n6 := (NB.out.kept HB0.out.kept (fun x => x)).cell 6 rfl
    obtain ⟨R, hR⟩ : ∃ R : Value, .slice ao5 n d5 = R := ⟨_, rfl⟩
    obtain ⟨A, hA⟩ : ∃ A : Value, .slice ao6 T.alarms.length d6 = A := ⟨_, rfl⟩
    rw [hR, hA] at HB0
    clear hR hA
    obtain ⟨iI, hiI, hI0, hI1, hI2⟩ := info_parts infoI
    go_upto_region 6 with fail
    go_loopw [35] (fun i wr => ∃ (k : Nat) (vp : Value) (S : List (Value × List Int)), k ≤ T.alarms.length ∧ i = .int .i64 k ∧ Hid (Pb w1 wr T n ⟨b, b + 1, R, A, vp, .slice none 0 0, placesOf (T.alarms.take k), [], S, List.replicate n none⟩) ∧ Hid (∀ (c : Nat) (v : Value) (l : List Int), S[c]? = some (v, l) → l = alsOf (T.alarms.take k) c)) (fun i _ => T.alarms.length - (intOf i).toNat)
    case atStart => exact ⟨0, _, _, Nat.zero_le _, rfl, HB0, fun c v l h => by obtain ⟨_, h2⟩ := Prod.mk.inj (List.eq_of_mem_replicate (List.mem_of_getElem? h)); rw [h2]; rfl⟩
    case round =>
      clear HB0 n6
      obtain ⟨k, vp, S, hk, rfl, hB, hS⟩ := hrel
      by_cases hkl : k < T.alarms.length
      · obtain ⟨⟨xc, xk, xt, xm, xa, xti, xcy⟩, hx, hmx⟩ := at_of hkl
        have hap := (HP.out.2.2.2.1.2.1.2 _ hmx).1
        rw [HN.out] at hap
        dsimp only at hap
        obtain ⟨c, rfl⟩ := Int.eq_ofNat_of_zero_le hap.1
        have hcn : c < n := by omega
        have hk0 : (0 : Int) ≤ (k : Int) := by omega
        have hk1 : (k : Int) < (T.alarms.length : Int) := by omega
        obtain ⟨q, off, hta, hq, hcl⟩ := camel_at (camel_same HT.out.alarms hB.out.kept) hx
        have e0 := hcl 0 _ rfl
        have e1 := hcl 1 _ rfl
        have e2 := hcl 2 _ rfl
        have e3 := hcl 3 _ rfl
        have e4 := hcl 4 _ rfl
        have e5 := hcl 5 _ rfl
        have e6 := hcl 6 _ rfl
        simp only [Nat.add_zero] at e0
        have HX := Lib.hid hx
        have hx' := hx
        clear hcl hx hmx hap
        rw [hta]
        go_upto_region 8 with fail
        have nr := Blk.new wr [.int .i64 (c : Int), .int .i64 xk, .int .i64 xt, .int .u32 xm, .int .u32 xa, .int .u32 xti, .int .u32 xcy] 83
        have y0 := nr.cell 0 rfl
        have hP8 := hB.out.same ((Kept.refl _ wr).alloc (.cells #[.int .i64 (c : Int), .int .i64 xk, .int .i64 xt, .int .u32 xm, .int .u32 xa, .int .u32 xti, .int .u32 xcy] 83))
        have hsz8 : (wr.alloc (.cells #[.int .i64 (c : Int), .int .i64 xk, .int .i64 xt, .int .u32 xm, .int .u32 xa, .int .u32 xti, .int .u32 xcy] 83)).heap.size = wr.heap.size + 1 := World.size_alloc _ _
        obtain ⟨w8, hw8⟩ : ∃ w8, wr.alloc (.cells #[.int .i64 (c : Int), .int .i64 xk, .int .i64 xt, .int .u32 xm, .int .u32 xa, .int .u32 xti, .int .u32 xcy] 83) = w8 := ⟨_, rfl⟩
        rw [hw8] at y0 hP8 hsz8 ⊢
        clear hw8 nr e0 e1 e2 e3 e4 e5 e6 hta hq
        obtain ⟨⟨v, l⟩, hSc⟩ : ∃ y, S[c]? = some y := ⟨_, List.getElem?_eq_getElem (by have := hP8.lens.1; dsimp only at this; omega)⟩
        have hll := hS.out c v l hSc
        obtain ⟨g1, g2, _, _, g3⟩ := hP8.ctr (o := none) hSc (by simp [hcn])
        have n3 := hP8.blk.cell 3 rfl
        have n2 := hP8.blk.cell 2 rfl
        have hc0 : (0 : Int) ≤ (c : Int) := by omega
        have hc1 : (c : Int) < (n : Int) := by omega
        obtain ⟨av, cv, rfl, _⟩ := row_any g3
        have hpl := hP8.pl
        obtain ⟨ap, cp, hvp, hcp⟩ := row_any hpl
        have hPk : (placesOf (T.alarms.take k)).length = k := by unfold placesOf; rw [List.length_map, List.length_range, List.length_take]; omega
        dsimp only at n3 n2 g1 g2 g3 hpl hvp
        rw [hPk] at hvp hpl
        subst hvp
        have HP8 := Lib.hid hP8
        have HPL := Lib.hid hpl
        have HG3 := Lib.hid g3
        have HSC := Lib.hid hSc
        have HLL := Lib.hid hll
        have HPK := Lib.hid hPk
        have hna' : T.alarms.length ≤ 64 := hna
        have hlk : l.length ≤ k := by rw [hll]; unfold alsOf; rw [List.length_map]; refine Nat.le_trans (List.length_filter_le _ _) ?_; rw [List.length_range, List.length_take]; omega
        have HSA := Lib.hid hS.out
        have HPN : Hid (placesOf (T.alarms.take (k + 1)) = placesOf (T.alarms.take k) ++ [(l.length : Int)]) := by unfold Hid; rw [placesOf_take hx', hll]
        clear hP8 hpl g3 hSc hll hPk hS hB hx'
        refine wp_region_noPanic ?_
        go_quiet (fail)
        refine NoPanic.normal ?_
        obtain ⟨w9, hw9⟩ : ∃ w9, w8.drewN nq = w9 := ⟨_, rfl⟩
        have k9 : Kept (fun _ => False) w8 w9 := by rw [← hw9]; exact (Kept.refl _ w8).drewN _
        have hP9 := HP8.out.same k9
        rw [hw9]
        have g1' : w9.cell? ⟨b + 1, c * 2 + 1, none⟩ = some (.slice av l.length cv) := by rw [← hw9]; exact g1
        have n2' : w9.cell? ⟨b, 2, none⟩ = some (.slice ap k cp) := by rw [← hw9]; exact n2
        have n2a : (w9.alloc (.cells #[.int .i64 (l.length : Int)] 3)).cell? ⟨b, 2, none⟩ = some (.slice ap k cp) := World.cell?_alloc_some w9 _ _ (by rw [n2']; rfl) |>.trans n2'
        have hpl9 : Row w9 3 1 (.slice ap k cp) k ((placesOf (T.alarms.take k)).map (Value.int .i64)) := row_kept HPL.out k9 (fun _ _ x => x)
        have HP9 := Lib.hid hP9
        have HPL9 := Lib.hid hpl9
        clear hw9 k9 hP9 hpl9 g1 n2 n3 hsz8 y0 HPL HP8
        go_upto_region 9 with fail
        go_cut [] from 47 to 60 (fun wx => ∃ vp, Hid (Pb w1 wx T n ⟨b, b + 1, R, A, vp, .slice none 0 0, placesOf (T.alarms.take (k + 1)), [], S, List.replicate n none⟩))
        case first =>
          refine wp_region_noPanic ?_
          go_region_law (refine step_append_any (by rfl) (.tmp 51) (.tmp 57) 40 (by rfl) 3 iI (.int .i64 0) 1 8 Try.underlying40 hiI hI0 hI1 hI2 (by rfl) (by decide) ap k cp ((placesOf (T.alarms.take k)).map (Value.int .i64)) (by simp [Act.eval]) (row_alloc HPL9.out _) (some ⟨w9.heap.size, 0, none⟩) 1 1 [.int .i64 (l.length : Int)] (by simp [Act.eval]) (shows_new _ _ _ (by simp) (by rfl)) (by simp [Value.oneCell']) (by unfold maxLen; omega) (by omega) ?_; intro ao5 c5 wq r1 r2 r3; have kc : Kept (fun g => (Value.slice ap k cp).ownBlock = some g) w9 wq := (((Kept.refl _ w9).alloc (.cells #[.int .i64 (l.length : Int)] 3)).drew).grown r2 (fun g e => Or.inl e); have hn1 := HP9.out.blk.kept kc (fun e => by have := HP9.out.apart .p .b _ e rfl; cases this); have k2 := hn1.frozen 2; have k3 := hn1.cell 2 rfl)
          all_goals
            refine NoPanic.normal ?_
            have r1' : Row wq 3 1 (.slice ao5 (k + 1) c5) (placesOf (T.alarms.take (k + 1))).length ((placesOf (T.alarms.take (k + 1))).map (Value.int .i64)) := by
              rw [HPN.out, List.map_append, List.length_append, HPK.out]; exact r1
            have happ := (HP9.out.appP (P := placesOf (T.alarms.take (k + 1))) kc r1' (fun g hg => (r3 g hg).imp id (fun h => by first | omega | (simp at h; omega)))).1
            have hfin := Lib.hid (fun (wf : World) (hf : Kept (fun _ => False) (wq.setCell ⟨b, 2, none⟩ (.slice ao5 (k + 1) c5)) wf) => happ.same hf)
            clear r1 r2 r3 r1' happ kc hn1
            go_wp2_with fail
            go_meet
            exact ⟨_, hfin.out _ (by exact (Kept.refl (fun _ => False) _).same rfl rfl rfl rfl)⟩
        case rest =>
          clear HP9 HPL9 g1' n2' n2a
          obtain ⟨vp, hB10⟩ := hcut
          obtain ⟨g1, g2, _, _, g3⟩ := hB10.out.ctr (c := c) (o := none) HSC.out (by simp [hcn])
          have HG3 := Lib.hid g3
          clear g3
          go_upto_region 10 with fail
          go_wp2_with (at_builtin; refine wpList_append_any rfl (.tmp 65) (.tmp 67) 40 rfl 3 iI (.int .i64 0) 1 8 Try.underlying40 hiI hI0 hI1 hI2 rfl (by decide) av l.length cv (l.map (Value.int .i64)) rfl (row_alloc HG3.out _) (some ⟨wc.heap.size, 0, none⟩) 1 1 [.int .i64 (k : Int)] rfl (shows_new _ _ _ (by simp) (by rfl)) (by simp [Value.oneCell']) (by unfold maxLen; omega) (by omega) ?_; intro ao6 c6 wq r1 r2 r3; have kc : Kept (fun g => (Value.slice av l.length cv).ownBlock = some g) wc wq := ((Kept.refl _ wc).alloc (.cells #[.int .i64 (k : Int)] 3)).grown r2 (fun g e => Or.inl e); have hne : ¬ (Value.slice av l.length cv).ownBlock = some (b + 1) := (fun e => by have := hB10.out.apart (.s c) .g (b + 1) ⟨_, _, HSC.out, e⟩ rfl; cases this); have k2 := row_frozen (row_kept hB10.out.ct kc (fun g hg e => hne (by simp [Value.ownBlock] at hg; rw [hg]; exact e))) (c * 2 + 1); have k3 := (kc.cell (p := ⟨b + 1, c * 2 + 1, none⟩) (hB10.out.low .g _ rfl).2 hne).trans g1)
          have hsc := HSC.out
          have r1' : Row wq 3 1 (.slice ao6 (l.length + 1) c6) (l ++ [(k : Int)]).length ((l ++ [(k : Int)]).map (Value.int .i64)) := by
            rw [List.map_append, List.length_append]; exact r1
          have hB11 := hB10.out.setS HSC.out kc r1' (fun g hg => (r3 g hg).imp id (fun h => by first | omega | (simp at h; omega)))
          have HB11 := Lib.hid hB11
          have HSN : Hid (∀ (d : Nat) (u : Value) (m : List Int), (S.set c (.slice ao6 (l.length + 1) c6, l ++ [(k : Int)]))[d]? = some (u, m) → m = alsOf (T.alarms.take (k + 1)) d) := by
            intro d u m hd
            rw [alsOf_take HX.out]
            by_cases hcd : c = d
            · subst hcd
              rw [List.getElem?_set_self (List.getElem?_eq_some_iff.1 hsc).1] at hd
              obtain ⟨_, h2⟩ := Prod.mk.inj (Option.some.inj hd)
              rw [← h2, if_pos rfl, ← HLL.out]
            · rw [List.getElem?_set_ne hcd] at hd
              rw [if_neg (fun e => hcd (by dsimp only at e; omega)), List.append_nil]
              exact HSA.out d u m hd
          clear r1 r2 r3 r1' hB11 kc hne k2 k3 hB10 g1 g2
          go_roundw
          case rel => exact ⟨k + 1, _, _, by omega, by go_num, HB11, HSN⟩
          case measure => simp [intOf]; omega
      · obtain rfl : k = T.alarms.length := by omega
        have hB2 := hB.out
        have hS2 := hS.out
        rw [List.take_length] at hB2 hS2
        have HB := Lib.hid hB2
        have HS := Lib.hid hS2
        clear hB hS hB2 hS2
        have n5 := (NB.out.kept HB.out.kept (fun x => x)).cell 5 rfl
        rw [HN.out] at n5
        go_upto_region 13 with fail
        clear hk hkl
        have HB' : Hid (Pb w1 wr T n ⟨b, b + 1, R, A, vp, .slice none 0 0, placesOf T.alarms, [], S, (List.replicate n none : List (Option ((Nat × Value) × Cs)))⟩) := HB
        go_loopw [75] (fun i wq => ∃ (k : Nat) (K : List (Option ((Nat × Value) × Cs))), k ≤ n ∧ i = .int .i64 k ∧ Hid (Pb w1 wq T n ⟨b, b + 1, R, A, vp, .slice none 0 0, placesOf T.alarms, [], S, K⟩) ∧ Hid (∃ Ks : List ((Nat × Value) × Cs), Ks.length = k ∧ K = Ks.map some ++ List.replicate (n - k) none ∧ ∀ (c : Nat) (kb : Nat × Value) (s : Cs) (r : Int × Int × Int), Ks[c]? = some (kb, s) → T.counters[c]? = some r → r.1 = (s.mx : Int) ∧ r.2.2 = (s.mn : Int) ∧ s.x = 0 ∧ s.l = List.replicate (alsOf T.alarms c).length (false, 0, 0))) (fun i _ => n - (intOf i).toNat)
        case atStart => exact ⟨0, _, Nat.zero_le _, rfl, HB, [], rfl, rfl, fun c kb s r h => by simp at h⟩
        case round =>
          clear HB HB' n5
          obtain ⟨k, K, hk, rfl, hB, hK⟩ := hrel
          by_cases hkl : k < n
          · obtain ⟨⟨mx, bs, mn⟩, hx, hmx⟩ := at_of (l := T.counters) (k := k) (by rw [HN.out]; exact hkl)
            have hcp := HP.out.2.2.2.1.2.1.1 _ hmx
            unfold CounterP at hcp
            have hbs := HW.out.counters _ hmx
            unfold U32 at hbs
            dsimp only at hcp hbs
            obtain ⟨mx, rfl⟩ := Int.eq_ofNat_of_zero_le (show 0 ≤ mx by omega)
            obtain ⟨bs, rfl⟩ := Int.eq_ofNat_of_zero_le (show 0 ≤ bs by omega)
            obtain ⟨mn, rfl⟩ := Int.eq_ofNat_of_zero_le (show 0 ≤ mn by omega)
            have hk0 : (0 : Int) ≤ (k : Int) := by omega
            have hk1 : (k : Int) < (n : Int) := by omega
            obtain ⟨q, off, hta, hq, hcl⟩ := camel_at (camel_same HT.out.counters hB.out.kept) hx
            have e0 := hcl 0 _ rfl
            have e1 := hcl 1 _ rfl
            have e2 := hcl 2 _ rfl
            simp only [Nat.add_zero] at e0
            have HX := Lib.hid hx
            obtain ⟨⟨v, l⟩, hSc⟩ : ∃ y, S[k]? = some y := ⟨_, List.getElem?_eq_getElem (by have := hB.out.lens.1; dsimp only at this; omega)⟩
            have hll := HS.out k v l hSc
            have hKc : K[k]? = some none := by
              obtain ⟨Ks, h1, h2, _⟩ := hK.out
              rw [h2, List.getElem?_append_right (by simp [h1]), List.length_map, h1, Nat.sub_self, List.getElem?_replicate, if_pos (by omega)]
            have hl64 : l.length ≤ 64 := by rw [hll]; unfold alsOf; rw [List.length_map]; refine Nat.le_trans (List.length_filter_le _ _) ?_; rw [List.length_range]; exact hna
            have hnew := fun (W : World) => Go.Proofs.Ytemhfonneggneaa.CK.new_ok "".toUTF8 mx bs mn l.length W (by omega) (by omega) (by omega) hl64
            have HNEW := Lib.hid hnew
            have HSC := Lib.hid hSc
            have HLL := Lib.hid hll
            have HKC := Lib.hid hKc
            have HBL : Hid (b + 1 < wr.heap.size) := (hB.out.low .g _ rfl).2
            clear hcl hx hmx hcp hbs hSc hll hKc hl64 hnew
            rw [hta]
            go_upto_region 15 with fail
            have nr := Blk.new wr [.int .u32 (mx : Int), .int .u32 (bs : Int), .int .u32 (mn : Int)] 77
            have hP8 := hB.out.same ((Kept.refl _ wr).alloc (.cells #[.int .u32 (mx : Int), .int .u32 (bs : Int), .int .u32 (mn : Int)] 77))
            have hsz8 : (wr.alloc (.cells #[.int .u32 (mx : Int), .int .u32 (bs : Int), .int .u32 (mn : Int)] 77)).heap.size = wr.heap.size + 1 := World.size_alloc _ _
            obtain ⟨w8, hw8⟩ : ∃ w8, wr.alloc (.cells #[.int .u32 (mx : Int), .int .u32 (bs : Int), .int .u32 (mn : Int)] 77) = w8 := ⟨_, rfl⟩
            rw [hw8] at hP8 hsz8 nr ⊢
            clear hw8 e0 e1 e2 hta hq hB
            obtain ⟨g1, g2, f0, ⟨u0, g0⟩, g3⟩ := hP8.ctr HSC.out HKC.out
            have y0 := nr.cell 0 rfl
            have y1 := nr.cell 1 rfl
            have y2 := nr.cell 2 rfl
            have n3 := hP8.blk.cell 3 rfl
            have g0' := nowAt_of g0
            obtain ⟨av, cv, rfl, _⟩ := row_any g3
            dsimp only at n3 g1 g2 f0 g0
            have HP8 := Lib.hid hP8
            have NR := Lib.hid nr
            have HSZ8 := Lib.hid hsz8
            clear g2 g3 hP8 nr hsz8
            refine wp_region_noPanic ?_
            go_region_held3 (fun w' => w'.cell? ⟨b, 3, none⟩ = some (.slice (some ⟨b + 1, 0, none⟩) n n) ∧ w'.cell? ⟨b + 1, k * 2 + 1, none⟩ = some (.slice av l.length cv) ∧ w'.cell? ⟨wr.heap.size, 0, none⟩ = some (.int .u32 (mx : Int)) ∧ w'.cell? ⟨wr.heap.size, 1, none⟩ = some (.int .u32 (bs : Int)) ∧ w'.cell? ⟨wr.heap.size, 2, none⟩ = some (.int .u32 (mn : Int)) ∧ w'.cell? ⟨b + 1, k * 2, none⟩ = some (nowAt w' ⟨b + 1, k * 2, none⟩) ∧ w'.frozen? ⟨b + 1, k * 2, none⟩ = false)
              (first
                | (simp [*]; done)
                | (have kk := ((Kept.refl (fun _ => False) w8).drewN _).then k9 (fun _ x => x.elim); have hh := HP8.out.same kk; have gg := hh.ctr HSC.out HKC.out; exact ⟨hh.blk.cell 3 rfl, gg.1, (NR.out.kept kk (fun x => x)).cell 0 rfl, (NR.out.kept kk (fun x => x)).cell 1 rfl, (NR.out.kept kk (fun x => x)).cell 2 rfl, nowAt_of ((kk.cell (p := ⟨b + 1, k * 2, none⟩) (HP8.out.low .g _ rfl).2 (fun x => x)).trans g0), gg.2.2.1⟩)
                | (exact ⟨n3, g1, y0, y1, y2, nowAt_of g0, f0⟩)
                | (have kk := ((Kept.refl (fun _ => False) w8).drewN _).then k9 (fun _ x => x.elim); have hh := HP8.out.setK (cs := ⟨mx, mn, 0, List.replicate l.length (false, 0, 0)⟩) (kb := (cb, vv)) HKC.out HSC.out kk hclk hfo; have gg := hh.ctr (o := some ((cb, vv), ⟨mx, mn, 0, List.replicate l.length (false, 0, 0)⟩)) HSC.out (List.getElem?_set_self (List.getElem?_eq_some_iff.1 HKC.out).1); have k10 := (Kept.refl (fun q => q = b + 1) w9).setCell (p := ⟨b + 1, k * 2, none⟩) (Or.inl rfl) (.pointer (some ⟨cb, 0, none⟩)); have nn := (NR.out.kept kk (fun x => x)).kept k10 (fun e => by have := HBL.out; omega); obtain ⟨u1, hu1⟩ := gg.2.2.2.1; exact ⟨hh.blk.cell 3 rfl, gg.1, nn.cell 0 rfl, nn.cell 1 rfl, nn.cell 2 rfl, nowAt_of hu1, gg.2.2.1⟩)
                | fail)
              (first
                | (go_at_call 28; refine (HNEW.out _).mono ?_; rintro e w9 ⟨cb, vv, rfl, hclk, hfo, k9⟩))
            refine NoPanic.normal ?_
            have kk := ((Kept.refl (fun _ => False) w8).drewN _).then k9 (fun _ x => x.elim)
            have hh := HP8.out.setK (cs := ⟨mx, mn, 0, List.replicate l.length (false, 0, 0)⟩) (kb := (cb, vv)) HKC.out HSC.out kk hclk hfo
            have HH := Lib.hid hh
            have HKN : Hid (∃ Ks : List ((Nat × Value) × Cs), Ks.length = k + 1 ∧ K.set k (some ((cb, vv), ⟨mx, mn, 0, List.replicate l.length (false, 0, 0)⟩)) = Ks.map some ++ List.replicate (n - (k + 1)) none ∧ ∀ (c : Nat) (kb : Nat × Value) (s : Cs) (r : Int × Int × Int), Ks[c]? = some (kb, s) → T.counters[c]? = some r → r.1 = (s.mx : Int) ∧ r.2.2 = (s.mn : Int) ∧ s.x = 0 ∧ s.l = List.replicate (alsOf T.alarms c).length (false, 0, 0)) := by
              obtain ⟨Ks, h1, h2, h3⟩ := hK.out
              refine ⟨Ks ++ [((cb, vv), ⟨mx, mn, 0, List.replicate l.length (false, 0, 0)⟩)], by simp [h1], ?_, fun c kb s r hc hr => ?_⟩
              · rw [h2, List.set_append_right _ _ (by simp [h1]), List.length_map, h1, Nat.sub_self, show n - k = (n - (k + 1)) + 1 by omega, List.replicate_succ, List.set_cons_zero, List.map_append]
                simp
              · by_cases hck : c < k
                · rw [List.getElem?_append_left (by omega)] at hc
                  exact h3 c kb s r hc hr
                · have hcl := (List.getElem?_eq_some_iff.1 hc).1
                  rw [List.length_append, List.length_singleton] at hcl
                  obtain rfl : c = k := by omega
                  rw [List.getElem?_append_right (by omega), h1, Nat.sub_self] at hc
                  obtain ⟨_, rfl⟩ := Prod.mk.inj (Option.some.inj hc)
                  rw [HX.out] at hr
                  obtain rfl := Option.some.inj hr
                  exact ⟨rfl, rfl, rfl, by rw [← HLL.out]⟩
            clear kk hh hclk hfo k9 hK HP8 NR HSZ8 HNEW g0 g0' g1 f0 y0 y1 y2 n3
            go_wp2_with fail
            go_roundw
            case rel => exact ⟨k + 1, _, by omega, by go_num, HH, HKN⟩
            case measure => simp [intOf]; omega
          · obtain rfl : k = n := by omega
            obtain ⟨Ks, hKl, hKe, hKn⟩ := hK.out
            rw [Nat.sub_self, List.replicate_zero, List.append_nil] at hKe
            subst hKe
            have HKN := Lib.hid hKn
            have HKL := Lib.hid hKl
            have n7 := (NB.out.kept hB.out.kept (fun x => x)).cell 7 rfl
            obtain ⟨iS, hiS, hS0, hS1, hS2⟩ := info_parts infoS
            have hi32 : T.isrs.length ≤ 32 := HP.out.1.2.2.2.2.2.2.1
            clear hK hKn hKl hk hkl
            go_upto_region 18 with fail
            go_loopw [111] (fun i wq => ∃ (j : Nat) (vi : Value), j ≤ T.isrs.length ∧ i = .int .i64 j ∧ Hid (Pb w1 wq T k ⟨b, b + 1, R, A, vp, vi, placesOf T.alarms, (T.isrs.take j).map (fun y : IsrR => (y.cat, y.pr)), S, Ks.map some⟩)) (fun i _ => T.isrs.length - (intOf i).toNat)
            case atStart => exact ⟨0, _, Nat.zero_le _, rfl, hB⟩
            case round =>
              clear hB n7
              obtain ⟨j, vi, hj, rfl, hB⟩ := hrel
              by_cases hjl : j < T.isrs.length
              · obtain ⟨⟨xc, xp, xoa, xoc, xown⟩, hx, _⟩ := at_of hjl
                have hj0 : (0 : Int) ≤ (j : Int) := by omega
                have hj1 : (j : Int) < (T.isrs.length : Int) := by omega
                obtain ⟨q, off, hta, hq, hcl⟩ := camel_at (camel_same HT.out.isrs hB.out.kept) hx
                have e0 := hcl 0 _ rfl
                have e1 := hcl 1 _ rfl
                have e2 := hcl 2 _ rfl
                simp only [Nat.add_zero] at e0
                have HX := Lib.hid hx
                clear hcl hx
                rw [hta]
                go_upto_region 20 with fail
                have nr := Blk.new wr [.int .i64 xc, .int .i64 xp, .slice xoa xown.length xoc] 93
                have y0 := nr.cell 0 rfl
                have y1 := nr.cell 1 rfl
                have hP8 := hB.out.same ((Kept.refl _ wr).alloc (.cells #[.int .i64 xc, .int .i64 xp, .slice xoa xown.length xoc] 93))
                obtain ⟨w8, hw8⟩ : ∃ w8, wr.alloc (.cells #[.int .i64 xc, .int .i64 xp, .slice xoa xown.length xoc] 93) = w8 := ⟨_, rfl⟩
                rw [hw8] at y0 y1 hP8 ⊢
                clear hw8 nr e0 e1 e2 hta hq hB
                have hil := hP8.is
                obtain ⟨ai, ci, hvi, hci⟩ := row_any hil
                have hIl : ((T.isrs.take j).map (fun y : IsrR => (y.cat, y.pr))).length = j := by rw [List.length_map, List.length_take]; omega
                dsimp only at hil hvi
                rw [hIl] at hvi hil
                subst hvi
                have n5 := hP8.blk.cell 5 rfl
                dsimp only at n5
                have n5a : (w8.alloc (.cells #[.int .i64 xc, .int .i64 xp] 95)).cell? ⟨b, 5, none⟩ = some (.slice ai j ci) := World.cell?_alloc_some w8 _ _ (by rw [n5]; rfl) |>.trans n5
                have HP8 := Lib.hid hP8
                have HIL := Lib.hid hil
                have HIN := Lib.hid hIl
                clear hP8 hil hIl
                refine wp_region_noPanic ?_
                go_region_law (refine step_append_any (by rfl) (.tmp 119) (.tmp 125) 65 (by rfl) 95 iS (.agg #[.int .i64 0, .int .i64 0]) 2 16 Try.underlying65 hiS hS0 hS1 hS2 (by rfl) (by decide) ai j ci (((T.isrs.take j).map (fun y : IsrR => (y.cat, y.pr))).flatMap (encKK .i64 .i64)) (by simp [Act.eval]) (row_alloc HIL.out _) (some ⟨w8.heap.size, 0, none⟩) 1 1 [.int .i64 xc, .int .i64 xp] (by simp [Act.eval]) (shows_new _ _ _ (by simp) (by rfl)) (by simp [Value.oneCell']) (by unfold maxLen; omega) (by omega) ?_; intro ao5 c5 wq r1 r2 r3; have kc : Kept (fun g => (Value.slice ai j ci).ownBlock = some g) w8 wq := (((Kept.refl _ w8).alloc (.cells #[.int .i64 xc, .int .i64 xp] 95)).drew).grown r2 (fun g e => Or.inl e); have hn1 := HP8.out.blk.kept kc (fun e => by have := HP8.out.apart .i .b _ e rfl; cases this); have k2 := hn1.frozen 5; have k3 := hn1.cell 5 rfl)
                all_goals
                  refine NoPanic.normal ?_
                  have hI : (T.isrs.take (j + 1)).map (fun y : IsrR => (y.cat, y.pr)) = (T.isrs.take j).map (fun y : IsrR => (y.cat, y.pr)) ++ [(xc, xp)] := by
                    rw [List.take_add_one, HX.out, Option.toList_some, List.map_append]; rfl
                  have r1' : Row wq 95 2 (.slice ao5 (j + 1) c5) ((T.isrs.take (j + 1)).map (fun y : IsrR => (y.cat, y.pr))).length (((T.isrs.take (j + 1)).map (fun y : IsrR => (y.cat, y.pr))).flatMap (encKK .i64 .i64)) := by
                    rw [hI, List.flatMap_append, List.length_append, HIN.out]; exact r1
                  have happ := (HP8.out.appI (I := (T.isrs.take (j + 1)).map (fun y : IsrR => (y.cat, y.pr))) kc r1' (fun g hg => (r3 g hg).imp id (fun h => by first | omega | (simp at h; omega)))).1
                  have hfin := Lib.hid (fun (wf : World) (hf : Kept (fun _ => False) (wq.setCell ⟨b, 5, none⟩ (.slice ao5 (j + 1) c5)) wf) => happ.same hf)
                  clear r1 r2 r3 r1' happ kc hn1 hI
                  go_wp2_with fail
                  go_roundw
                  case rel => exact ⟨j + 1, _, by omega, by go_num, hfin.out _ (by exact (Kept.refl (fun _ => False) _).same rfl rfl rfl rfl)⟩
                  case measure => simp [intOf]; omega
              · obtain rfl : j = T.isrs.length := by omega
                have hB2 := hB.out
                rw [List.take_length] at hB2
                have hn := HN.out
                subst hn
                obtain ⟨d1, d2⟩ := hB2.done (Ks := Ks) rfl rfl rfl HS.out (fun c kb s r h1 h2 => by have h := HKN.out c kb s r h1 h2; exact ⟨h.1, h.2.1, by rw [h.2.2.2, List.length_replicate]⟩)
                have hlt := K0.out.size
                have hfin : Hid (∃ b' M C, (Value.tuple #[.pointer (some ⟨b, 0, none⟩), .int .i64 0]) = .tuple #[.pointer (some ⟨b', 0, none⟩), .int .i64 0] ∧ IsBd wr b' M T C (List.replicate 32 false) ∧ (∀ q, bfoot b' M q → w.heap.size ≤ q) ∧ ∀ (c : Nat) (s : Cs), C[c]? = some s → s.x = 0 ∧ s.l = List.replicate (alsOf T.alarms c).length (false, 0, 0)) := by
                  refine ⟨b, _, _, rfl, d1, fun q hq => by have := d2 q hq; omega, fun c s hc => ?_⟩
                  rw [List.getElem?_map] at hc
                  cases hy : Ks[c]? with
                  | none => rw [hy] at hc; cases hc
                  | some y =>
                    rw [hy] at hc
                    cases hc
                    have hcl := (List.getElem?_eq_some_iff.1 hy).1
                    have hl := HKL.out
                    have h := HKN.out c y.1 y.2 _ hy (List.getElem?_eq_getElem (by omega))
                    exact ⟨h.2.2.1, h.2.2.2⟩
                have KF := Lib.hid (K0.out.then hB.out.kept (fun _ x => x.elim))
                clear d1 d2 hB hB2
                go_wp2_with fail
                go_ret2
                obtain ⟨b', M, C, f1, f2, f3, f4⟩ := hfin.out
                exact Or.inr ⟨HP.out, b', congrArg _ f1, M, C, f2, f3, KF.out, f4⟩
  · have HP := Lib.hid hP
    clear c0 c1 c2 c3 c4 c5 c6 c7 c8 c9 c10 c11 c12 hck HSY hP
    go_wp2_with fail
    go_ret2
    exact Or.inl ⟨HP.out, rfl, K0.out.then K2.out (fun _ x => x.elim)⟩
end Go.Proofs.Ytemhfonneggneaa.BD
