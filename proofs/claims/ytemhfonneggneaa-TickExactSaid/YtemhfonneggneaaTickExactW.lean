/- P21.7, the walk: NO TICK IS LOST. -/
import Derived.Test.YtemhfonneggneaaTkx
import Derived.Deep.CutBlock
namespace Go.Proofs.Ytemhfonneggneaa.tickExactW
open Go.RowKit Go.Fr Go.Tb Go.Proofs.Ytemhfonneggneaa.CK Go.Proofs.Ytemhfonneggneaa.BD

theorem u32_nat {a : Int} (h : (Lit.int .u32 a).wf = true) : ∃ n : Nat, a = n ∧ n ≤ 4294967295 := by
  have hx : 0 ≤ a ∧ a ≤ 4294967295 := by simpa [Lit.wf, IntKind.min, IntKind.max, IntKind.signed, IntKind.bits] using h
  exact ⟨a.toNat, by omega, by omega⟩
theorem fired_l0 : fired l0 0 = [] := by decide
theorem tick_l0 : l0.map tick1 = l0 := by decide
theorem tick_0 {w : World} {b : Nat} {M : Bm} {T : Tb} {m k : Nat} (h : B1 w b M T m (k % (m + 1)) l0 R0) : Calls Try.prog 9 #[.pointer (some ⟨b, 0, none⟩), .int .i64 0] w fun e w' =>
    ∃ ao cc, e = .returned (.tuple #[.slice ao 0 cc, .int .i64 0]) ∧ B1 w' b M T m ((k + 1) % (m + 1)) l0 R0 ∧ Kept (bfoot b M) w w' := by
  refine (b1_tick h rfl).mono ?_
  rintro e w' ⟨ao, cc, rfl, _, hb, k⟩
  rw [tick_l0, after_one] at hb
  exact ⟨ao, cc, rfl, hb, k⟩
theorem call_at {w w' : World} {l : List CallR} {ao : Option Addr} {k : Nat} {x : CallR} (hc : CameL w 7 encCall ao l) (hb : Below w.heap.size w w') (hx : l[k]? = some x) :
    ∃ (sb so : Nat), ao = some ⟨sb, so, none⟩ ∧ sb < w.heap.size ∧ w'.cell? ⟨sb, so + k * 7, none⟩ = some (.int .i64 x.kd) ∧ w'.cell? ⟨sb, so + k * 7 + 1, none⟩ = some (.int .i64 x.n) ∧ w'.cell? ⟨sb, so + k * 7 + 2, none⟩ = some (.int .u32 x.a) ∧ w'.cell? ⟨sb, so + k * 7 + 3, none⟩ = some (.int .u32 x.b) ∧
      w'.cell? ⟨sb, so + k * 7 + 4, none⟩ = some (.bool x.s) ∧ w'.cell? ⟨sb, so + k * 7 + 5, none⟩ = some (.int .i64 x.al) ∧ w'.cell? ⟨sb, so + k * 7 + 6, none⟩ = some (.int .i64 x.os) := by
  obtain ⟨sb, so, rfl, hsb, hcc⟩ := hc (by rintro rfl; simp at hx)
  have h0 : ∀ (j : Nat) (v : Value), (encCall x)[j]? = some v → w'.cell? ⟨sb, so + k * 7 + j, none⟩ = some v := fun j v hv => by
    rw [hb.cell (p := ⟨sb, so + k * 7 + j, none⟩) hsb]
    exact hcc k _ hx j v hv
  exact ⟨sb, so, rfl, hsb, h0 0 _ rfl, h0 1 _ rfl, h0 2 _ rfl, h0 3 _ rfl, h0 4 _ rfl, h0 5 _ rfl, h0 6 _ rfl⟩

set_option maxRecDepth 100000 in
set_option maxHeartbeats 4000000 in
/-- a counter that may not be -/
theorem bad (w : World) (m : Nat) (hm : m ≤ 4294967295) (v1 v2 v3 v4 v5 : Value) (hbad : m < 1 ∨ 2147483647 < m) :
    Calls Try.prog 3 #[.int .u32 m, v1, v2, v3, v4, v5] w fun e w' => e = .returned (.bool true) ∧ Below w.heap.size w w' := by
  by_cases t0 : m < 1
  · have d0 : decide ((m : Int) < 1) = true := by rw [decide_eq_true_eq]; omega
    go_enter Try.func3, Try.ntmps3
    go_wp2_with fail
    refine (heads_ok _).mono ?_
    rintro e w1 ⟨rfl, k1⟩
    go_wp2_with fail
    refine (one_raw (m : Int)).mono ?_
    rintro e w2 ⟨ta, ra, ca, aa, ia, rfl, hT, k2⟩
    have hnew := b1_new hm hT
    obtain ⟨Z, hZ⟩ : ∃ Z, (oneT (m : Int) ta ra ca aa ia).cells.toArray = Z := ⟨_, rfl⟩
    rw [hZ] at hnew ⊢
    clear hT hZ
    go_wp2_with fail
    refine hnew.mono ?_
    rintro e w3 (⟨_, rfl, k3⟩ | ⟨hc, _⟩)
    · clear hnew
      go_wp2_with fail
      go_ret
      exact ⟨rfl, ((k1.then k2 (fun _ x => x.elim)).then k3 (fun _ x => x.elim)).below (Nat.le_refl _) (fun _ h => h.elim)⟩
    · omega
  · have d0 : decide ((m : Int) < 1) = false := by rw [decide_eq_false_iff_not]; omega
    have d1 : decide ((2147483647 : Int) < (m : Int)) = true := by rw [decide_eq_true_eq]; omega
    go_enter Try.func3, Try.ntmps3
    go_wp2_with fail
    refine (heads_ok _).mono ?_
    rintro e w1 ⟨rfl, k1⟩
    go_wp2_with fail
    refine (one_raw (m : Int)).mono ?_
    rintro e w2 ⟨ta, ra, ca, aa, ia, rfl, hT, k2⟩
    have hnew := b1_new hm hT
    obtain ⟨Z, hZ⟩ : ∃ Z, (oneT (m : Int) ta ra ca aa ia).cells.toArray = Z := ⟨_, rfl⟩
    rw [hZ] at hnew ⊢
    clear hT hZ
    go_wp2_with fail
    refine hnew.mono ?_
    rintro e w3 (⟨_, rfl, k3⟩ | ⟨hc, _⟩)
    · clear hnew
      go_wp2_with fail
      go_ret
      exact ⟨rfl, ((k1.then k2 (fun _ x => x.elim)).then k3 (fun _ x => x.elim)).below (Nat.le_refl _) (fun _ h => h.elim)⟩
    · omega

/-- the law's board and what lies below it -/
structure Rn (w wr : World) (b : Nat) (M : Bm) (T : Tb) (m t due cy : Nat) : Prop where
  bx : Bx wr b M T m t due cy
  below : Below w.heap.size w wr

set_option maxRecDepth 100000 in
set_option maxHeartbeats 40000000 in
theorem walk (w : World) (m0 : Int) (wm0 : (Lit.int .u32 m0).wf = true) (ahead : Int) (wah : (Lit.int .i64 ahead).wf = true) (d0 : Int) (wd0 : (Lit.int .u32 d0).wf = true) (c0 : Int) (wc0 : (Lit.int .u32 c0).wf = true) (byv : Bool)
    (a5 : Option Addr) (cap5 : Nat) (l5 : List CallR) (hl5 : l5.length ≤ cap5) (hm5 : cap5 ≤ maxLen) (hc5 : CameL w 7 encCall a5 l5) (hw5 : ∀ x ∈ l5, x.wf) :
    Calls Try.prog 3 #[.int .u32 m0, .int .i64 ahead, .int .u32 d0, .int .u32 c0, .bool byv, .slice a5 l5.length cap5] w fun e w' => e = .returned (.bool true) ∧ Below w.heap.size w w' := by
  obtain ⟨m, rfl, hm⟩ := u32_nat wm0
  obtain ⟨d, rfl, hd⟩ := u32_nat wd0
  obtain ⟨cy, rfl, hcy⟩ := u32_nat wc0
  unfold maxLen at hm5
  clear wm0 wd0 wc0 wah
  have HC := Lib.hid hc5
  have HW := Lib.hid hw5
  clear hc5 hw5
  by_cases hbad : m < 1 ∨ 2147483647 < m
  · exact bad w m hm _ _ _ _ _ hbad
  have h1 : 1 ≤ m ∧ m ≤ 2147483647 := by omega
  have t0 : decide ((m : Int) < 1) = false := by rw [decide_eq_false_iff_not]; omega
  have t1 : decide ((2147483647 : Int) < (m : Int)) = false := by rw [decide_eq_false_iff_not]; omega
  clear hbad
  go_enter Try.func3, Try.ntmps3
  go_wp2_with fail
  refine (heads_ok _).mono ?_
  rintro e w1 ⟨rfl, k1⟩
  go_wp2_with fail
  refine (one_raw (m : Int)).mono ?_
  rintro e w2 ⟨ta, ra, ca, aa, ia, rfl, hT, k2⟩
  have hnew := b1_new hm hT
  obtain ⟨T, hTe⟩ : ∃ T, oneT (m : Int) ta ra ca aa ia = T := ⟨_, rfl⟩
  rw [hTe] at hnew ⊢
  obtain ⟨Z, hZ⟩ : ∃ Z, T.cells.toArray = Z := ⟨_, rfl⟩
  rw [hZ] at hnew ⊢
  have K2 := Lib.hid (k1.then k2 (fun _ x => x.elim))
  clear hT hZ hTe k1 k2 t0 t1
  go_wp2_with fail
  refine hnew.mono ?_
  rintro e w3 (⟨hc, _⟩ | ⟨_, b, M, rfl, hb, hf, k3⟩)
  · omega
  have K3 := Lib.hid (K2.out.then k3 (fun _ x => x.elim))
  have HF : Hid (∀ q, bfoot b M q → w.heap.size ≤ q) := fun q hq => Nat.le_trans K2.out.size (hf q hq)
  have HB := Lib.hid hb
  clear hnew K2 hf hb k3
  obtain ⟨nn, hnn, hnl⟩ : ∃ nn : Nat, wrap64 ((IntKind.u64.wrap ahead).tmod 50) = nn ∧ nn < 50 := by
    have h0 : 0 ≤ IntKind.u64.wrap ahead := by rw [IntKind.wrap_u64]; omega
    rw [Int.tmod_eq_emod_of_nonneg h0]
    refine ⟨(IntKind.u64.wrap ahead % 50).toNat, ?_, by omega⟩
    rw [IntWalk.wrap64_in _ (by omega)]
    omega
  have HNN := Lib.hid hnn
  clear hnn
  go_upto_region 10 with fail
  simp only [HNN.out]
  clear HNN
  have C1 : Hid (B1 w3 b M T m (0 % (m + 1)) l0 R0 ∧ Kept (bfoot b M) w3 w3) := ⟨by rw [Nat.zero_mod]; exact HB.out, Kept.refl _ _⟩
  clear HB
  go_wp2_with fail
  go_loopw [18] (fun i wr => ∃ k : Nat, k ≤ nn ∧ i = .int .i64 k ∧ Hid (B1 wr b M T m (k % (m + 1)) l0 R0 ∧ Kept (bfoot b M) w3 wr)) (fun i _ => nn - (intOf i).toNat)
  case atStart => exact ⟨0, Nat.zero_le _, rfl, C1⟩
  case round =>
    clear C1
    obtain ⟨k, hk, rfl, hR⟩ := hrel
    by_cases hlt : k < nn
    · have htk := tick_0 hR.out.1
      go_wp2_with fail
      refine htk.mono ?_
      rintro e w4 ⟨ao, c, rfl, c2, k2⟩
      have R2 : Hid (B1 w4 b M T m ((k + 1) % (m + 1)) l0 R0 ∧ Kept (bfoot b M) w3 w4) := ⟨c2, hR.out.2.then k2 (fun _ h => Or.inl h)⟩
      clear c2 k2 htk
      go_wp2
      go_roundw
      case rel => exact ⟨k + 1, by omega, by go_num, R2⟩
      case measure => simp [intOf]; omega
    · obtain rfl : k = nn := by omega
      obtain ⟨now, hnow⟩ : ∃ now, k % (m + 1) = now := ⟨_, rfl⟩
      have hnm : now ≤ m := by have := Nat.mod_lt k (show 0 < m + 1 by omega); omega
      have en : (k : Int) % ((m : Int) + 1) = (now : Int) := by rw [← hnow]; push_cast; rfl
      rw [hnow] at hR
      clear hnow
      have hB := Lib.hid hR.out.1
      have hK : Hid (Kept (fun _ => False) w wr) := K3.out.then hR.out.2 (fun q hq => Or.inr (HF.out q hq))
      clear hR K3
      go_upto_if 80 with fail
      go_cut [20] (fun q wx => ∃ due : Nat, q = .int .u64 due ∧ 1 ≤ due ∧ due ≤ 2147483648 ∧ cy ≤ m ∧ Hid (Rn w wx b M T m 0 due cy))
      case first =>
       as_aux_lemma =>
        cases byv with
        | true =>
          have hab := b1_abs (i := 0) (t := d) (cy := cy) (by omega) hB.out hd
          rw [put_l0] at hab
          by_cases c1 : d ≤ m
          · by_cases c2 : cy ≤ m
            · have hF : (decide (d ≤ m) && cycB 1 m cy) = true := by
                unfold cycB
                by_cases h0 : cy = 0 <;> simp [c1, c2, h0]
                omega
              have dv : decide ((m : Int) < (d : Int)) = false := by rw [decide_eq_false_iff_not]; omega
              have dc : decide ((m : Int) < (cy : Int)) = false := by rw [decide_eq_false_iff_not]; omega
              rw [hF] at hab
              simp only [if_true] at hab
              obtain ⟨q, hq⟩ : ∃ q, d + m - now = q := ⟨_, rfl⟩
              obtain ⟨r, hr⟩ : ∃ r, q % (m + 1) = r := ⟨_, rfl⟩
              have eq1 : (d : Int) + (m : Int) - (now : Int) = (q : Int) := by omega
              have eq2 : (q : Int) % ((m : Int) + 1) = (r : Int) := by rw [← hr]; push_cast; rfl
              have hrm : r ≤ m := by have := Nat.mod_lt q (show 0 < m + 1 by omega); omega
              rw [until_law hnm c1 hq hr] at hab
              clear hq hr
              go_wp2_with fail
              refine hab.mono ?_
              rintro e w4 ⟨rfl, hb4, k4⟩
              have KK : Hid (Kept (fun _ => False) w w4) := hK.out.then k4 (fun q hq => Or.inr (HF.out q hq))
              have HB4 := Lib.hid hb4
              clear hb4 k4 hab
              go_wp2_with fail
              go_meet
              exact ⟨r + 1, by push_cast; rfl, by omega, by omega, c2, ⟨⟨_, _, _, HB4.out⟩, KK.out.below (Nat.le_refl _) (fun _ h => h.elim)⟩⟩
            · have dv : decide ((m : Int) < (d : Int)) = false := by rw [decide_eq_false_iff_not]; omega
              have dc : decide ((m : Int) < (cy : Int)) = true := by rw [decide_eq_true_eq]; omega
              have hF : (decide (d ≤ m) && cycB 1 m cy) = false := by
                unfold cycB
                have h0 : cy ≠ 0 := by omega
                simp [c2, h0]
              rw [hF] at hab
              simp only [Bool.false_eq_true, if_false] at hab
              go_wp2_with fail
              refine hab.mono ?_
              rintro e w4 ⟨rfl, hb4, k4⟩
              go_wp2_with fail
              go_ret
              exact ⟨rfl, (hK.out.then k4 (fun q hq => Or.inr (HF.out q hq))).below (Nat.le_refl _) (fun _ h => h.elim)⟩
          · have dv : decide ((m : Int) < (d : Int)) = true := by rw [decide_eq_true_eq]; omega
            have hF : (decide (d ≤ m) && cycB 1 m cy) = false := by simp [c1]
            rw [hF] at hab
            simp only [Bool.false_eq_true, if_false] at hab
            go_wp2_with fail
            refine hab.mono ?_
            rintro e w4 ⟨rfl, hb4, k4⟩
            go_wp2_with fail
            go_ret
            exact ⟨rfl, (hK.out.then k4 (fun q hq => Or.inr (HF.out q hq))).below (Nat.le_refl _) (fun _ h => h.elim)⟩
        | false =>
          have hab := b1_rel (i := 0) (t := d) (cy := cy) (by omega) hB.out hd
          rw [put_l0] at hab
          by_cases c0 : 1 ≤ d
          · have d0 : decide ((d : Int) < 1) = false := by rw [decide_eq_false_iff_not]; omega
            by_cases c1 : d ≤ m
            · by_cases c2 : cy ≤ m
              · have hF : (decide (1 ≤ d) && decide (d ≤ m) && cycB 1 m cy) = true := by
                  unfold cycB
                  by_cases h0 : cy = 0 <;> simp [c0, c1, c2, h0]
                  omega
                have dv : decide ((m : Int) < (d : Int)) = false := by rw [decide_eq_false_iff_not]; omega
                have dc : decide ((m : Int) < (cy : Int)) = false := by rw [decide_eq_false_iff_not]; omega
                rw [hF] at hab
                simp only [if_true] at hab
                go_wp2_with fail
                refine hab.mono ?_
                rintro e w4 ⟨rfl, hb4, k4⟩
                have KK : Hid (Kept (fun _ => False) w w4) := hK.out.then k4 (fun q hq => Or.inr (HF.out q hq))
                have hal : BD.al 0 d cy = (true, d, cy) := by
                  unfold BD.al
                  rw [if_neg (by omega), Nat.sub_zero]
                rw [← hal] at hb4
                have HB4 := Lib.hid hb4
                clear hb4 k4 hab
                go_wp2_with fail
                go_meet
                exact ⟨d, rfl, c0, by omega, c2, ⟨⟨_, _, _, HB4.out⟩, KK.out.below (Nat.le_refl _) (fun _ h => h.elim)⟩⟩
              · have dv : decide ((m : Int) < (d : Int)) = false := by rw [decide_eq_false_iff_not]; omega
                have dc : decide ((m : Int) < (cy : Int)) = true := by rw [decide_eq_true_eq]; omega
                have hF : (decide (1 ≤ d) && decide (d ≤ m) && cycB 1 m cy) = false := by
                  unfold cycB
                  have h0 : cy ≠ 0 := by omega
                  simp [c2, h0]
                rw [hF] at hab
                simp only [Bool.false_eq_true, if_false] at hab
                go_wp2_with fail
                refine hab.mono ?_
                rintro e w4 ⟨rfl, hb4, k4⟩
                go_wp2_with fail
                go_ret
                exact ⟨rfl, (hK.out.then k4 (fun q hq => Or.inr (HF.out q hq))).below (Nat.le_refl _) (fun _ h => h.elim)⟩
            · have dv : decide ((m : Int) < (d : Int)) = true := by rw [decide_eq_true_eq]; omega
              have hF : (decide (1 ≤ d) && decide (d ≤ m) && cycB 1 m cy) = false := by simp [c1]
              rw [hF] at hab
              simp only [Bool.false_eq_true, if_false] at hab
              go_wp2_with fail
              refine hab.mono ?_
              rintro e w4 ⟨rfl, hb4, k4⟩
              go_wp2_with fail
              go_ret
              exact ⟨rfl, (hK.out.then k4 (fun q hq => Or.inr (HF.out q hq))).below (Nat.le_refl _) (fun _ h => h.elim)⟩
          · have d0 : decide ((d : Int) < 1) = true := by rw [decide_eq_true_eq]; omega
            have hF : (decide (1 ≤ d) && decide (d ≤ m) && cycB 1 m cy) = false := by simp [c0]
            rw [hF] at hab
            simp only [Bool.false_eq_true, if_false] at hab
            go_wp2_with fail
            refine hab.mono ?_
            rintro e w4 ⟨rfl, hb4, k4⟩
            go_wp2_with fail
            go_ret
            exact ⟨rfl, (hK.out.then k4 (fun q hq => Or.inr (HF.out q hq))).below (Nat.le_refl _) (fun _ h => h.elim)⟩
      case rest =>
        obtain ⟨due, rfl, hdu1, hdu2, hcm, hR⟩ := hcut
        clear hB hK hnm en hd
        have hd1 : due = 0 ∨ (0 < due ∧ due - 0 ≤ 2147483648) := by omega
        go_wp2_with fail
        go_loopw [20, 23, 24] (fun du ti i wr => ∃ (k t due : Nat), k ≤ l5.length ∧ i = .int .i64 k ∧ ti = .int .u64 t ∧ t ≤ k ∧ du = .int .u64 due ∧ (due = 0 ∨ (t < due ∧ due - t ≤ 2147483648)) ∧ Hid (Rn w wr b M T m t due cy)) (fun _ _ i _ => l5.length - (intOf i).toNat)
        case atStart => exact ⟨0, 0, due, Nat.zero_le _, rfl, rfl, Nat.le_refl _, rfl, hd1, hR⟩
        case round =>
          clear hR hd1 hdu1 hdu2
          obtain ⟨k, t, due, hk, rfl, rfl, htk, rfl, hdt, hR⟩ := hrel
          by_cases hkl : k < l5.length
          · obtain ⟨x, hx, hxm⟩ := at_of hkl
            obtain ⟨sb, so, rfl, hsb, q0, q1, q2, q3, q4, q5, q6⟩ := call_at HC.out hR.out.below hx
            obtain ⟨_, _, wa, wb, _, _⟩ := HW.out x hxm
            obtain ⟨xk, xn, xa, xb, xs, xal, xos⟩ := x
            dsimp only at q0 q1 q2 q3 q4 q5 q6 wa wb
            obtain ⟨u, rfl, hu⟩ := u32_nat wa
            obtain ⟨v, rfl, hv⟩ := u32_nat wb
            have hk0 : (0 : Int) ≤ (k : Int) := by omega
            have hk1 : (k : Int) < (l5.length : Int) := by omega
            clear wa wb hx hxm
            go_upto_block 4 with fail
            obtain ⟨xx, hxx⟩ : ∃ xx, wr.heap.size = xx := ⟨_, rfl⟩
            have kx := (Kept.refl (fun _ => False) wr).alloc (.cells #[.int .i64 xk, .int .i64 xn, .int .u32 u, .int .u32 v, .bool xs, .int .i64 xal, .int .i64 xos] 48)
            have BX : Hid (Blk (wr.alloc (.cells #[.int .i64 xk, .int .i64 xn, .int .u32 u, .int .u32 v, .bool xs, .int .i64 xal, .int .i64 xos] 48)) xx [.int .i64 xk, .int .i64 xn, .int .u32 u, .int .u32 v, .bool xs, .int .i64 xal, .int .i64 xos] 48) := by rw [← hxx]; exact Blk.new wr [.int .i64 xk, .int .i64 xn, .int .u32 u, .int .u32 v, .bool xs, .int .i64 xal, .int .i64 xos] _
            have RX : Hid (Rn w (wr.alloc (.cells #[.int .i64 xk, .int .i64 xn, .int .u32 u, .int .u32 v, .bool xs, .int .i64 xal, .int .i64 xos] 48)) b M T m t due cy) := ⟨hR.out.bx.same kx, hR.out.below.trans (kx.below hR.out.below.size (fun _ h => h.elim))⟩
            simp only [hxx]
            obtain ⟨wx, hwx⟩ : ∃ wx, wr.alloc (.cells #[.int .i64 xk, .int .i64 xn, .int .u32 u, .int .u32 v, .bool xs, .int .i64 xal, .int .i64 xos] 48) = wx := ⟨_, rfl⟩
            rw [hwx] at RX BX ⊢
            clear hwx hxx hR q0 q1 q2 q3 q4 q5 q6 hsb hk0 hk1 kx
            go_cut [20, 23] (fun du ti wz => ∃ (t' due' : Nat), ti = .int .u64 t' ∧ t' ≤ k + 1 ∧ du = .int .u64 due' ∧ (due' = 0 ∨ (t' < due' ∧ due' - t' ≤ 2147483648)) ∧ Hid (Rn w wz b M T m t' due' cy))
            case first =>
              have y1 := BX.out.cell 1 rfl
              have y2 := BX.out.cell 2 rfl
              have y3 := BX.out.cell 3 rfl
              by_cases j1 : xk = 1
              · subst j1
                as_aux_lemma =>
                have hc := x_tick RX.out.bx (hdt.imp id And.left)
                go_wp2_with fail
                refine hc.mono ?_
                rintro e w5 ⟨ao, n, cc, rfl, hn, hb5, k5⟩
                have HR5 : Hid (Rn w w5 b M T m (t + 1) (dueN t due cy) cy) := ⟨hb5, RX.out.below.trans (k5.below RX.out.below.size (fun q hq => HF.out q hq))⟩
                have DN := Lib.hid (due_next (m := m) (cy := cy) hdt (by omega))
                clear hc RX BX y1 y2 y3 hb5 k5
                obtain ⟨dn, hdn⟩ : ∃ dn, dueN t due cy = dn := ⟨_, rfl⟩
                rw [hdn] at HR5 DN
                rcases hn with ⟨rfl, hw⟩ | ⟨g, z, rfl, hn, hz, hw⟩
                · by_cases z0 : due = 0
                  · subst z0
                    have hdz : dn = 0 := by rw [← hdn]; unfold dueN; rw [if_neg (by omega)]
                    subst hdz
                    clear hdn hdt
                    go_wp2_with fail
                    go_meet
                    exact ⟨t + 1, 0, by push_cast; rfl, by omega, rfl, Or.inl rfl, HR5⟩
                  · have z1 : due ≠ t + 1 := fun h => by simp [wantB, h] at hw
                    have hdz : dn = due := by rw [← hdn]; unfold dueN; rw [if_neg z1]
                    subst hdz
                    have e1 : ((dn : Int) == 0) = false := by rw [beq_eq_false_iff_ne]; omega
                    have e2 : (((t : Int) + 1) == (dn : Int)) = false := by rw [beq_eq_false_iff_ne]; omega
                    clear hdn hdt
                    go_wp2_with fail
                    go_meet
                    exact ⟨t + 1, dn, by push_cast; rfl, by omega, rfl, DN.out, HR5⟩
                · have hn0 : decide ((0 : Int) < (n : Int)) = true := by rw [decide_eq_true_eq]; omega
                  have hn1 : (0 : Int) < (n : Int) := by omega
                  cases hwt : wantB t due with
                  | false =>
                    rw [hwt] at hw
                    by_cases z0 : due = 0
                    · subst z0
                      have hdz : dn = 0 := by rw [← hdn]; unfold dueN; rw [if_neg (by omega)]
                      subst hdz
                      clear hdn hdt
                      go_wp2_with fail
                      go_meet
                      exact ⟨t + 1, 0, by push_cast; rfl, by omega, rfl, Or.inl rfl, HR5⟩
                    · have z1 : due ≠ t + 1 := fun h => by simp [wantB, h] at hwt
                      have hdz : dn = due := by rw [← hdn]; unfold dueN; rw [if_neg z1]
                      subst hdz
                      have e1 : ((dn : Int) == 0) = false := by rw [beq_eq_false_iff_ne]; omega
                      have e2 : (((t : Int) + 1) == (dn : Int)) = false := by rw [beq_eq_false_iff_ne]; omega
                      clear hdn hdt
                      go_wp2_with fail
                      go_meet
                      exact ⟨t + 1, dn, by push_cast; rfl, by omega, rfl, DN.out, HR5⟩
                  | true =>
                    rw [hwt] at hw
                    have hdu : due = t + 1 := by simp [wantB] at hwt; exact hwt.2
                    subst hdu
                    have e1 : (((t : Int) + 1) == 0) = false := by rw [beq_eq_false_iff_ne]; omega
                    by_cases z0 : cy = 0
                    · have hdz : dn = 0 := by rw [← hdn]; unfold dueN; rw [if_pos rfl, if_pos z0]
                      subst hdz
                      have e4 : decide (0 < cy) = false := by rw [decide_eq_false_iff_not]; omega
                      have e3 : decide ((0 : Int) < (cy : Int)) = false := by rw [decide_eq_false_iff_not]; omega
                      clear hdn hdt hwt z0
                      go_wp2_with fail
                      go_meet
                      exact ⟨t + 1, 0, by push_cast; rfl, by omega, rfl, Or.inl rfl, HR5⟩
                    · have hdz : dn = t + 1 + cy := by rw [← hdn]; unfold dueN; rw [if_pos rfl, if_neg z0]
                      subst hdz
                      have e4 : decide (0 < cy) = true := by rw [decide_eq_true_eq]; omega
                      have e3 : decide ((0 : Int) < (cy : Int)) = true := by rw [decide_eq_true_eq]; omega
                      clear hdn hdt hwt
                      go_wp2_with fail
                      go_meet
                      exact ⟨t + 1, t + 1 + cy, by push_cast; rfl, by omega, by push_cast; rfl, DN.out, HR5⟩
              have n1 : (xk == 1) = false := by rw [beq_eq_false_iff_ne]; exact j1
              by_cases j4 : xk = 4
              · subst j4
                as_aux_lemma =>
                clear n1
                have hc := x_rel (u := u) (c := v) RX.out.bx hu
                go_wp2_with fail
                refine hc.mono ?_
                rintro e w5 ⟨r5, rfl, hb5, k5⟩
                have HR5 : Hid (Rn w w5 b M T m t due cy) := ⟨hb5, RX.out.below.trans (k5.below RX.out.below.size (fun q hq => HF.out q hq))⟩
                have DN := Lib.hid hdt
                clear hc RX BX y1 y2 y3 hb5 k5 hdt
                go_wp2_with fail
                go_meet
                exact ⟨t, due, rfl, by omega, rfl, DN.out, HR5⟩
              have n4 : (xk == 4) = false := by rw [beq_eq_false_iff_ne]; exact j4
              by_cases j5 : xk = 5
              · subst j5
                as_aux_lemma =>
                clear n1 n4
                have hc := x_abs (u := u) (c := v) RX.out.bx hu
                go_wp2_with fail
                refine hc.mono ?_
                rintro e w5 ⟨r5, rfl, hb5, k5⟩
                have HR5 : Hid (Rn w w5 b M T m t due cy) := ⟨hb5, RX.out.below.trans (k5.below RX.out.below.size (fun q hq => HF.out q hq))⟩
                have DN := Lib.hid hdt
                clear hc RX BX y1 y2 y3 hb5 k5 hdt
                go_wp2_with fail
                go_meet
                exact ⟨t, due, rfl, by omega, rfl, DN.out, HR5⟩
              have n5 : (xk == 5) = false := by rw [beq_eq_false_iff_ne]; exact j5
              by_cases j6 : xk = 6
              · subst j6
                as_aux_lemma =>
                clear n1 n4 n5
                have hc := x_cancel RX.out.bx
                go_wp2_with fail
                refine hc.mono ?_
                rintro e w5 ⟨r5, rfl, hb5, k5⟩
                have HR5 : Hid (Rn w w5 b M T m t due cy) := ⟨hb5, RX.out.below.trans (k5.below RX.out.below.size (fun q hq => HF.out q hq))⟩
                have DN := Lib.hid hdt
                clear hc RX BX y1 y2 y3 hb5 k5 hdt
                go_wp2_with fail
                go_meet
                exact ⟨t, due, rfl, by omega, rfl, DN.out, HR5⟩
              have n6 : (xk == 6) = false := by rw [beq_eq_false_iff_ne]; exact j6
              by_cases j8 : xk = 8
              · subst j8
                as_aux_lemma =>
                clear n1 n4 n5 n6
                have hc := x_request (i := xn) RX.out.bx
                go_wp2_with fail
                refine hc.mono ?_
                rintro e w5 ⟨r5, rfl, hb5, k5⟩
                have HR5 : Hid (Rn w w5 b M T m t due cy) := ⟨hb5, RX.out.below.trans (k5.below RX.out.below.size (fun q hq => HF.out q hq))⟩
                have DN := Lib.hid hdt
                clear hc RX BX y1 y2 y3 hb5 k5 hdt
                go_wp2_with fail
                go_meet
                exact ⟨t, due, rfl, by omega, rfl, DN.out, HR5⟩
              have n8 : (xk == 8) = false := by rw [beq_eq_false_iff_ne]; exact j8
              by_cases j10 : xk = 10
              · subst j10
                as_aux_lemma =>
                clear n1 n4 n5 n6 n8
                have hc := x_serve (i := xn) RX.out.bx
                go_wp2_with fail
                refine hc.mono ?_
                rintro e w5 ⟨r5, rfl, hb5, k5⟩
                have HR5 : Hid (Rn w w5 b M T m t due cy) := ⟨hb5, RX.out.below.trans (k5.below RX.out.below.size (fun q hq => HF.out q hq))⟩
                have DN := Lib.hid hdt
                clear hc RX BX y1 y2 y3 hb5 k5 hdt
                go_wp2_with fail
                go_meet
                exact ⟨t, due, rfl, by omega, rfl, DN.out, HR5⟩
              have n10 : (xk == 10) = false := by rw [beq_eq_false_iff_ne]; exact j10
              have DN := Lib.hid hdt
              clear hdt BX y1 y2 y3
              go_wp2_with fail
              go_meet
              exact ⟨t, due, rfl, by omega, rfl, DN.out, RX⟩
            case rest =>
             as_aux_lemma =>
              clear RX BX hdt htk hu hv
              obtain ⟨t', due', rfl, htk, rfl, hdt, hR⟩ := hcut
              have hl := x_left hR.out.bx hdt
              by_cases z0 : due' = 0
              · subst z0
                rw [if_pos rfl] at hl
                go_wp2_with fail
                refine hl.mono ?_
                rintro e w5 ⟨rfl, k5⟩
                have HR : Hid (Rn w w5 b M T m t' 0 cy) := ⟨hR.out.bx.same k5, hR.out.below.trans (k5.below hR.out.below.size (fun _ h => h.elim))⟩
                clear hl hR k5
                go_wp2_with fail
                go_roundw
                case rel => exact ⟨k + 1, t', 0, by omega, by go_num, rfl, htk, rfl, Or.inl rfl, HR⟩
                case measure => simp [intOf]; omega
              · rw [if_neg z0] at hl
                have e1 : ((due' : Int) == 0) = false := by rw [beq_eq_false_iff_ne]; omega
                have e2 : (BD.al t' due' cy).2.1 = due' - t' := by unfold BD.al; rw [if_neg z0]
                obtain ⟨df, hdf⟩ : ∃ df, due' - t' = df := ⟨_, rfl⟩
                have e3 : (due' : Int) - (t' : Int) = (df : Int) := by omega
                rw [e2, hdf] at hl
                go_wp2_with fail
                refine hl.mono ?_
                rintro e w5 ⟨rfl, k5⟩
                have HR : Hid (Rn w w5 b M T m t' due' cy) := ⟨hR.out.bx.same k5, hR.out.below.trans (k5.below hR.out.below.size (fun _ h => h.elim))⟩
                have hdf1 : df ≤ 2147483648 := by omega
                clear hl hR k5 e2 hdf
                go_wp2_with fail
                go_roundw
                case rel => exact ⟨k + 1, t', due', by omega, by go_num, rfl, htk, rfl, hdt, HR⟩
                case measure => simp [intOf]; omega
          · obtain rfl : k = l5.length := by omega
            go_wp2_with fail
            go_ret
            exact ⟨rfl, hR.out.below⟩
end Go.Proofs.Ytemhfonneggneaa.tickExactW
