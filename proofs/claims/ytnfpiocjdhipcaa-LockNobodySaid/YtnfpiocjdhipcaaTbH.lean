/- Package table: clocks. -/
import Derived.Test.YtnfpiocjdhipcaaTbD
namespace Go.Proofs.Ytnfpiocjdhipcaa.TC
open Go.RowKit Go.Fr Go.Tb
attribute [local go_sem] Oper.semAt_some

def CounterP (x : Int × Int × Int) : Prop := (1 ≤ x.1 ∧ x.1 ≤ 2147483647) ∧ (1 ≤ x.2.1 ∧ x.2.1 ≤ 2147483647) ∧ (1 ≤ x.2.2 ∧ x.2.2 ≤ 2147483647) ∧ x.2.2 ≤ x.1
def RightP (c : Int × Int × Int) (time cycle : Int) : Prop := 1 ≤ time ∧ time ≤ c.1 ∧ (cycle = 0 ∨ (c.2.2 ≤ cycle ∧ cycle ≤ c.1))
def AlarmP (T : Tb) (x : AlarmR) : Prop := (0 ≤ x.counter ∧ x.counter < T.counters.length) ∧ ActP T x.kind x.task x.mask 1 3 ∧ x.auto / 2 ^ T.modes.toNat = 0 ∧
  ∃ c, T.counters[x.counter.toNat]? = some c ∧ ((x.auto = 0 ∧ x.time = 0 ∧ x.cycle = 0) ∨ (x.auto ≠ 0 ∧ RightP c x.time x.cycle))
def ClocksP (T : Tb) : Prop := (∀ x ∈ T.counters, CounterP x) ∧ ∀ x ∈ T.alarms, AlarmP T x

set_option maxRecDepth 100000 in
set_option maxHeartbeats 8000000 in
theorem clocks_ok {w : World} {T : Tb} (hT : TabIn w T) (hW : T.Wf) (hm : 1 ≤ T.modes ∧ T.modes ≤ 8) :
    Calls Try.prog 62 #[.agg T.cells.toArray] w fun e w' => BoolIs e (ClocksP T) ∧ Kept (fun _ => False) w w' := by
  have k0 : Kept (fun _ => False) w (box w T) := (Kept.refl _ w).alloc _
  have nb : Blk (box w T) w.heap.size T.cells 30 := Blk.new w T.cells 30
  have hT1 := hT.same k0
  obtain ⟨w1, hw1⟩ : ∃ w1, box w T = w1 := ⟨_, rfl⟩
  obtain ⟨B, hB⟩ : ∃ B, w.heap.size = B := ⟨_, rfl⟩
  rw [hw1] at k0 nb hT1
  rw [hB] at nb
  have HT := Lib.hid hT1
  have HW := Lib.hid hW
  have NB := Lib.hid nb
  have K0 := Lib.hid k0
  have hle := hW.lens.2.2.2.1
  have hle2 := hW.lens.2.2.2.2.1
  clear hT hT1 hW nb k0
  have hs : T.cells.toArray.size = 13 := rfl
  have hn0 : (T.cells.toArray = #[]) = False := by simp [Tb.cells]
  unfold box at hw1
  generalize T.cells.toArray = Z at hw1 hs hn0 ⊢
  go_enter Try.func62, Try.ntmps62
  go_upto_region 1 with fail
  clear hs hn0 hw1 hB
  have c5 := NB.out.cell 5 rfl
  go_wp2_with fail
  clear c5
  have K1 : Hid (Kept (fun _ => False) w1 w1) := Kept.refl _ _
  go_loopw [13] (fun i wr => ∃ k : Nat, k ≤ T.counters.length ∧ i = .int .i64 k ∧ Hid (Kept (fun _ => False) w1 wr) ∧ Hid (∀ x ∈ T.counters.take k, CounterP x)) (fun i _ => T.counters.length - (intOf i).toNat)
  case atStart => exact ⟨0, Nat.zero_le _, rfl, K1, by simp [Hid]⟩
  case round =>
    clear K1
    obtain ⟨k, hk, rfl, hK, hP⟩ := hrel
    by_cases hkl : k < T.counters.length
    · obtain ⟨⟨mx, bs, mn⟩, hx, hmx⟩ := at_of hkl
      have hk0 : (0 : Int) ≤ (k : Int) := by omega
      have hk1 : (k : Int) < (T.counters.length : Int) := by omega
      obtain ⟨b, off, hta, hb, hcl⟩ := camel_at (camel_same HT.out.counters hK.out) hx
      have e0 := hcl 0 _ rfl
      have e1 := hcl 1 _ rfl
      have e2 := hcl 2 _ rfl
      simp only [Nat.add_zero] at e0
      have HX := Lib.hid hx
      have HMX := Lib.hid hmx
      clear hcl hx hmx
      rw [hta]
      go_upto_region 4 with fail
      have nr := Blk.new wr [.int .u32 mx, .int .u32 bs, .int .u32 mn] 135
      have k2 : Kept (fun _ => False) w1 (wr.alloc (.cells #[.int .u32 mx, .int .u32 bs, .int .u32 mn] 135)) := hK.out.alloc _
      have y0 := nr.cell 0 rfl
      have y1 := nr.cell 1 rfl
      have y2 := nr.cell 2 rfl
      obtain ⟨w2, hw2⟩ : ∃ w2, wr.alloc (.cells #[.int .u32 mx, .int .u32 bs, .int .u32 mn] 135) = w2 := ⟨_, rfl⟩
      rw [hw2] at k2 y0 y1 y2 ⊢
      have K2 := Lib.hid k2
      have NXT : Hid (∀ (h : CounterP (mx, bs, mn)), ∀ x ∈ T.counters.take (k + 1), CounterP x) := by
        intro h x hx
        rw [List.take_add_one, HX.out] at hx
        rcases List.mem_append.1 hx with hx | hx
        · exact hP.out x hx
        · simp only [Option.toList_some, List.mem_singleton] at hx
          subst hx
          exact h
      clear hw2 k2 hP e0 e1 e2 hta
      go_cut [39] (fun t wx => wx = w2 ∧ ∃ bad : Bool, t = .bool bad ∧ Hid (bad = false ↔ CounterP (mx, bs, mn)))
      case first =>
        go_wp2_with (go_at_call 89; refine (tick_dec _ _).mono ?_; rintro e w3 ⟨rfl, rfl⟩)
        all_goals
          go_meet
          refine ⟨rfl, _, rfl, ?_⟩
          unfold Hid CounterP
          go_light
          grind
      case rest =>
        obtain ⟨rfl, bad, rfl, hbad⟩ := hcut
        cases bad with
        | true =>
          have hb := hbad.out
          have HB : Hid (¬ CounterP (mx, bs, mn)) := fun h => by cases hb.2 h
          clear hb hbad
          go_wp2_with fail
          go_ret
          exact ⟨bool_no fun h => HB.out (h.1 _ HMX.out), K0.out.then K2.out (fun _ x => x.elim)⟩
        | false =>
          have HA : Hid (CounterP (mx, bs, mn)) := hbad.out.1 rfl
          clear hbad
          go_wp2_with fail
          go_roundw
          case rel => exact ⟨k + 1, by omega, by go_num, K2, NXT.out HA.out⟩
          case measure => simp [intOf]; omega
    · obtain rfl : k = T.counters.length := by omega
      have hPC := hP.out
      rw [List.take_length] at hPC
      have HPC := Lib.hid hPC
      have c6 := (NB.out.kept hK.out (fun x => x)).cell 6 rfl
      clear hP hPC
      go_wp2_with fail
      clear c6
      go_loopw [44] (fun i wr => ∃ k : Nat, k ≤ T.alarms.length ∧ i = .int .i64 k ∧ Hid (Kept (fun _ => False) w1 wr) ∧ Hid (∀ x ∈ T.alarms.take k, AlarmP T x)) (fun i _ => T.alarms.length - (intOf i).toNat)
      case atStart => exact ⟨0, Nat.zero_le _, rfl, hK, by simp [Hid]⟩
      case round =>
        clear hK
        obtain ⟨k, hk, rfl, hK, hP⟩ := hrel
        by_cases hkl : k < T.alarms.length
        · obtain ⟨x, hx, hmx⟩ := at_of hkl
          obtain ⟨xc, xk, xt, xm, xa, xi, xy⟩ := x
          have hk0 : (0 : Int) ≤ (k : Int) := by omega
          have hk1 : (k : Int) < (T.alarms.length : Int) := by omega
          obtain ⟨b, off, hta, hb, hcl⟩ := camel_at (camel_same HT.out.alarms hK.out) hx
          have e0 := hcl 0 _ rfl
          have e1 := hcl 1 _ rfl
          have e2 := hcl 2 _ rfl
          have e3 := hcl 3 _ rfl
          have e4 := hcl 4 _ rfl
          have e5 := hcl 5 _ rfl
          have e6 := hcl 6 _ rfl
          simp only [Nat.add_zero] at e0
          dsimp only at e0 e1 e2 e3 e4 e5 e6
          have HX := Lib.hid hx
          have HMX := Lib.hid hmx
          clear hcl hx hmx
          rw [hta]
          go_upto_region 10 with fail
          have nr := Blk.new wr [.int .i64 xc, .int .i64 xk, .int .i64 xt, .int .u32 xm, .int .u32 xa, .int .u32 xi, .int .u32 xy] 141
          have k2 : Kept (fun _ => False) w1 (wr.alloc (.cells #[.int .i64 xc, .int .i64 xk, .int .i64 xt, .int .u32 xm, .int .u32 xa, .int .u32 xi, .int .u32 xy] 141)) := hK.out.alloc _
          obtain ⟨w2, hw2⟩ : ∃ w2, wr.alloc (.cells #[.int .i64 xc, .int .i64 xk, .int .i64 xt, .int .u32 xm, .int .u32 xa, .int .u32 xi, .int .u32 xy] 141) = w2 := ⟨_, rfl⟩
          obtain ⟨M, hM⟩ : ∃ M, wr.heap.size = M := ⟨_, rfl⟩
          have nr' : Blk w2 M [.int .i64 xc, .int .i64 xk, .int .i64 xt, .int .u32 xm, .int .u32 xa, .int .u32 xi, .int .u32 xy] 141 := by rw [← hw2, ← hM]; exact nr
          rw [hw2] at k2 ⊢
          try rw [hM]
          have NR := Lib.hid nr'
          have K2 := Lib.hid k2
          have NXT : Hid (∀ (h : AlarmP T ⟨xc, xk, xt, xm, xa, xi, xy⟩), ∀ x ∈ T.alarms.take (k + 1), AlarmP T x) := by
            intro h x hx
            rw [List.take_add_one, HX.out] at hx
            rcases List.mem_append.1 hx with hx | hx
            · exact hP.out x hx
            · simp only [Option.toList_some, List.mem_singleton] at hx
              subst hx
              exact h
          clear nr nr' hw2 hM k2 hP e0 e1 e2 e3 e4 e5 e6 hta
          have y0 := NR.out.cell 0 rfl
          have y1 := NR.out.cell 1 rfl
          have y2 := NR.out.cell 2 rfl
          have y3 := NR.out.cell 3 rfl
          have y4 := NR.out.cell 4 rfl
          have nb3 := NB.out.kept K2.out (fun x => x)
          have c0 := nb3.cell 0 rfl
          have c1 := nb3.cell 1 rfl
          have c2 := nb3.cell 2 rfl
          have c3 := nb3.cell 3 rfl
          have c4 := nb3.cell 4 rfl
          have c5 := nb3.cell 5 rfl
          have c6 := nb3.cell 6 rfl
          have c7 := nb3.cell 7 rfl
          have c8 := nb3.cell 8 rfl
          have c9 := nb3.cell 9 rfl
          have c10 := nb3.cell 10 rfl
          have c11 := nb3.cell 11 rfl
          have c12 := nb3.cell 12 rfl
          have hact := action_ok xk xt xm 1 3 (HT.out.same K2.out) HW.out
          have HACT := Lib.hid hact
          have hm0 : (0 : Int) ≤ T.modes := by omega
          have hm1 : ¬ T.modes < 0 := by omega
          clear hact nb3
          go_cut [73] (fun t wx => Hid (Kept (fun _ => False) w2 wx) ∧ ∃ bad : Bool, t = .bool bad ∧ Hid (bad = false ↔ ((0 ≤ xc ∧ xc < T.counters.length) ∧ ActP T xk xt xm 1 3 ∧ xa / 2 ^ T.modes.toNat = 0)))
          case first =>
            have KR : Hid (Kept (fun _ => False) w2 w2) := Kept.refl _ _
            go_wp2_with (go_at_call 90; refine HACT.out.mono ?_; rintro e w4 ⟨⟨b4, rfl, hb4⟩, k4⟩; have HB4 := Lib.hid hb4; have K4 := Lib.hid k4; have y4 := (NR.out.kept k4 (fun x => x)).cell 4 rfl; have c1 := ((NB.out.kept K2.out (fun x => x)).kept k4 (fun x => x)).cell 1 rfl; clear hb4 k4; cases b4)
            all_goals
              go_meet
              first
                | (have h4 := HB4.out
                   clear HB4
                   refine ⟨K4, _, rfl, ?_⟩
                   unfold Hid
                   go_light
                   grind)
                | (refine ⟨KR, _, rfl, ?_⟩
                   unfold Hid
                   go_light
                   grind)
          case rest =>
            obtain ⟨hk4, bad, rfl, hbad⟩ := hcut
            have K4 := Lib.hid (K2.out.then hk4.out (fun _ x => x.elim))
            have NR4 := Lib.hid (NR.out.kept hk4.out (fun x => x))
            clear y0 y1 y2 y3 y4 c0 c1 c2 c3 c4 c5 c6 c7 c8 c9 c10 c11 c12 HACT
            cases bad with
            | true =>
              have hb := hbad.out
              have HB : Hid (¬ AlarmP T ⟨xc, xk, xt, xm, xa, xi, xy⟩) := fun h => by
                have := hb.2 ⟨h.1, h.2.1, h.2.2.1⟩
                cases this
              clear hb hbad
              go_wp2_with fail
              go_ret
              exact ⟨bool_no fun h => HB.out (h.2 _ HMX.out), K0.out.then K4.out (fun _ x => x.elim)⟩
            | false =>
              have hA := hbad.out.1 rfl
              have HA := Lib.hid hA
              obtain ⟨n, rfl⟩ := Int.eq_ofNat_of_zero_le (a := xc) hA.1.1
              have hn1 : (n : Int) < (T.counters.length : Int) := hA.1.2
              have hn0 : (0 : Int) ≤ (n : Int) := by omega
              obtain ⟨⟨mx, bs, mn⟩, hc, _⟩ := at_of (l := T.counters) (k := n) (by omega)
              obtain ⟨b3, off3, hca, hb3, hcl3⟩ := camel_at (camel_same HT.out.counters K4.out) hc
              have f0 := hcl3 0 _ rfl
              have f1 := hcl3 1 _ rfl
              have f2 := hcl3 2 _ rfl
              simp only [Nat.add_zero] at f0
              have c5 := (NB.out.kept K4.out (fun x => x)).cell 5 rfl
              rw [hca] at c5
              have y0 := NR4.out.cell 0 rfl
              have HC := Lib.hid hc
              have AP : Hid (AlarmP T ⟨(n : Int), xk, xt, xm, xa, xi, xy⟩ ↔ ((xa = 0 ∧ xi = 0 ∧ xy = 0) ∨ (xa ≠ 0 ∧ RightP (mx, bs, mn) xi xy))) := by
                unfold Hid AlarmP
                dsimp only
                rw [show ((n : Nat) : Int).toNat = n from Int.toNat_natCast n, HC.out]
                constructor
                · rintro ⟨_, _, _, c, h1, h2⟩
                  cases h1; exact h2
                · exact fun h => ⟨HA.out.1, HA.out.2.1, HA.out.2.2, _, rfl, h⟩
              clear hbad hA hcl3 hc hca
              go_upto_region 13 with fail
              have k5 : Kept (fun _ => False) w1 (wc.alloc (.cells #[.int .u32 mx, .int .u32 bs, .int .u32 mn] 135)) := K4.out.alloc _
              have nc := Blk.new wc [.int .u32 mx, .int .u32 bs, .int .u32 mn] 135
              have n5 := NR4.out.alloc (.cells #[.int .u32 mx, .int .u32 bs, .int .u32 mn] 135)
              obtain ⟨w5, hw5⟩ : ∃ w5, wc.alloc (.cells #[.int .u32 mx, .int .u32 bs, .int .u32 mn] 135) = w5 := ⟨_, rfl⟩
              obtain ⟨M5, hM5⟩ : ∃ M, wc.heap.size = M := ⟨_, rfl⟩
              rw [hw5] at k5 nc n5 ⊢
              rw [hM5] at nc
              try rw [hM5]
              have K5 := Lib.hid k5
              clear hw5 hM5 k5 f0 f1 f2 c5 y0
              have y4 := n5.cell 4 rfl
              have y5 := n5.cell 5 rfl
              have y6 := n5.cell 6 rfl
              have z0 := nc.cell 0 rfl
              have z2 := nc.cell 2 rfl
              clear nc n5
              go_cut [8] (fun t wx => wx = w5 ∧ ∃ b : Bool, t = .bool b ∧ Hid (b = true ↔ (xi = 0 ∧ xy = 0)))
              case first =>
                go_wp2_with fail
                all_goals
                  go_meet
                  refine ⟨rfl, _, rfl, ?_⟩
                  unfold Hid
                  go_light
                  grind
              case rest =>
                obtain ⟨hwc, bn, rfl, hbn⟩ := hcut
                obtain rfl : w5 = wc := hwc.symm
                go_upto_region 14 with fail
                go_cut [9] (fun t wx => wx = w5 ∧ ∃ b : Bool, t = .bool b ∧ Hid (b = true ↔ RightP (mx, bs, mn) xi xy))
                case first =>
                  go_wp2_with fail
                  all_goals
                    go_meet
                    refine ⟨rfl, _, rfl, ?_⟩
                    unfold Hid RightP
                    go_light
                    grind
                case rest =>
                  obtain ⟨hwc, br, rfl, hbr⟩ := hcut
                  obtain rfl : w5 = wc := hwc.symm
                  have hN : (bn = true ↔ (xi = 0 ∧ xy = 0)) := hbn.out
                  have hR : (br = true ↔ RightP (mx, bs, mn) xi xy) := hbr.out
                  have HFIN : Hid ((AlarmP T ⟨(n : Int), xk, xt, xm, xa, xi, xy⟩) ↔ ((xa = 0 ∧ bn = true) ∨ (xa ≠ 0 ∧ br = true))) := by
                    unfold Hid
                    rw [AP.out, hN, hR]
                  clear hN hR hbn hbr
                  cases bn <;> cases br <;> by_cases ha : xa = 0
                  all_goals
                    first
                      | (have d0 : (xa == 0) = true := by simpa using ha
                         have d1 : (xa != 0) = false := by simpa using ha
                         have HF := Lib.hid ha
                         clear ha
                         go_wp2_with fail
                         first
                           | (go_ret
                              exact ⟨bool_no fun h => by have := HFIN.out.1 (h.2 _ HMX.out); have := HF.out; simp_all, K0.out.then K5.out (fun _ x => x.elim)⟩)
                           | (go_roundw
                              case rel => exact ⟨k + 1, by omega, by go_num, K5, NXT.out (HFIN.out.2 (by have := HF.out; simp_all))⟩
                              case measure => simp [intOf]; omega))
                      | (have d0 : (xa == 0) = false := by simpa using ha
                         have d1 : (xa != 0) = true := by simpa using ha
                         have HF := Lib.hid ha
                         clear ha
                         go_wp2_with fail
                         first
                           | (go_ret
                              exact ⟨bool_no fun h => by have := HFIN.out.1 (h.2 _ HMX.out); have := HF.out; simp_all, K0.out.then K5.out (fun _ x => x.elim)⟩)
                           | (go_roundw
                              case rel => exact ⟨k + 1, by omega, by go_num, K5, NXT.out (HFIN.out.2 (by have := HF.out; simp_all))⟩
                              case measure => simp [intOf]; omega))
        · obtain rfl : k = T.alarms.length := by omega
          have hPA := hP.out
          rw [List.take_length] at hPA
          have HPA := Lib.hid hPA
          clear hP hPA
          go_wp2_with fail
          go_ret
          exact ⟨bool_yes ⟨HPC.out, HPA.out⟩, K0.out.then hK.out (fun _ x => x.elim)⟩
end Go.Proofs.Ytnfpiocjdhipcaa.TC
