/- Package table: Check. -/
import Derived.Test.YtnfpiocjdhipcaaTbG
import Derived.Test.YtnfpiocjdhipcaaTbH
import Derived.Test.YtnfpiocjdhipcaaTbI
import Derived.Test.YtnfpiocjdhipcaaTbJ
import Derived.Test.YtnfpiocjdhipcaaTbL
namespace Go.Proofs.Ytnfpiocjdhipcaa.TC
open Go.RowKit Go.Fr Go.Tb
attribute [local go_sem] Oper.semAt_some

def FewP (T : Tb) : Prop := (0 ≤ T.uses ∧ T.uses ≤ 255) ∧ (1 ≤ T.modes ∧ T.modes ≤ 8) ∧ (1 ≤ T.tasks.length ∧ T.tasks.length ≤ 256) ∧ T.ress.length ≤ 65 ∧ T.counters.length ≤ 16 ∧ T.alarms.length ≤ 64 ∧ T.isrs.length ≤ 32 ∧ T.msgs.length ≤ 64
def CeilsP (T : Tb) : Prop := ∀ x ∈ T.ress, -1 ≤ x.2 ∧ x.2 ≤ 127
def PriosP (T : Tb) : Prop := ∀ x ∈ T.tasks, 0 ≤ x.pr ∧ x.pr ≤ 63
def RowsP (T : Tb) : Prop := TasksP T ∧ ClocksP T ∧ IsrsP T ∧ MsgsP T
def RoomP (T : Tb) : Prop := T.depth = T.rings.length ∧ T.frames = (T.isrs.length : Int) + 4 ∧ RoomIs T T.errs T.backs
/-- the tables may be -/
def CheckP (T : Tb) : Prop := FewP T ∧ CeilsP T ∧ PriosP T ∧ RowsP T ∧ RoomP T

theorem tab_cells {w : World} {B : Nat} {T : Tb} {t : TypeId} (h : Blk w B T.cells t) : w.cell? ⟨B, 0, none⟩ = some (.int .i64 T.uses) ∧ w.cell? ⟨B, 1, none⟩ = some (.int .i64 T.modes) ∧ w.cell? ⟨B, 2, none⟩ = some (.slice T.ta T.tasks.length T.tc) ∧ w.cell? ⟨B, 3, none⟩ = some (.slice T.ra T.rings.length T.rc) ∧
    w.cell? ⟨B, 4, none⟩ = some (.slice T.ea T.ress.length T.ec) ∧ w.cell? ⟨B, 5, none⟩ = some (.slice T.ca T.counters.length T.cc) ∧ w.cell? ⟨B, 6, none⟩ = some (.slice T.aa T.alarms.length T.ac) ∧ w.cell? ⟨B, 7, none⟩ = some (.slice T.ia T.isrs.length T.ic) ∧ w.cell? ⟨B, 8, none⟩ = some (.slice T.ma T.msgs.length T.mc) ∧
    w.cell? ⟨B, 9, none⟩ = some (.int .i64 T.depth) ∧ w.cell? ⟨B, 10, none⟩ = some (.int .i64 T.frames) ∧ w.cell? ⟨B, 11, none⟩ = some (.int .i64 T.errs) ∧ w.cell? ⟨B, 12, none⟩ = some (.int .i64 T.backs) :=
  ⟨h.cell 0 rfl, h.cell 1 rfl, h.cell 2 rfl, h.cell 3 rfl, h.cell 4 rfl, h.cell 5 rfl, h.cell 6 rfl, h.cell 7 rfl, h.cell 8 rfl, h.cell 9 rfl, h.cell 10 rfl, h.cell 11 rfl, h.cell 12 rfl⟩

/-- an answer is 0 where P holds, else 90 -/
def Says (e : Ending) (P : Prop) : Prop := (e = .returned (.int .i64 0) ∧ P) ∨ (e = .returned (.int .i64 90) ∧ ¬ P)

set_option maxRecDepth 100000 in
set_option maxHeartbeats 8000000 in
theorem check_ok {w : World} {T : Tb} (hT : TabIn w T) (hW : T.Wf) (hic : T.isrs.length ≤ T.ic) :
    Calls Try.prog 21 #[.agg T.cells.toArray] w fun e w' => Says e (CheckP T) ∧ Kept (fun _ => False) w w' := by
  have k0 : Kept (fun _ => False) w (box w T) := (Kept.refl _ w).alloc _
  have nb : Blk (box w T) w.heap.size T.cells 30 := Blk.new w T.cells 30
  have hT1 := hT.same k0
  obtain ⟨w1, hw1⟩ : ∃ w1, box w T = w1 := ⟨_, rfl⟩
  obtain ⟨B, hB⟩ : ∃ B, w.heap.size = B := ⟨_, rfl⟩
  rw [hw1] at k0 nb hT1
  rw [hB] at nb
  have HT := Lib.hid hT1
  have HW := Lib.hid hW
  have NB := Lib.hid nb
  have K0 := Lib.hid k0
  have HIC := Lib.hid hic
  have hle := hW.lens
  clear hT hT1 hW nb k0 hic
  have hs : T.cells.toArray.size = 13 := rfl
  have hn0 : (T.cells.toArray = #[]) = False := by simp [Tb.cells]
  unfold box at hw1
  generalize T.cells.toArray = Z at hw1 hs hn0 ⊢
  go_enter Try.func21, Try.ntmps21
  go_upto_region 1 with fail
  clear hs hn0 hw1 hB
  obtain ⟨c0, c1, c2, c3, c4, c5, c6, c7, c8, c9, c10, c11, c12⟩ := tab_cells NB.out
  go_cut [3] (fun t wx => wx = w1 ∧ ∃ few : Bool, t = .bool few ∧ Hid (few = true ↔ FewP T))
  case first =>
    as_aux_lemma =>
      go_wp2_with fail
      all_goals
        go_meet
        refine ⟨rfl, _, rfl, ?_⟩
        unfold Hid FewP
        clear hle
        go_light
        grind
  case rest =>
    obtain ⟨hwc, few, rfl, hfew⟩ := hcut
    obtain rfl : w1 = wc := hwc.symm
    cases few with
    | false =>
      have hb := hfew.out
      have HB : Hid (¬ FewP T) := fun h => by cases hb.2 h
      clear hb hfew
      go_wp2_with fail
      go_ret
      exact ⟨Or.inr ⟨rfl, fun h => HB.out h.1⟩, K0.out⟩
    | true =>
      have hF := hfew.out.1 rfl
      have HF := Lib.hid hF
      have hle3 : T.ress.length ≤ 65 := hF.2.2.2.1
      clear hfew hF hle
      go_wp2_with fail
      clear c0 c1 c2 c3 c4 c5 c6 c7 c8 c9 c10 c11 c12
      have K1 : Hid (Kept (fun _ => False) w1 w1) := Kept.refl _ _
      go_loopw [77] (fun i wr => ∃ k : Nat, k ≤ T.ress.length ∧ i = .int .i64 k ∧ Hid (Kept (fun _ => False) w1 wr) ∧ Hid (∀ x ∈ T.ress.take k, -1 ≤ x.2 ∧ x.2 ≤ 127)) (fun i _ => T.ress.length - (intOf i).toNat)
      case atStart => exact ⟨0, Nat.zero_le _, rfl, K1, by simp [Hid]⟩
      case round =>
        clear K1
        obtain ⟨k, hk, rfl, hK, hP⟩ := hrel
        by_cases hkl : k < T.ress.length
        · obtain ⟨⟨xe, xc⟩, hx, hmx⟩ := at_of hkl
          have hk0 : (0 : Int) ≤ (k : Int) := by omega
          have hk1 : (k : Int) < (T.ress.length : Int) := by omega
          obtain ⟨b, off, hta, hb, hcl⟩ := camel_at (camel_same HT.out.ress hK.out) hx
          have e0 := hcl 0 _ rfl
          have e1 := hcl 1 _ rfl
          simp only [Nat.add_zero] at e0
          have HX := Lib.hid hx
          have HMX := Lib.hid hmx
          clear hcl hx hmx
          rw [hta]
          go_upto_region 7 with fail
          have nr := Blk.new wr [.bool xe, .int .i64 xc] 50
          have k2 : Kept (fun _ => False) w1 (wr.alloc (.cells #[.bool xe, .int .i64 xc] 50)) := hK.out.alloc _
          have y1 := nr.cell 1 rfl
          obtain ⟨w2, hw2⟩ : ∃ w2, wr.alloc (.cells #[.bool xe, .int .i64 xc] 50) = w2 := ⟨_, rfl⟩
          rw [hw2] at k2 y1 ⊢
          have K2 := Lib.hid k2
          clear hw2 k2 nr e0 e1 hta
          by_cases hc : -1 ≤ xc ∧ xc ≤ 127
          · have d0 : decide (xc < -1) = false := by simp; omega
            have d1 : decide (127 < xc) = false := by simp; omega
            have HN : Hid (∀ x ∈ T.ress.take (k + 1), -1 ≤ x.2 ∧ x.2 ≤ 127) := by
              intro x hx
              rw [List.take_add_one, HX.out] at hx
              rcases List.mem_append.1 hx with hx | hx
              · exact hP.out x hx
              · simp only [Option.toList_some, List.mem_singleton] at hx
                subst hx
                exact hc
            clear hc hP
            go_wp2_with fail
            go_roundw
            case rel => exact ⟨k + 1, by omega, by go_num, K2, HN⟩
            case measure => simp [intOf]; omega
          · have HC := Lib.hid hc
            by_cases h0 : xc < -1
            · have d0 : decide (xc < -1) = true := by simpa using h0
              clear hc h0
              go_wp2_with fail
              go_ret
              exact ⟨Or.inr ⟨rfl, fun h => HC.out (h.2.1 _ HMX.out)⟩, K0.out.then K2.out (fun _ x => x.elim)⟩
            · have d0 : decide (xc < -1) = false := by simpa using h0
              have d1 : decide (127 < xc) = true := by simp; omega
              clear hc h0
              go_wp2_with fail
              go_ret
              exact ⟨Or.inr ⟨rfl, fun h => HC.out (h.2.1 _ HMX.out)⟩, K0.out.then K2.out (fun _ x => x.elim)⟩
        · obtain rfl : k = T.ress.length := by omega
          have hPC := hP.out
          rw [List.take_length] at hPC
          have HCE : Hid (CeilsP T) := hPC
          have c2 := (NB.out.kept hK.out (fun x => x)).cell 2 rfl
          clear hP hPC
          go_wp2_with fail
          clear c2
          have hle1 : T.tasks.length ≤ 256 := HF.out.2.2.1.2
          go_loopw [93] (fun i wr => ∃ k : Nat, k ≤ T.tasks.length ∧ i = .int .i64 k ∧ Hid (Kept (fun _ => False) w1 wr) ∧ Hid (∀ x ∈ T.tasks.take k, 0 ≤ x.pr ∧ x.pr ≤ 63)) (fun i _ => T.tasks.length - (intOf i).toNat)
          case atStart => exact ⟨0, Nat.zero_le _, rfl, hK, by simp [Hid]⟩
          case round =>
            clear hK
            obtain ⟨k, hk, rfl, hK, hP⟩ := hrel
            by_cases hkl : k < T.tasks.length
            · obtain ⟨x, hx, hmx⟩ := at_of hkl
              obtain ⟨xpr, xring, xfull, xlim, xmask, xinl, xoa, xoc, xown, xauto⟩ := x
              have hk0 : (0 : Int) ≤ (k : Int) := by omega
              have hk1 : (k : Int) < (T.tasks.length : Int) := by omega
              obtain ⟨b, off, hta, hb, hcl⟩ := camel_at (camel_same HT.out.tasks hK.out) hx
              have e0 := hcl 0 _ rfl
              have e1 := hcl 1 _ rfl
              have e2 := hcl 2 _ rfl
              have e3 := hcl 3 _ rfl
              have e4 := hcl 4 _ rfl
              have e5 := hcl 5 _ rfl
              have e6 := hcl 6 _ rfl
              have e7 := hcl 7 _ rfl
              simp only [Nat.add_zero] at e0
              dsimp only at e0 e1 e2 e3 e4 e5 e6 e7
              have HX := Lib.hid hx
              have HMX := Lib.hid hmx
              clear hcl hx hmx
              rw [hta]
              go_upto_region 13 with fail
              have nr := Blk.new wr [.int .i64 xpr, .int .i64 xring, .bool xfull, .int .i64 xlim, .int .u32 xmask, .int .i64 xinl, .slice xoa xown.length xoc, .int .u32 xauto] 55
              have k2 : Kept (fun _ => False) w1 (wr.alloc (.cells #[.int .i64 xpr, .int .i64 xring, .bool xfull, .int .i64 xlim, .int .u32 xmask, .int .i64 xinl, .slice xoa xown.length xoc, .int .u32 xauto] 55)) := hK.out.alloc _
              have y0 := nr.cell 0 rfl
              obtain ⟨w2, hw2⟩ : ∃ w2, wr.alloc (.cells #[.int .i64 xpr, .int .i64 xring, .bool xfull, .int .i64 xlim, .int .u32 xmask, .int .i64 xinl, .slice xoa xown.length xoc, .int .u32 xauto] 55) = w2 := ⟨_, rfl⟩
              rw [hw2] at k2 y0 ⊢
              have K2 := Lib.hid k2
              clear hw2 k2 nr e0 e1 e2 e3 e4 e5 e6 e7 hta
              by_cases hc : 0 ≤ xpr ∧ xpr ≤ 63
              · have d0 : decide (xpr < 0) = false := by simp; omega
                have d1 : decide (63 < xpr) = false := by simp; omega
                have HN : Hid (∀ x ∈ T.tasks.take (k + 1), 0 ≤ x.pr ∧ x.pr ≤ 63) := by
                  intro x hx
                  rw [List.take_add_one, HX.out] at hx
                  rcases List.mem_append.1 hx with hx | hx
                  · exact hP.out x hx
                  · simp only [Option.toList_some, List.mem_singleton] at hx
                    subst hx
                    exact hc
                clear hc hP
                go_wp2_with fail
                go_roundw
                case rel => exact ⟨k + 1, by omega, by go_num, K2, HN⟩
                case measure => simp [intOf]; omega
              · have HC := Lib.hid hc
                by_cases h0 : xpr < 0
                · have d0 : decide (xpr < 0) = true := by simpa using h0
                  clear hc h0
                  go_wp2_with fail
                  go_ret
                  exact ⟨Or.inr ⟨rfl, fun h => HC.out (h.2.2.1 _ HMX.out)⟩, K0.out.then K2.out (fun _ x => x.elim)⟩
                · have d0 : decide (xpr < 0) = false := by simpa using h0
                  have d1 : decide (63 < xpr) = true := by simp; omega
                  clear hc h0
                  go_wp2_with fail
                  go_ret
                  exact ⟨Or.inr ⟨rfl, fun h => HC.out (h.2.2.1 _ HMX.out)⟩, K0.out.then K2.out (fun _ x => x.elim)⟩
            · obtain rfl : k = T.tasks.length := by omega
              have hPC := hP.out
              rw [List.take_length] at hPC
              have HPR : Hid (PriosP T) := hPC
              clear hP hPC
              obtain ⟨c0, c1, c2, c3, c4, c5, c6, c7, c8, c9, c10, c11, c12⟩ := tab_cells (NB.out.kept hK.out (fun x => x))
              go_upto_region 16 with fail
              go_cut [123] (fun t wx => Hid (Kept (fun _ => False) w1 wx) ∧ ∃ bad : Bool, t = .bool bad ∧ Hid (bad = false ↔ RowsP T))
              case first =>
                as_aux_lemma =>
                  have C1 := Lib.hid (tasks_ok (HT.out.same hK.out) HW.out HF.out.2.2.1.2 HF.out.2.1)
                  have C2 := fun (W : World) (h : Kept (fun _ => False) w1 W) => clocks_ok (HT.out.same h) HW.out HF.out.2.1
                  have C3 := fun (W : World) (h : Kept (fun _ => False) w1 W) => isrs_ok (HT.out.same h) HW.out HIC.out
                  have C4 := fun (W : World) (h : Kept (fun _ => False) w1 W) => messages_ok (HT.out.same h) HW.out
                  have C2 := Lib.hid C2
                  have C3 := Lib.hid C3
                  have C4 := Lib.hid C4
                  go_wp2_with (first
                    | (go_at_call 61; refine C1.out.mono ?_; rintro e w4 ⟨⟨b4, rfl, hb4⟩, k4⟩; have HB4 := Lib.hid hb4; have K4 := Lib.hid (hK.out.then k4 (fun _ x => x.elim)); clear c0 c1 c2 c3 c4 c5 c6 c7 c8 c9 c10 c11 c12; obtain ⟨c0, c1, c2, c3, c4, c5, c6, c7, c8, c9, c10, c11, c12⟩ := tab_cells (NB.out.kept K4.out (fun x => x)); clear hb4 k4; cases b4)
                    | (go_at_call 62; refine (C2.out _ K4.out).mono ?_; rintro e w5 ⟨⟨b5, rfl, hb5⟩, k5⟩; have HB5 := Lib.hid hb5; have K5 := Lib.hid (K4.out.then k5 (fun _ x => x.elim)); clear c0 c1 c2 c3 c4 c5 c6 c7 c8 c9 c10 c11 c12; obtain ⟨c0, c1, c2, c3, c4, c5, c6, c7, c8, c9, c10, c11, c12⟩ := tab_cells (NB.out.kept K5.out (fun x => x)); clear hb5 k5; cases b5)
                    | (go_at_call 63; refine (C3.out _ K5.out).mono ?_; rintro e w6 ⟨⟨b6, rfl, hb6⟩, k6⟩; have HB6 := Lib.hid hb6; have K6 := Lib.hid (K5.out.then k6 (fun _ x => x.elim)); clear c0 c1 c2 c3 c4 c5 c6 c7 c8 c9 c10 c11 c12; obtain ⟨c0, c1, c2, c3, c4, c5, c6, c7, c8, c9, c10, c11, c12⟩ := tab_cells (NB.out.kept K6.out (fun x => x)); clear hb6 k6; cases b6)
                    | (go_at_call 64; refine (C4.out _ K6.out).mono ?_; rintro e w7 ⟨⟨b7, rfl, hb7⟩, k7⟩; have HB7 := Lib.hid hb7; have K7 := Lib.hid (K6.out.then k7 (fun _ x => x.elim)); clear c0 c1 c2 c3 c4 c5 c6 c7 c8 c9 c10 c11 c12; clear hb7 k7; cases b7))
                  all_goals
                    go_meet
                    first
                      | exact ⟨K7, true, rfl, ⟨(fun e => by cases e), fun h => by cases HB7.out.2 h.2.2.2⟩⟩
                      | exact ⟨K7, false, rfl, ⟨fun _ => ⟨(by simpa using HB4.out), (by simpa using HB5.out), (by simpa using HB6.out), (by simpa using HB7.out)⟩, fun _ => rfl⟩⟩
                      | exact ⟨K6, true, rfl, ⟨(fun e => by cases e), fun h => by cases HB6.out.2 h.2.2.1⟩⟩
                      | exact ⟨K5, true, rfl, ⟨(fun e => by cases e), fun h => by cases HB5.out.2 h.2.1⟩⟩
                      | exact ⟨K4, true, rfl, ⟨(fun e => by cases e), fun h => by cases HB4.out.2 h.1⟩⟩
              case rest =>
                obtain ⟨hk4, bad, rfl, hbad⟩ := hcut
                cases bad with
                | true =>
                  have hb := hbad.out
                  have HB : Hid (¬ RowsP T) := fun h => by cases hb.2 h
                  clear hb hbad c0 c1 c2 c3 c4 c5 c6 c7 c8 c9 c10 c11 c12
                  go_wp2_with fail
                  go_ret
                  exact ⟨Or.inr ⟨rfl, fun h => HB.out h.2.2.2.1⟩, K0.out.then hk4.out (fun _ x => x.elim)⟩
                | false =>
                  have HR : Hid (RowsP T) := hbad.out.1 rfl
                  clear hbad c0 c1 c2 c3 c4 c5 c6 c7 c8 c9 c10 c11 c12
                  obtain ⟨c0, c1, c2, c3, c4, c5, c6, c7, c8, c9, c10, c11, c12⟩ := tab_cells (NB.out.kept hk4.out (fun x => x))
                  have CR := Lib.hid (room_ok (HT.out.same hk4.out) (by have := HF.out.2.2.2.2.1; omega) HF.out.2.2.2.2.2.1 HF.out.2.2.2.2.2.2.2 (by have := HF.out.2.2.2.2.2.2.1; omega) HW.out.lens.2.1
                    (fun x hx => (HR.out.2.1.2 x hx).1) (fun x hx h1 => by
                      rcases HR.out.2.2.2 x hx with h | h
                      · exact absurd h.1 h1
                      · exact h.2.1.2.2.1))
                  go_upto_region 19 with (go_at_call 65; refine CR.out.mono ?_; rintro e w8 ⟨⟨m, bk, rfl, hri⟩, k8⟩)
                  have K8 := Lib.hid (hk4.out.then k8 (fun _ x => x.elim))
                  have HRI := Lib.hid hri
                  clear c0 c1 c2 c3 c4 c5 c6 c7 c8 c9 c10 c11 c12 hri k8 CR
                  obtain ⟨_, _, _, _, _, _, _, _, _, c9, c10, c11, c12⟩ := tab_cells (NB.out.kept K8.out (fun x => x))
                  go_cut [152] (fun t wx => wx = w8 ∧ ∃ bad : Bool, t = .bool bad ∧ Hid (bad = false ↔ (T.depth = T.rings.length ∧ T.frames = (T.isrs.length : Int) + 4 ∧ T.errs = m ∧ T.backs = bk)))
                  case first =>
                    go_wp2_with fail
                    all_goals
                      go_meet
                      refine ⟨rfl, _, rfl, ?_⟩
                      unfold Hid
                      go_light
                      grind
                  case rest =>
                    obtain ⟨hwc, bad, rfl, hbad⟩ := hcut
                    subst hwc
                    clear c9 c10 c11 c12
                    cases bad with
                    | true =>
                      have hb := hbad.out
                      have HB : Hid (¬ RoomP T) := fun h => by
                        have h1 := h.2.2.1.uniq HRI.out.1
                        have h2 : T.backs = bk := h.2.2.2.trans HRI.out.2.symm
                        cases hb.2 ⟨h.1, h.2.1, h1, h2⟩
                      clear hb hbad
                      go_wp2_with fail
                      go_ret
                      exact ⟨Or.inr ⟨rfl, fun h => HB.out h.2.2.2.2⟩, K0.out.then K8.out (fun _ x => x.elim)⟩
                    | false =>
                      have hG := hbad.out.1 rfl
                      have HG : Hid (RoomP T) := ⟨hG.1, hG.2.1, by rw [hG.2.2.1, hG.2.2.2]; exact HRI.out⟩
                      clear hbad hG
                      go_wp2_with fail
                      go_ret
                      exact ⟨Or.inl ⟨rfl, HF.out, HCE.out, HPR.out, HR.out, HG.out⟩, K0.out.then K8.out (fun _ x => x.elim)⟩
end Go.Proofs.Ytnfpiocjdhipcaa.TC
