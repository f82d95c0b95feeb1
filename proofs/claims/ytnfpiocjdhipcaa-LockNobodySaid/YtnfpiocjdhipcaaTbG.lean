/- Package table: tasks. -/
import Derived.Test.YtnfpiocjdhipcaaTbF
namespace Go.Proofs.Ytnfpiocjdhipcaa.TC
open Go.RowKit Go.Fr Go.Tb
attribute [local go_sem] Oper.semAt_some

/-- what is asked of a task's row, its ring and its numbers -/
def TaskA (T : Tb) (x : TaskR) : Prop := 0 ≤ x.ring ∧ (∃ y, T.rings[x.ring.toNat]? = some y ∧ y.1 = x.pr) ∧ 1 ≤ x.limit ∧ x.limit ≤ 255 ∧ (x.mask = 0 ∨ x.limit = 1)
/-- .. and the rest -/
def TaskB (T : Tb) (x : TaskR) : Prop := (x.inl = -1 ∨ (x.pr ≤ x.inl ∧ x.inl ≤ 127)) ∧ OwnP T x.pr x.own ∧ x.auto / 2 ^ T.modes.toNat = 0
def TasksP (T : Tb) : Prop := (∀ x ∈ T.tasks, TaskA T x ∧ TaskB T x) ∧ ringsB T.tasks 64 = T.rings

set_option maxRecDepth 100000 in
set_option maxHeartbeats 8000000 in
theorem tasks_ok {w : World} {T : Tb} (hT : TabIn w T) (hW : T.Wf) (hn : T.tasks.length ≤ 256) (hm : 1 ≤ T.modes ∧ T.modes ≤ 8) :
    Calls Try.prog 61 #[.agg T.cells.toArray] w fun e w' => BoolIs e (TasksP T) ∧ Kept (fun _ => False) w w' := by
  have k0 : Kept (fun _ => False) w (box w T) := (Kept.refl _ w).alloc _
  have nb : Blk (box w T) w.heap.size T.cells 30 := Blk.new w T.cells 30
  have hT1 := hT.same k0
  obtain ⟨w1, hw1⟩ : ∃ w1, box w T = w1 := ⟨_, rfl⟩
  obtain ⟨B, hB⟩ : ∃ B, w.heap.size = B := ⟨_, rfl⟩
  rw [hw1] at k0 nb hT1
  rw [hB] at nb
  have HT := Lib.hid hT1
  have HW := Lib.hid hW
  have NB := Lib.hid nb
  have K0 := Lib.hid k0
  have hle := hW.lens.1
  have hle2 := hW.lens.2.1
  clear hT hT1 hW nb k0
  have hs : T.cells.toArray.size = 13 := rfl
  have hn0 : (T.cells.toArray = #[]) = False := by simp [Tb.cells]
  unfold box at hw1
  generalize T.cells.toArray = Z at hw1 hs hn0 ⊢
  go_enter Try.func61, Try.ntmps61
  go_upto_region 1 with fail
  clear hs hn0 hw1 hB
  have c2 := NB.out.cell 2 rfl
  go_wp2_with fail
  clear c2
  have K1 : Hid (Kept (fun _ => False) w1 w1) := Kept.refl _ _
  go_loopw [8] (fun i wr => ∃ k : Nat, k ≤ T.tasks.length ∧ i = .int .i64 k ∧ Hid (Kept (fun _ => False) w1 wr) ∧ Hid (∀ x ∈ T.tasks.take k, TaskA T x ∧ TaskB T x)) (fun i _ => T.tasks.length - (intOf i).toNat)
  case atStart => exact ⟨0, Nat.zero_le _, rfl, K1, by simp [Hid]⟩
  case round =>
    clear K1
    obtain ⟨k, hk, rfl, hK, hP⟩ := hrel
    by_cases hkl : k < T.tasks.length
    · obtain ⟨x, hx, hmx⟩ := at_of hkl
      have hwx := HW.out.tasks _ hmx
      have hoc := camel_same (HT.out.town _ hmx) hK.out
      obtain ⟨xpr, xring, xfull, xlim, xmask, xinl, xoa, xoc, xown, xauto⟩ := x
      have hk0 : (0 : Int) ≤ (k : Int) := by omega
      have hk1 : (k : Int) < (T.tasks.length : Int) := by omega
      obtain ⟨b, off, hta, hb, hcl⟩ := camel_at (camel_same HT.out.tasks hK.out) hx
      have e0 := hcl 0 _ rfl
      have e1 := hcl 1 _ rfl
      have e2 := hcl 2 _ rfl
      have e3 := hcl 3 _ rfl
      have e4 := hcl 4 _ rfl
      have e5 := hcl 5 _ rfl
      have e6 := hcl 6 _ rfl
      have e7 := hcl 7 _ rfl
      simp only [Nat.add_zero] at e0
      dsimp only at e0 e1 e2 e3 e4 e5 e6 e7 hwx hoc
      have HX := Lib.hid hx
      have HWX := Lib.hid hwx
      have HMX := Lib.hid hmx
      clear hcl hx hwx hmx
      rw [hta]
      go_upto_region 4 with fail
      have nr := Blk.new wr [.int .i64 xpr, .int .i64 xring, .bool xfull, .int .i64 xlim, .int .u32 xmask, .int .i64 xinl, .slice xoa xown.length xoc, .int .u32 xauto] 55
      have k2 : Kept (fun _ => False) w1 (wr.alloc (.cells #[.int .i64 xpr, .int .i64 xring, .bool xfull, .int .i64 xlim, .int .u32 xmask, .int .i64 xinl, .slice xoa xown.length xoc, .int .u32 xauto] 55)) := hK.out.alloc _
      have ho2 := camel_same hoc ((Kept.refl _ wr).alloc (.cells #[.int .i64 xpr, .int .i64 xring, .bool xfull, .int .i64 xlim, .int .u32 xmask, .int .i64 xinl, .slice xoa xown.length xoc, .int .u32 xauto] 55))
      obtain ⟨w2, hw2⟩ : ∃ w2, wr.alloc (.cells #[.int .i64 xpr, .int .i64 xring, .bool xfull, .int .i64 xlim, .int .u32 xmask, .int .i64 xinl, .slice xoa xown.length xoc, .int .u32 xauto] 55) = w2 := ⟨_, rfl⟩
      obtain ⟨M, hM⟩ : ∃ M, wr.heap.size = M := ⟨_, rfl⟩
      have nr' : Blk w2 M [.int .i64 xpr, .int .i64 xring, .bool xfull, .int .i64 xlim, .int .u32 xmask, .int .i64 xinl, .slice xoa xown.length xoc, .int .u32 xauto] 55 := by rw [← hw2, ← hM]; exact nr
      rw [hw2] at k2 ho2 ⊢
      try rw [hM]
      have NR := Lib.hid nr'
      have K2 := Lib.hid k2
      have HO := Lib.hid ho2
      clear nr nr' hw2 hM k2 ho2 hoc e0 e1 e2 e3 e4 e5 e6 e7 hta
      have y0 := NR.out.cell 0 rfl
      have y1 := NR.out.cell 1 rfl
      have y3 := NR.out.cell 3 rfl
      have y4 := NR.out.cell 4 rfl
      have c3 := (NB.out.kept K2.out (fun x => x)).cell 3 rfl
      go_cut [54] (fun t wx => ∃ (q : Nat) (bad : Bool), wx = w2.drewN q ∧ t = .bool bad ∧ Hid (bad = false ↔ TaskA T ⟨xpr, xring, xfull, xlim, xmask, xinl, xoa, xoc, xown, xauto⟩))
      case first =>
        have no : ∀ (h : ¬ TaskA T ⟨xpr, xring, xfull, xlim, xmask, xinl, xoa, xoc, xown, xauto⟩), Hid (true = false ↔ TaskA T ⟨xpr, xring, xfull, xlim, xmask, xinl, xoa, xoc, xown, xauto⟩) := fun h => ⟨(fun e => by cases e), fun e => absurd e h⟩
        have NO := Lib.hid no
        clear no
        by_cases h0 : xring < 0
        · have d0 : decide (xring < 0) = true := by simpa using h0
          have PF := NO.out (fun h => by have := h.1; dsimp only at this; omega)
          clear h0
          go_quiet (fail)
          go_wp2_with fail
          go_meet
          exact ⟨_, true, rfl, rfl, PF⟩
        have d0 : decide (xring < 0) = false := by simpa using h0
        by_cases h1 : (T.rings.length : Int) ≤ xring
        · have d1 : decide ((T.rings.length : Int) ≤ xring) = true := by simpa using h1
          have PF := NO.out (fun h => by
            obtain ⟨y, h2, _⟩ := h.2.1
            have := (List.getElem?_eq_some_iff.1 h2).1
            dsimp only at this
            omega)
          clear h0 h1
          go_quiet (fail)
          go_wp2_with fail
          go_meet
          exact ⟨_, true, rfl, rfl, PF⟩
        have d1 : decide ((T.rings.length : Int) ≤ xring) = false := by simpa using h1
        obtain ⟨n, rfl⟩ := Int.eq_ofNat_of_zero_le (a := xring) (by omega)
        obtain ⟨⟨yp, yc⟩, hy, _⟩ := at_of (l := T.rings) (k := n) (by omega)
        obtain ⟨b3, off3, hra, hb3, hcl3⟩ := camel_at (camel_same HT.out.rings K2.out) hy
        have f0 := hcl3 0 _ rfl
        simp only [Nat.add_zero] at f0
        rw [hra] at c3
        have HY := Lib.hid hy
        have n0 : (0 : Int) ≤ (n : Int) := by omega
        have n1 : (n : Int) < (T.rings.length : Int) := by omega
        have n2 : decide (T.rings.length ≤ n) = false := by simp; omega
        have ta : Hid (TaskA T ⟨xpr, (n : Int), xfull, xlim, xmask, xinl, xoa, xoc, xown, xauto⟩ ↔ (yp = xpr ∧ 1 ≤ xlim ∧ xlim ≤ 255 ∧ (xmask = 0 ∨ xlim = 1))) := by
          unfold Hid TaskA
          dsimp only
          rw [show ((n : Nat) : Int).toNat = n from Int.toNat_natCast n, HY.out]
          constructor
          · rintro ⟨_, ⟨y, h2, h3⟩, h4⟩
            cases h2
            exact ⟨h3, h4⟩
          · rintro ⟨h3, h4⟩
            exact ⟨n0, ⟨_, rfl, h3⟩, h4⟩
        clear hcl3 hy h0 h1 hra
        by_cases h3 : yp = xpr
        · have d3 : (yp != xpr) = false := by simpa using h3
          have H3 := Lib.hid h3
          clear h3
          by_cases h4 : xlim < 1
          · have d4 : decide (xlim < 1) = true := by simpa using h4
            have PF := NO.out (fun h => by have := (ta.out.1 h).2.1; omega)
            clear h4
            go_quiet (fail)
            go_wp2_with fail
            go_meet
            exact ⟨_, true, rfl, rfl, PF⟩
          have d4 : decide (xlim < 1) = false := by simpa using h4
          by_cases h5 : 255 < xlim
          · have d5 : decide (255 < xlim) = true := by simpa using h5
            have PF := NO.out (fun h => by have := (ta.out.1 h).2.2.1; omega)
            clear h4 h5
            go_quiet (fail)
            go_wp2_with fail
            go_meet
            exact ⟨_, true, rfl, rfl, PF⟩
          have d5 : decide (255 < xlim) = false := by simpa using h5
          have H45 : Hid (1 ≤ xlim ∧ xlim ≤ 255) := by unfold Hid; omega
          clear h4 h5
          by_cases h6 : xmask = 0
          · have d6 : (xmask != 0) = false := by simpa using h6
            have H6 := Lib.hid h6
            clear h6
            have PF : Hid (TaskA T ⟨xpr, (n : Int), xfull, xlim, xmask, xinl, xoa, xoc, xown, xauto⟩) := ta.out.2 ⟨H3.out, H45.out.1, H45.out.2, Or.inl H6.out⟩
            go_quiet (fail)
            go_wp2_with fail
            go_meet
            exact ⟨_, false, rfl, rfl, ⟨fun _ => PF.out, fun _ => rfl⟩⟩
          · have d6 : (xmask != 0) = true := by simpa using h6
            have H6 := Lib.hid h6
            clear h6
            by_cases h7 : xlim = 1
            · have d7 : (xlim != 1) = false := by simpa using h7
              have H7 := Lib.hid h7
              clear h7
              have PF : Hid (TaskA T ⟨xpr, (n : Int), xfull, xlim, xmask, xinl, xoa, xoc, xown, xauto⟩) := ta.out.2 ⟨H3.out, H45.out.1, H45.out.2, Or.inr H7.out⟩
              go_quiet (fail)
              go_wp2_with fail
              go_meet
              exact ⟨_, false, rfl, rfl, ⟨fun _ => PF.out, fun _ => rfl⟩⟩
            · have d7 : (xlim != 1) = true := by simpa using h7
              have PF := NO.out (fun h => by have := (ta.out.1 h).2.2.2; exact this.elim H6.out h7)
              clear h7
              go_quiet (fail)
              go_wp2_with fail
              go_meet
              exact ⟨_, true, rfl, rfl, PF⟩
        · have d3 : (yp != xpr) = true := by simpa using h3
          have PF := NO.out (fun h => h3 (ta.out.1 h).1)
          clear h3
          go_quiet (fail)
          go_wp2_with fail
          go_meet
          exact ⟨_, true, rfl, rfl, PF⟩
      case rest =>
        obtain ⟨q, bad, rfl, rfl, hbad⟩ := hcut
        have K3 := Lib.hid (K2.out.drewN q)
        have NR3 := Lib.hid (NR.out.drewN q)
        have HO3 := Lib.hid (camel_same HO.out ((Kept.refl _ w2).drewN q))
        obtain ⟨w3, hw3⟩ : ∃ w3, w2.drewN q = w3 := ⟨_, rfl⟩
        rw [hw3] at K3 NR3 HO3 ⊢
        clear hw3 y0 y1 y3 y4 c3 K2 NR HO
        cases bad with
        | true =>
          have hb := hbad.out
          have HB : Hid (¬ TaskA T ⟨xpr, xring, xfull, xlim, xmask, xinl, xoa, xoc, xown, xauto⟩) := fun h => by cases hb.2 h
          clear hb hbad
          go_wp2_with fail
          go_ret
          exact ⟨bool_no fun h => HB.out (h.1 _ HMX.out).1, K0.out.then K3.out (fun _ x => x.elim)⟩
        | false =>
          have HA : Hid (TaskA T ⟨xpr, xring, xfull, xlim, xmask, xinl, xoa, xoc, xown, xauto⟩) := hbad.out.1 rfl
          clear hbad
          have y0 := NR3.out.cell 0 rfl
          have y5 := NR3.out.cell 5 rfl
          have y6 := NR3.out.cell 6 rfl
          have y7 := NR3.out.cell 7 rfl
          have nb3 := NB.out.kept K3.out (fun x => x)
          have c0 := nb3.cell 0 rfl
          have c1 := nb3.cell 1 rfl
          have c2 := nb3.cell 2 rfl
          have c3 := nb3.cell 3 rfl
          have c4 := nb3.cell 4 rfl
          have c5 := nb3.cell 5 rfl
          have c6 := nb3.cell 6 rfl
          have c7 := nb3.cell 7 rfl
          have c8 := nb3.cell 8 rfl
          have c9 := nb3.cell 9 rfl
          have c10 := nb3.cell 10 rfl
          have c11 := nb3.cell 11 rfl
          have c12 := nb3.cell 12 rfl
          have hown := own_ok (c := xoc) xpr (HT.out.same K3.out) HW.out HO3.out HWX.out.2.2.2.2.2.2.1 HWX.out.2.2.2.2.2.2.2
          have HOWN := Lib.hid hown
          clear hown nb3
          have hm0 : (0 : Int) ≤ T.modes := by omega
          have hm1 : ¬ T.modes < 0 := by omega
          have NXT : Hid (∀ (h : TaskB T ⟨xpr, xring, xfull, xlim, xmask, xinl, xoa, xoc, xown, xauto⟩), ∀ x ∈ T.tasks.take (k + 1), TaskA T x ∧ TaskB T x) := by
            intro h x hx
            rw [List.take_add_one, HX.out] at hx
            rcases List.mem_append.1 hx with hx | hx
            · exact hP.out x hx
            · simp only [Option.toList_some, List.mem_singleton] at hx
              subst hx
              exact ⟨HA.out, h⟩
          clear hP
          go_wp2_with (go_at_call 86; refine HOWN.out.mono ?_; rintro e w4 ⟨⟨b4, rfl, hb4⟩, k4⟩; have HB4 := Lib.hid hb4; have K4 := Lib.hid k4; have y7 := (NR3.out.kept k4 (fun x => x)).cell 7 rfl; have c1 := ((NB.out.kept K3.out (fun x => x)).kept k4 (fun x => x)).cell 1 rfl; clear hb4 k4; cases b4)
          all_goals first
            | (go_ret
               refine ⟨bool_no fun h => ?_, ?_⟩
               · have h2 := (h.1 _ HMX.out).2
                 first
                   | (have h4 := HB4.out
                      unfold TaskB at h2
                      dsimp only at h2
                      clear HB4 HWX
                      go_light
                      grind)
                   | (unfold TaskB at h2
                      dsimp only at h2
                      clear HWX
                      go_light
                      grind)
               · first
                   | exact K0.out.then (K3.out.then K4.out (fun _ x => x.elim)) (fun _ x => x.elim)
                   | exact K0.out.then K3.out (fun _ x => x.elim))
            | (have hB : Hid (TaskB T ⟨xpr, xring, xfull, xlim, xmask, xinl, xoa, xoc, xown, xauto⟩) := by
                 have h4 := HB4.out
                 unfold Hid TaskB
                 dsimp only
                 clear HB4 HWX
                 go_light
                 grind
               clear y0 y5 y6 y7 c0 c1 c2 c3 c4 c5 c6 c7 c8 c9 c10 c11 c12
               go_roundw
               case rel => exact ⟨k + 1, by omega, by go_num, K3.out.then K4.out (fun _ x => x.elim), NXT.out hB.out⟩
               case measure => simp [intOf]; omega)
    · obtain rfl : k = T.tasks.length := by omega
      have c2 := (NB.out.kept hK.out (fun x => x)).cell 2 rfl
      have c3 := (NB.out.kept hK.out (fun x => x)).cell 3 rfl
      have hP2 := hP.out
      rw [List.take_length] at hP2
      have HP := Lib.hid hP2
      have hr := fun n => rings_ok T.tc (camel_same HT.out.tasks (hK.out.drewN n)) hn (fun x hx => by have := (hP2 x hx).1; unfold TaskA at this; omega)
      have HR := Lib.hid hr
      have hrl := ringsB_len T.tasks 64
      have HTR := fun (n : Nat) => camel_same HT.out.rings (hK.out.drewN n)
      have HE := fun (W : World) (n : Nat) (ao : Option Addr) (c : Nat) (h : Rb (wr.drewN n) W ao c (ringsB T.tasks 64)) => equal_ok (c := c) (c' := T.rc) (camel_row h.row) (camel_same (HTR n) h.kept) (by omega)
      obtain ⟨F, hF⟩ : ∃ F, ringsB T.tasks 64 = F := ⟨_, rfl⟩
      simp only [hF] at HE
      have HE := Lib.hid HE
      have HF := Lib.hid hF
      simp only [hF] at HR
      clear hP hP2 hr hrl HTR hF
      go_upto_region 9 with fail
      refine wp_region_noPanic ?_
      go_region_held3 (fun w' => w'.cell? ⟨B, 2, none⟩ = some (.slice T.ta T.tasks.length T.tc) ∧ w'.cell? ⟨B, 3, none⟩ = some (.slice T.ra T.rings.length T.rc))
        (first
          | (simp [*]; done)
          | (refine ⟨?_, ?_⟩ <;> (first | exact ((((NB.out.kept hK.out (fun x => x)).drewN _).kept h5.kept (fun x => x)).cell _ rfl) | exact (((((NB.out.kept hK.out (fun x => x)).drewN _).kept h5.kept (fun x => x)).kept k6 (fun x => x)).cell _ rfl)))
          | fail)
        (first
          | (go_at_call 88; refine (HR.out _).mono ?_; rintro e w5 ⟨ao5, c5, rfl, h5⟩)
          | (go_at_call 87; refine (HE.out _ _ _ _ h5).mono ?_; rintro e w6 ⟨⟨b6, rfl, hb6⟩, k6⟩))
      refine NoPanic.normal ?_
      have HB6 := Lib.hid hb6
      have K6 : Hid (Kept (fun _ => False) w1 w6) := (hK.out.then (h5.kept.undrew.then k6 (fun _ x => x.elim)) (fun _ x => x.elim))
      clear hb6 k6 h5 c2 c3 HE HR
      go_wp2_with fail
      go_ret
      refine ⟨bool_is _ ?_, K0.out.then K6.out (fun _ x => x.elim)⟩
      rw [HB6.out]
      unfold TasksP
      rw [HF.out]
      exact ⟨fun h => ⟨HP.out, h⟩, fun h => h.2⟩
end Go.Proofs.Ytnfpiocjdhipcaa.TC
