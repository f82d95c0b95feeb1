/- Package table: messages. -/
import Derived.Test.YtnfpiocjdhipcaaTbF
namespace Go.Proofs.Ytnfpiocjdhipcaa.TC
open Go.RowKit Go.Fr Go.Tb
attribute [local go_sem] Oper.semAt_some

/-- what is asked of a message that is sent -/
def SendP (x : MsgR) : Prop := (x.len = 1 ∨ x.len = 2 ∨ x.len = 4 ∨ x.len = 8) ∧ x.src = 0 ∧ x.init = 0 ∧ x.queue = 0 ∧ x.akind = 0 ∧ x.atask = 0 ∧ x.amask = 0
/-- of one that is received -/
def RecvA (T : Tb) (x : MsgR) : Prop := (x.kind = 2 ∨ x.kind = 3) ∧ x.len = 0 ∧ (0 ≤ x.src ∧ x.src < T.msgs.length) ∧ (∃ f, T.msgs[x.src.toNat]? = some f ∧ f.kind = 1) ∧ ActP T x.akind x.atask x.amask 0 4
def RecvB (T : Tb) (x : MsgR) : Prop := ∃ f, T.msgs[x.src.toNat]? = some f ∧ x.init ≤ 4294967295 ∧ (1 ≤ f.len ∧ f.len < 8 → x.init / 2 ^ (8 * f.len).toNat = 0)
def RecvC (x : MsgR) : Prop := (x.kind = 2 → x.queue = 0) ∧ (x.kind = 3 → x.init = 0 ∧ 1 ≤ x.queue ∧ x.queue ≤ 16)
def MsgP (T : Tb) (x : MsgR) : Prop := (x.kind = 1 ∧ SendP x) ∨ (x.kind ≠ 1 ∧ RecvA T x ∧ RecvB T x ∧ RecvC x)
def MsgsP (T : Tb) : Prop := ∀ x ∈ T.msgs, MsgP T x

set_option maxRecDepth 100000 in
set_option maxHeartbeats 8000000 in
theorem messages_ok {w : World} {T : Tb} (hT : TabIn w T) (hW : T.Wf) :
    Calls Try.prog 64 #[.agg T.cells.toArray] w fun e w' => BoolIs e (MsgsP T) ∧ Kept (fun _ => False) w w' := by
  have k0 : Kept (fun _ => False) w (box w T) := (Kept.refl _ w).alloc _
  have nb : Blk (box w T) w.heap.size T.cells 30 := Blk.new w T.cells 30
  have hT1 := hT.same k0
  obtain ⟨w1, hw1⟩ : ∃ w1, box w T = w1 := ⟨_, rfl⟩
  obtain ⟨B, hB⟩ : ∃ B, w.heap.size = B := ⟨_, rfl⟩
  rw [hw1] at k0 nb hT1
  rw [hB] at nb
  have HT := Lib.hid hT1
  have HW := Lib.hid hW
  have NB := Lib.hid nb
  have K0 := Lib.hid k0
  have hle := hW.lens.2.2.2.2.2.2
  clear hT hT1 hW nb k0
  have hs : T.cells.toArray.size = 13 := rfl
  have hn0 : (T.cells.toArray = #[]) = False := by simp [Tb.cells]
  unfold box at hw1
  generalize T.cells.toArray = Z at hw1 hs hn0 ⊢
  go_enter Try.func64, Try.ntmps64
  go_upto_region 1 with fail
  clear hs hn0 hw1 hB
  have c8 := NB.out.cell 8 rfl
  go_wp2_with fail
  clear c8
  have K1 : Hid (Kept (fun _ => False) w1 w1) := Kept.refl _ _
  go_loopw [9] (fun i wr => ∃ k : Nat, k ≤ T.msgs.length ∧ i = .int .i64 k ∧ Hid (Kept (fun _ => False) w1 wr) ∧ Hid (∀ x ∈ T.msgs.take k, MsgP T x)) (fun i _ => T.msgs.length - (intOf i).toNat)
  case atStart => exact ⟨0, Nat.zero_le _, rfl, K1, by simp [Hid]⟩
  case round =>
    clear K1
    obtain ⟨k, hk, rfl, hK, hP⟩ := hrel
    by_cases hkl : k < T.msgs.length
    · obtain ⟨x, hx, hmx⟩ := at_of hkl
      have hwx := HW.out.msgs _ hmx
      obtain ⟨xk, xl, xs, xi, xq, ak, at', am⟩ := x
      have hk0 : (0 : Int) ≤ (k : Int) := by omega
      have hk1 : (k : Int) < (T.msgs.length : Int) := by omega
      obtain ⟨b, off, hta, hb, hcl⟩ := camel_at (camel_same HT.out.msgs hK.out) hx
      have e0 := hcl 0 _ rfl
      have e1 := hcl 1 _ rfl
      have e2 := hcl 2 _ rfl
      have e3 := hcl 3 _ rfl
      have e4 := hcl 4 _ rfl
      have e5 := hcl 5 _ rfl
      have e6 := hcl 6 _ rfl
      have e7 := hcl 7 _ rfl
      simp only [Nat.add_zero] at e0
      dsimp only at e0 e1 e2 e3 e4 e5 e6 e7 hwx
      have HX := Lib.hid hx
      have HWX := Lib.hid hwx
      have HMX := Lib.hid hmx
      clear hcl hx hwx hmx
      rw [hta]
      go_upto_region 4 with fail
      have nr := Blk.new wr [.int .i64 xk, .int .i64 xl, .int .i64 xs, .int .u64 xi, .int .i64 xq, .int .i64 ak, .int .i64 at', .int .u32 am] 146
      have k2 : Kept (fun _ => False) w1 (wr.alloc (.cells #[.int .i64 xk, .int .i64 xl, .int .i64 xs, .int .u64 xi, .int .i64 xq, .int .i64 ak, .int .i64 at', .int .u32 am] 146)) := hK.out.alloc _
      obtain ⟨w2, hw2⟩ : ∃ w2, wr.alloc (.cells #[.int .i64 xk, .int .i64 xl, .int .i64 xs, .int .u64 xi, .int .i64 xq, .int .i64 ak, .int .i64 at', .int .u32 am] 146) = w2 := ⟨_, rfl⟩
      obtain ⟨M, hM⟩ : ∃ M, wr.heap.size = M := ⟨_, rfl⟩
      have nr' : Blk w2 M [.int .i64 xk, .int .i64 xl, .int .i64 xs, .int .u64 xi, .int .i64 xq, .int .i64 ak, .int .i64 at', .int .u32 am] 146 := by rw [← hw2, ← hM]; exact nr
      rw [hw2] at k2 ⊢
      try rw [hM]
      have NR := Lib.hid nr'
      have K2 := Lib.hid k2
      have NXT : Hid (∀ (h : MsgP T ⟨xk, xl, xs, xi, xq, ak, at', am⟩), ∀ x ∈ T.msgs.take (k + 1), MsgP T x) := by
        intro h x hx
        rw [List.take_add_one, HX.out] at hx
        rcases List.mem_append.1 hx with hx | hx
        · exact hP.out x hx
        · simp only [Option.toList_some, List.mem_singleton] at hx
          subst hx
          exact h
      clear nr nr' hw2 hM k2 hP e0 e1 e2 e3 e4 e5 e6 e7 hta
      have y0 := NR.out.cell 0 rfl
      have y1 := NR.out.cell 1 rfl
      have y2 := NR.out.cell 2 rfl
      have y3 := NR.out.cell 3 rfl
      have y4 := NR.out.cell 4 rfl
      have y5 := NR.out.cell 5 rfl
      have y6 := NR.out.cell 6 rfl
      have y7 := NR.out.cell 7 rfl
      by_cases hk1' : xk = 1
      · as_aux_lemma =>
          subst hk1'
          go_upto_region 5 with fail
          go_cut [41] (fun t wx => Hid (Kept (fun _ => False) w2 wx) ∧ ∃ bad : Bool, t = .bool bad ∧ Hid (bad = false ↔ SendP ⟨1, xl, xs, xi, xq, ak, at', am⟩))
          case first =>
            have nf := Blk.new w2 [.int .i64 1, .int .i64 2, .int .i64 4, .int .i64 8] 3
            have kf : Hid (Kept (fun _ => False) w2 (w2.alloc (.cells #[.int .i64 1, .int .i64 2, .int .i64 4, .int .i64 8] 3))) := (Kept.refl _ w2).alloc _
            have hfo := four_ok (g := w2.heap.size) (c := 4) xl (fun i v hv => nf.cell i hv)
            have HFO := Lib.hid hfo
            have nz := NR.out.alloc (.cells #[.int .i64 1, .int .i64 2, .int .i64 4, .int .i64 8] 3)
            have z1 := nz.cell 1 rfl
            have z2 := nz.cell 2 rfl
            have z3 := nz.cell 3 rfl
            have z4 := nz.cell 4 rfl
            have z5 := nz.cell 5 rfl
            have z6 := nz.cell 6 rfl
            have z7 := nz.cell 7 rfl
            clear nf hfo nz y0 y1 y2 y3 y4 y5 y6 y7
            by_cases hz : ak = 0 ∧ at' = 0 ∧ am = 0
            · obtain ⟨rfl, rfl, rfl⟩ := hz
              have hne : (binOp .neq 139 (.agg #[.int .i64 0, .int .i64 0, .int .u32 0]) (.agg #[.int .i64 0, .int .i64 0, .int .u32 0])).run Try.prog = fun w => .ok (.bool false) w := by
                funext w; simp [go_sem]
              go_wp2_with (go_at_call 33; refine HFO.out.mono ?_; rintro e w4 ⟨⟨b4, rfl, hb4⟩, rfl⟩; have HB4 := Lib.hid hb4; clear hb4; cases b4)
              all_goals
                go_meet
                have h4 := HB4.out
                clear HB4
                refine ⟨kf, _, rfl, ?_⟩
                unfold Hid SendP
                clear HWX
                go_light
                grind
            · have hne : (binOp .neq 139 (.agg #[.int .i64 ak, .int .i64 at', .int .u32 am]) (.agg #[.int .i64 0, .int .i64 0, .int .u32 0])).run Try.prog = fun w => .ok (.bool true) w := by
                funext w
                by_cases h1 : ak = 0
                · by_cases h2 : at' = 0
                  · have h3 : ¬ am = 0 := fun e => hz ⟨h1, h2, e⟩
                    have h3b : (am == 0) = false := by simpa using h3
                    simp [go_sem, h1, h2, h3, h3b]
                  · have h2b : (at' == 0) = false := by simpa using h2
                    simp [go_sem, h1, h2, h2b]
                · have h1b : (ak == 0) = false := by simpa using h1
                  simp [go_sem, h1, h1b]
              have HZ := Lib.hid hz
              clear hz
              go_wp2_with (go_at_call 33; refine HFO.out.mono ?_; rintro e w4 ⟨⟨b4, rfl, hb4⟩, rfl⟩; have HB4 := Lib.hid hb4; clear hb4; cases b4)
              all_goals
                go_meet
                have h4 := HB4.out
                have hz := HZ.out
                clear HB4 HZ
                refine ⟨kf, _, rfl, ?_⟩
                unfold Hid SendP
                clear HWX
                go_light
                grind
          case rest =>
            obtain ⟨hk4, bad, rfl, hbad⟩ := hcut
            have K4 := Lib.hid (K2.out.then hk4.out (fun _ x => x.elim))
            clear y0 y1 y2 y3 y4 y5 y6 y7
            cases bad with
            | true =>
              have hb := hbad.out
              have HB : Hid (¬ SendP ⟨1, xl, xs, xi, xq, ak, at', am⟩) := fun h => by cases hb.2 h
              clear hb hbad
              go_wp2_with fail
              go_ret
              exact ⟨bool_no fun h => HB.out ((h _ HMX.out).elim (fun h => h.2) (fun h => absurd rfl h.1)), K0.out.then K4.out (fun _ x => x.elim)⟩
            | false =>
              have HA : Hid (MsgP T ⟨1, xl, xs, xi, xq, ak, at', am⟩) := Or.inl ⟨rfl, hbad.out.1 rfl⟩
              clear hbad
              go_wp2_with fail
              go_roundw
              case rel => exact ⟨k + 1, by omega, by go_num, K4, NXT.out HA.out⟩
              case measure => simp [intOf]; omega
      · as_aux_lemma =>
          have hkb : (xk == 1) = false := by simpa using hk1'
          have HK1 := Lib.hid hk1'
          clear hk1'
          go_upto_region 7 with fail
          have nb3 := NB.out.kept K2.out (fun x => x)
          have c0 := nb3.cell 0 rfl
          have c1 := nb3.cell 1 rfl
          have c2 := nb3.cell 2 rfl
          have c3 := nb3.cell 3 rfl
          have c4 := nb3.cell 4 rfl
          have c5 := nb3.cell 5 rfl
          have c6 := nb3.cell 6 rfl
          have c7 := nb3.cell 7 rfl
          have c8 := nb3.cell 8 rfl
          have c9 := nb3.cell 9 rfl
          have c10 := nb3.cell 10 rfl
          have c11 := nb3.cell 11 rfl
          have c12 := nb3.cell 12 rfl
          have hact := action_ok ak at' am 0 4 (HT.out.same K2.out) HW.out
          have HACT := Lib.hid hact
          clear hact nb3
          go_cut [84] (fun t wx => Hid (Kept (fun _ => False) w2 wx) ∧ ∃ bad : Bool, t = .bool bad ∧ Hid (bad = false ↔ RecvA T ⟨xk, xl, xs, xi, xq, ak, at', am⟩))
          case first =>
            have KR : Hid (Kept (fun _ => False) w2 w2) := Kept.refl _ _
            have hsrc : (∃ n : Nat, xs = (n : Int) ∧ n < T.msgs.length) ∨ ¬ (0 ≤ xs ∧ xs < (T.msgs.length : Int)) := by
              by_cases h : 0 ≤ xs ∧ xs < (T.msgs.length : Int)
              · exact Or.inl ⟨xs.toNat, by omega, by omega⟩
              · exact Or.inr h
            rcases hsrc with ⟨n, rfl, hn⟩ | hout
            · obtain ⟨f, hf, _⟩ := at_of (l := T.msgs) hn
              obtain ⟨b3, off3, hma, hb3, hcl3⟩ := camel_at (camel_same HT.out.msgs K2.out) hf
              have f0 := hcl3 0 _ rfl
              simp only [Nat.add_zero] at f0
              have n0 : (0 : Int) ≤ (n : Int) := by omega
              have n1 : (n : Int) < (T.msgs.length : Int) := by omega
              have n2 : decide ((T.msgs.length : Int) ≤ (n : Int)) = false := by simp; omega
              have n3 : decide (T.msgs.length ≤ n) = false := by simp; omega
              have ex : Hid ((∃ g, T.msgs[((n : Nat) : Int).toNat]? = some g ∧ g.kind = 1) ↔ f.kind = 1) := by
                unfold Hid
                rw [show ((n : Nat) : Int).toNat = n from Int.toNat_natCast n, hf]
                exact ⟨fun ⟨y, h, h2⟩ => by cases h; exact h2, fun h => ⟨f, rfl, h⟩⟩
              clear hcl3 hf
              have hcv : (Value.slice (some ⟨b3, off3, none⟩) T.msgs.length T.mc) = Value.slice T.ma T.msgs.length T.mc := by rw [hma]
              have hst : ∀ g, Value.agg #[.int .i64 T.uses, .int .i64 T.modes, .slice T.ta T.tasks.length T.tc, .slice T.ra T.rings.length T.rc, .slice T.ea T.ress.length T.ec, .slice T.ca T.counters.length T.cc, .slice T.aa T.alarms.length T.ac, .slice T.ia T.isrs.length T.ic, g, .int .i64 T.depth, .int .i64 T.frames, .int .i64 T.errs, .int .i64 T.backs] = Value.agg #[.int .i64 T.uses, .int .i64 T.modes, .slice T.ta T.tasks.length T.tc, .slice T.ra T.rings.length T.rc, .slice T.ea T.ress.length T.ec, .slice T.ca T.counters.length T.cc, .slice T.aa T.alarms.length T.ac, .slice T.ia T.isrs.length T.ic, g, .int .i64 T.depth, .int .i64 T.frames, .int .i64 T.errs, .int .i64 T.backs] := fun _ => rfl
              have HACT2 : Hid (Calls Try.prog 90 #[.agg #[.int .i64 T.uses, .int .i64 T.modes, .slice T.ta T.tasks.length T.tc, .slice T.ra T.rings.length T.rc, .slice T.ea T.ress.length T.ec, .slice T.ca T.counters.length T.cc, .slice T.aa T.alarms.length T.ac, .slice T.ia T.isrs.length T.ic, .slice (some ⟨b3, off3, none⟩) T.msgs.length T.mc, .int .i64 T.depth, .int .i64 T.frames, .int .i64 T.errs, .int .i64 T.backs], .agg #[.int .i64 ak, .int .i64 at', .int .u32 am], .int .i64 0, .int .i64 4] w2 fun e w' => BoolIs e (ActP T ak at' am 0 4) ∧ Kept (fun _ => False) w2 w') := by
                unfold Hid
                rw [hcv]
                exact HACT.out
              rw [hma] at c8
              clear hcv hst hma HACT
              go_wp2_with (go_at_call 90; refine HACT2.out.mono ?_; rintro e w4 ⟨⟨b4, rfl, hb4⟩, k4⟩; have HB4 := Lib.hid hb4; have K4 := Lib.hid k4; clear hb4 k4; cases b4)
              all_goals
                go_meet
                first
                  | (have h4 := HB4.out
                     have hex := ex.out
                     clear HB4
                     refine ⟨K4, _, rfl, ?_⟩
                     unfold Hid RecvA
                     rw [hex]
                     clear HWX
                     go_light
                     grind)
                  | (have hex := ex.out
                     refine ⟨KR, _, rfl, ?_⟩
                     unfold Hid RecvA
                     rw [hex]
                     clear HWX
                     go_light
                     grind)
            · go_wp2_with (go_at_call 90; refine HACT.out.mono ?_; rintro e w4 ⟨⟨b4, rfl, hb4⟩, k4⟩; have HB4 := Lib.hid hb4; have K4 := Lib.hid k4; clear hb4 k4; cases b4)
              all_goals
                go_meet
                first
                  | (have h4 := HB4.out
                     clear HB4
                     refine ⟨K4, _, rfl, ?_⟩
                     unfold Hid RecvA
                     clear HWX
                     go_light
                     grind)
                  | (refine ⟨KR, _, rfl, ?_⟩
                     unfold Hid RecvA
                     clear HWX
                     go_light
                     grind)
          case rest =>
            obtain ⟨hk4, bad, rfl, hbad⟩ := hcut
            have K4 := Lib.hid (K2.out.then hk4.out (fun _ x => x.elim))
            have NR4 := Lib.hid (NR.out.kept hk4.out (fun x => x))
            clear y0 y1 y2 y3 y4 y5 y6 y7 c0 c1 c2 c3 c4 c5 c6 c7 c8 c9 c10 c11 c12 HACT
            cases bad with
            | true =>
              have hb := hbad.out
              have HB : Hid (¬ RecvA T ⟨xk, xl, xs, xi, xq, ak, at', am⟩) := fun h => by cases hb.2 h
              clear hb hbad
              go_wp2_with fail
              go_ret
              exact ⟨bool_no fun h => HB.out ((h _ HMX.out).elim (fun h => absurd h.1 HK1.out) (fun h => h.2.1)), K0.out.then K4.out (fun _ x => x.elim)⟩
            | false =>
              have hA := hbad.out.1 rfl
              have HA := Lib.hid hA
              have hsr := hA.2.2.1
              dsimp only at hsr
              obtain ⟨n, rfl⟩ := Int.eq_ofNat_of_zero_le (a := xs) hsr.1
              have hn1 : (n : Int) < (T.msgs.length : Int) := hsr.2
              have hn0 : (0 : Int) ≤ (n : Int) := by omega
              obtain ⟨f, hf, hmf⟩ := at_of (l := T.msgs) (k := n) (by omega)
              have hfw := HW.out.msgs _ hmf
              obtain ⟨fk, fl, fs, fi, fq, fak, fat, fam⟩ := f
              obtain ⟨b3, off3, hma, hb3, hcl3⟩ := camel_at (camel_same HT.out.msgs K4.out) hf
              have f1 := hcl3 1 _ rfl
              dsimp only at f1 hfw
              have c8 := (NB.out.kept K4.out (fun x => x)).cell 8 rfl
              rw [hma] at c8
              have y2 := NR4.out.cell 2 rfl
              have y3 := NR4.out.cell 3 rfl
              have hI : I64 fl := hfw.2.1
              unfold I64 at hI
              have HF := Lib.hid hf
              have MP : Hid (MsgP T ⟨xk, xl, (n : Int), xi, xq, ak, at', am⟩ ↔ ((xi ≤ 4294967295 ∧ (1 ≤ fl ∧ fl < 8 → xi / 2 ^ (8 * fl).toNat = 0)) ∧ RecvC ⟨xk, xl, (n : Int), xi, xq, ak, at', am⟩)) := by
                unfold Hid MsgP RecvB
                dsimp only
                rw [show ((n : Nat) : Int).toNat = n from Int.toNat_natCast n, HF.out]
                constructor
                · rintro (h | ⟨_, _, ⟨g, h1, h2⟩, h3⟩)
                  · exact absurd h.1 HK1.out
                  · cases h1; exact ⟨h2, h3⟩
                · exact fun h => Or.inr ⟨HK1.out, HA.out, ⟨_, rfl, h.1⟩, h.2⟩
              clear hcl3 hf hma hbad hA hsr hfw hmf
              go_upto_region 10 with fail
              clear f1 c8 y2
              go_cut [110] (fun t wx => wx = wc ∧ ∃ bad : Bool, t = .bool bad ∧ Hid (bad = false ↔ (xi ≤ 4294967295 ∧ (1 ≤ fl ∧ fl < 8 → xi / 2 ^ (8 * fl).toNat = 0))))
              case first =>
                by_cases hfl : 1 ≤ fl ∧ fl < 8
                · have hw8 : IntKind.i64.wrap (8 * fl) = 8 * fl := IntWalk.i64_in _ (by omega)
                  have h80 : (0 : Int) ≤ 8 * fl := by omega
                  have h81 : ¬ 8 * fl < 0 := by omega
                  have hq1 : 1 ≤ fl := hfl.1
                  have hq2 : fl < 8 := hfl.2
                  clear hfl
                  go_wp2_with fail
                  all_goals
                    go_meet
                    refine ⟨rfl, _, rfl, ?_⟩
                    unfold Hid
                    clear HWX
                    go_light
                    grind
                · go_wp2_with fail
                  all_goals first
                    | (go_meet
                       refine ⟨rfl, _, rfl, ?_⟩
                       unfold Hid
                       clear HWX
                       go_light
                       grind)
                    | (exfalso
                       go_light
                       grind)
              case rest =>
                obtain ⟨hwc, bad, rfl, hbad⟩ := hcut
                cases bad with
                | true =>
                  have hb := hbad.out
                  have HB : Hid (¬ MsgP T ⟨xk, xl, (n : Int), xi, xq, ak, at', am⟩) := fun h => by cases hb.2 (MP.out.1 h).1
                  clear hb hbad y3
                  subst hwc
                  go_wp2_with fail
                  go_ret
                  exact ⟨bool_no fun h => HB.out (h _ HMX.out), K0.out.then K4.out (fun _ x => x.elim)⟩
                | false =>
                  have HAB := Lib.hid (hbad.out.1 rfl)
                  subst hwc
                  clear hbad
                  have y0 := NR4.out.cell 0 rfl
                  have y4 := NR4.out.cell 4 rfl
                  go_upto_region 12 with fail
                  go_cut [138] (fun t wx => Hid (Kept (fun _ => False) w1 wx) ∧ ∃ bad : Bool, t = .bool bad ∧ Hid (bad = false ↔ RecvC ⟨xk, xl, (n : Int), xi, xq, ak, at', am⟩))
                  case first =>
                    go_wp2_with fail
                    all_goals
                      go_meet
                      refine ⟨K4, _, rfl, ?_⟩
                      unfold Hid RecvC
                      clear HWX
                      go_light
                      grind
                  case rest =>
                    obtain ⟨hk5, bad, rfl, hbad⟩ := hcut
                    cases bad with
                    | true =>
                      have hb := hbad.out
                      have HB : Hid (¬ MsgP T ⟨xk, xl, (n : Int), xi, xq, ak, at', am⟩) := fun h => by cases hb.2 (MP.out.1 h).2
                      clear hb hbad y0 y3 y4
                      go_wp2_with fail
                      go_ret
                      exact ⟨bool_no fun h => HB.out (h _ HMX.out), K0.out.then hk5.out (fun _ x => x.elim)⟩
                    | false =>
                      have HN : Hid (MsgP T ⟨xk, xl, (n : Int), xi, xq, ak, at', am⟩) := MP.out.2 ⟨HAB.out, hbad.out.1 rfl⟩
                      clear hbad y0 y3 y4
                      go_wp2_with fail
                      go_roundw
                      case rel => exact ⟨k + 1, by omega, by go_num, hk5, NXT.out HN.out⟩
                      case measure => simp [intOf]; omega
    · obtain rfl : k = T.msgs.length := by omega
      have hPC := hP.out
      rw [List.take_length] at hPC
      have HPC := Lib.hid hPC
      clear hP hPC
      go_wp2_with fail
      go_ret
      exact ⟨bool_yes HPC.out, K0.out.then hK.out (fun _ x => x.elim)⟩
end Go.Proofs.Ytnfpiocjdhipcaa.TC
