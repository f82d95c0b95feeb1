/- Package tick: Tick, Request, Serve. -/
import Derived.Test.YtemhfonneggneaaBdO
import Derived.BigRegion
import Derived.Laws.ResultCell
/- Package tick: Rel, Abs, Cancel, Left. PRINTED by genbdq.py. -/
namespace Go.Proofs.Ytemhfonneggneaa.BD
open Go.RowKit Go.Fr Go.Tb
open Go.Proofs.Ytemhfonneggneaa.CK (IsClk foot putL cancelL cycB until' ofA ofS rel_all abs_all cancel_all left_ok putL_length cancelL_length)
attribute [local go_sem] Oper.semAt_some
section
variable {w : World} {b : Nat} {M : Bm} {T : Tb} {C : List Cs} {R : List Bool}

set_option maxRecDepth 100000 in
set_option maxHeartbeats 2000000 in
theorem rel_in {i c : Nat} {x : AlarmR} {s : Cs} {t cy : Nat} (hs : IsBd w b M T C R) (hx : T.alarms[i]? = some x) (hxc : x.counter = (c : Int)) (hc : C[c]? = some s) (hl : T.alarms.length ≤ 64) (ht : t ≤ 4294967295) : Calls Try.prog 11 #[.pointer (some ⟨b, 0, none⟩), .int .i64 i, .int .u32 t, .int .u32 cy] w fun e w' =>
    e = .returned (.int .i64 (putL s.l (alsOf (T.alarms.take i) c).length (decide (1 ≤ t) && decide (t ≤ s.mx) && cycB s.mn s.mx cy) t cy).2) ∧ IsBd w' b M T (C.set c ⟨s.mx, s.mn, s.x, (putL s.l (alsOf (T.alarms.take i) c).length (decide (1 ≤ t) && decide (t ≤ s.mx) && cycB s.mn s.mx cy) t cy).1⟩) R ∧ Kept (bfoot b M) w w' := by
  have hcl : c < T.counters.length := by have := (List.getElem?_eq_some_iff.1 hc).1; have := hs.lens.2.2; omega
  have hof := of_in hs hx hxc hcl hl
  obtain ⟨s', cb, v, r, hs', hcb, hv, hr⟩ := hs.at hcl
  rw [hc] at hs'; cases hs'
  obtain ⟨p, hp⟩ : ∃ p : Nat, (alsOf (T.alarms.take i) c).length = p := ⟨_, rfl⟩
  rw [hp] at hof ⊢
  have HS := Lib.hid hs
  have HC := Lib.hid hc
  have HCB := Lib.hid hcb
  have HV := Lib.hid hv
  clear hs hc hcb hv hp hx hr
  go_enter Try.func11, Try.ntmps11
  go_upto_region 4 with (go_at_call 31; refine hof.mono ?_; rintro e w1 ⟨g, o, cc, e3, rfl, k1⟩)
  have hs1 := HS.out.same k1
  obtain ⟨g', o', cc', e3', hg, q0, q1⟩ := hs1.ctr HCB.out HV.out
  rw [e3] at e3'
  cases e3'
  have hk := hs1.clk c s cb HC.out HCB.out
  have HOP := Lib.hid (rel_all p t cy ht hk)
  have HS1 := Lib.hid hs1
  have K1 := Lib.hid k1
  clear hof k1 hs1 hk e3 q1
  go_wp2_with (go_at_call 33; refine HOP.out.mono ?_; rintro e w2 ⟨rfl, hk2, k2⟩)
  go_ret
  have hm := List.mem_of_getElem? HCB.out
  exact ⟨rfl, HS1.out.step HC.out HCB.out k2 hk2 (putL_length _ _ _ _ _), (K1.out.mono (S' := bfoot b M) (fun _ _ x => x.elim)).then (k2.mono (fun g _ hg => Or.inr (Or.inr ⟨cb, hm, hg⟩))) (fun _ h => Or.inl h)⟩
set_option maxRecDepth 100000 in
set_option maxHeartbeats 1000000 in
theorem rel_out {i : Int} {t cy : Nat} (hs : IsBd w b M T C R) (hi : ¬ (0 ≤ i ∧ i < T.alarms.length)) (hl : T.alarms.length ≤ 64) : Calls Try.prog 11 #[.pointer (some ⟨b, 0, none⟩), .int .i64 i, .int .u32 t, .int .u32 cy] w fun e w' => e = .returned (.int .i64 3) ∧ w = w' := by
  have hof := of_out hs hi hl
  clear hs hi
  go_enter Try.func11, Try.ntmps11
  go_wp2_with (go_at_call 31; refine hof.mono ?_; rintro e w1 ⟨rfl, rfl⟩)
  go_ret
  exact ⟨rfl, rfl⟩

set_option maxRecDepth 100000 in
set_option maxHeartbeats 2000000 in
theorem abs_in {i c : Nat} {x : AlarmR} {s : Cs} {t cy : Nat} (hs : IsBd w b M T C R) (hx : T.alarms[i]? = some x) (hxc : x.counter = (c : Int)) (hc : C[c]? = some s) (hl : T.alarms.length ≤ 64) (ht : t ≤ 4294967295) : Calls Try.prog 10 #[.pointer (some ⟨b, 0, none⟩), .int .i64 i, .int .u32 t, .int .u32 cy] w fun e w' =>
    e = .returned (.int .i64 (putL s.l (alsOf (T.alarms.take i) c).length (decide (t ≤ s.mx) && cycB s.mn s.mx cy) (until' s.mx s.x t) cy).2) ∧ IsBd w' b M T (C.set c ⟨s.mx, s.mn, s.x, (putL s.l (alsOf (T.alarms.take i) c).length (decide (t ≤ s.mx) && cycB s.mn s.mx cy) (until' s.mx s.x t) cy).1⟩) R ∧ Kept (bfoot b M) w w' := by
  have hcl : c < T.counters.length := by have := (List.getElem?_eq_some_iff.1 hc).1; have := hs.lens.2.2; omega
  have hof := of_in hs hx hxc hcl hl
  obtain ⟨s', cb, v, r, hs', hcb, hv, hr⟩ := hs.at hcl
  rw [hc] at hs'; cases hs'
  obtain ⟨p, hp⟩ : ∃ p : Nat, (alsOf (T.alarms.take i) c).length = p := ⟨_, rfl⟩
  rw [hp] at hof ⊢
  have HS := Lib.hid hs
  have HC := Lib.hid hc
  have HCB := Lib.hid hcb
  have HV := Lib.hid hv
  clear hs hc hcb hv hp hx hr
  go_enter Try.func10, Try.ntmps10
  go_upto_region 4 with (go_at_call 31; refine hof.mono ?_; rintro e w1 ⟨g, o, cc, e3, rfl, k1⟩)
  have hs1 := HS.out.same k1
  obtain ⟨g', o', cc', e3', hg, q0, q1⟩ := hs1.ctr HCB.out HV.out
  rw [e3] at e3'
  cases e3'
  have hk := hs1.clk c s cb HC.out HCB.out
  have HOP := Lib.hid (abs_all p t cy ht hk)
  have HS1 := Lib.hid hs1
  have K1 := Lib.hid k1
  clear hof k1 hs1 hk e3 q1
  go_wp2_with (go_at_call 32; refine HOP.out.mono ?_; rintro e w2 ⟨rfl, hk2, k2⟩)
  go_ret
  have hm := List.mem_of_getElem? HCB.out
  exact ⟨rfl, HS1.out.step HC.out HCB.out k2 hk2 (putL_length _ _ _ _ _), (K1.out.mono (S' := bfoot b M) (fun _ _ x => x.elim)).then (k2.mono (fun g _ hg => Or.inr (Or.inr ⟨cb, hm, hg⟩))) (fun _ h => Or.inl h)⟩
set_option maxRecDepth 100000 in
set_option maxHeartbeats 1000000 in
theorem abs_out {i : Int} {t cy : Nat} (hs : IsBd w b M T C R) (hi : ¬ (0 ≤ i ∧ i < T.alarms.length)) (hl : T.alarms.length ≤ 64) : Calls Try.prog 10 #[.pointer (some ⟨b, 0, none⟩), .int .i64 i, .int .u32 t, .int .u32 cy] w fun e w' => e = .returned (.int .i64 3) ∧ w = w' := by
  have hof := of_out hs hi hl
  clear hs hi
  go_enter Try.func10, Try.ntmps10
  go_wp2_with (go_at_call 31; refine hof.mono ?_; rintro e w1 ⟨rfl, rfl⟩)
  go_ret
  exact ⟨rfl, rfl⟩

set_option maxRecDepth 100000 in
set_option maxHeartbeats 2000000 in
theorem cancel_in {i c : Nat} {x : AlarmR} {s : Cs} (hs : IsBd w b M T C R) (hx : T.alarms[i]? = some x) (hxc : x.counter = (c : Int)) (hc : C[c]? = some s) (hl : T.alarms.length ≤ 64) : Calls Try.prog 12 #[.pointer (some ⟨b, 0, none⟩), .int .i64 i] w fun e w' =>
    e = .returned (.int .i64 (cancelL s.l (alsOf (T.alarms.take i) c).length).2) ∧ IsBd w' b M T (C.set c ⟨s.mx, s.mn, s.x, (cancelL s.l (alsOf (T.alarms.take i) c).length).1⟩) R ∧ Kept (bfoot b M) w w' := by
  have hcl : c < T.counters.length := by have := (List.getElem?_eq_some_iff.1 hc).1; have := hs.lens.2.2; omega
  have hof := of_in hs hx hxc hcl hl
  obtain ⟨s', cb, v, r, hs', hcb, hv, hr⟩ := hs.at hcl
  rw [hc] at hs'; cases hs'
  obtain ⟨p, hp⟩ : ∃ p : Nat, (alsOf (T.alarms.take i) c).length = p := ⟨_, rfl⟩
  rw [hp] at hof ⊢
  have HS := Lib.hid hs
  have HC := Lib.hid hc
  have HCB := Lib.hid hcb
  have HV := Lib.hid hv
  clear hs hc hcb hv hp hx hr
  go_enter Try.func12, Try.ntmps12
  go_upto_region 4 with (go_at_call 31; refine hof.mono ?_; rintro e w1 ⟨g, o, cc, e3, rfl, k1⟩)
  have hs1 := HS.out.same k1
  obtain ⟨g', o', cc', e3', hg, q0, q1⟩ := hs1.ctr HCB.out HV.out
  rw [e3] at e3'
  cases e3'
  have hk := hs1.clk c s cb HC.out HCB.out
  have HOP := Lib.hid (cancel_all p hk)
  have HS1 := Lib.hid hs1
  have K1 := Lib.hid k1
  clear hof k1 hs1 hk e3 q1
  go_wp2_with (go_at_call 34; refine HOP.out.mono ?_; rintro e w2 ⟨rfl, hk2, k2⟩)
  go_ret
  have hm := List.mem_of_getElem? HCB.out
  exact ⟨rfl, HS1.out.step HC.out HCB.out k2 hk2 (cancelL_length _ _), (K1.out.mono (S' := bfoot b M) (fun _ _ x => x.elim)).then (k2.mono (fun g _ hg => Or.inr (Or.inr ⟨cb, hm, hg⟩))) (fun _ h => Or.inl h)⟩
set_option maxRecDepth 100000 in
set_option maxHeartbeats 1000000 in
theorem cancel_out {i : Int} (hs : IsBd w b M T C R) (hi : ¬ (0 ≤ i ∧ i < T.alarms.length)) (hl : T.alarms.length ≤ 64) : Calls Try.prog 12 #[.pointer (some ⟨b, 0, none⟩), .int .i64 i] w fun e w' => e = .returned (.int .i64 3) ∧ w = w' := by
  have hof := of_out hs hi hl
  clear hs hi
  go_enter Try.func12, Try.ntmps12
  go_wp2_with (go_at_call 31; refine hof.mono ?_; rintro e w1 ⟨rfl, rfl⟩)
  go_ret
  exact ⟨rfl, rfl⟩

set_option maxRecDepth 100000 in
set_option maxHeartbeats 2000000 in
theorem left_in {i c : Nat} {x : AlarmR} {s : Cs} (hs : IsBd w b M T C R) (hx : T.alarms[i]? = some x) (hxc : x.counter = (c : Int)) (hc : C[c]? = some s) (hl : T.alarms.length ≤ 64) : Calls Try.prog 15 #[.pointer (some ⟨b, 0, none⟩), .int .i64 i] w fun e w' =>
    e = .returned (.tuple #[.int .u32 (IntKind.u32.wrap ((ofA s.l (alsOf (T.alarms.take i) c).length).2.1 : Int)), .int .i64 (ofS s.l (alsOf (T.alarms.take i) c).length)]) ∧ Kept (fun _ => False) w w' := by
  have hcl : c < T.counters.length := by have := (List.getElem?_eq_some_iff.1 hc).1; have := hs.lens.2.2; omega
  have hof := of_in hs hx hxc hcl hl
  obtain ⟨s', cb, v, r, hs', hcb, hv, hr⟩ := hs.at hcl
  rw [hc] at hs'; cases hs'
  obtain ⟨p, hp⟩ : ∃ p : Nat, (alsOf (T.alarms.take i) c).length = p := ⟨_, rfl⟩
  rw [hp] at hof ⊢
  have HS := Lib.hid hs
  have HC := Lib.hid hc
  have HCB := Lib.hid hcb
  have HV := Lib.hid hv
  clear hs hc hcb hv hp hx hr
  go_enter Try.func15, Try.ntmps15
  go_upto_region 4 with (go_at_call 31; refine hof.mono ?_; rintro e w1 ⟨g, o, cc, e3, rfl, k1⟩)
  have hs1 := HS.out.same k1
  obtain ⟨g', o', cc', e3', hg, q0, q1⟩ := hs1.ctr HCB.out HV.out
  rw [e3] at e3'
  cases e3'
  have HOP := Lib.hid (left_ok p (hs1.clk c s cb HC.out HCB.out))
  have K1 := Lib.hid k1
  clear hof k1 hs1 e3 q1
  go_wp2_with (go_at_call 35; refine HOP.out.mono ?_; rintro e w2 ⟨rfl, k2⟩)
  go_ret2
  exact ⟨rfl, K1.out.then k2 (fun _ x => x.elim)⟩
set_option maxRecDepth 100000 in
theorem left_out {i : Int} (hs : IsBd w b M T C R) (hi : ¬ (0 ≤ i ∧ i < T.alarms.length)) (hl : T.alarms.length ≤ 64) : Calls Try.prog 15 #[.pointer (some ⟨b, 0, none⟩), .int .i64 i] w fun e w' => e = .returned (.tuple #[.int .u32 0, .int .i64 3]) ∧ w = w' := by
  have hof := of_out hs hi hl
  clear hs hi
  go_enter Try.func15, Try.ntmps15
  go_wp2_with (go_at_call 31; refine hof.mono ?_; rintro e w1 ⟨rfl, rfl⟩)
  go_ret2
  exact ⟨rfl, rfl⟩
end
end Go.Proofs.Ytemhfonneggneaa.BD
/- Package tick: a board's Base; a tick of no counter. -/
namespace Go.Proofs.Ytemhfonneggneaa.BD
open Go.RowKit Go.Fr Go.Tb
open Go.Proofs.Ytemhfonneggneaa.CK (IsClk foot)
attribute [local go_sem] Oper.semAt_some

theorem cell_al {w : World} {p : Addr} {v : Value} (o : Obj) (h : w.cell? p = some v) : (w.alloc o).cell? p = some v :=
  (((Kept.refl (fun _ => False) w).alloc o).cell (World.block_lt_of_cell? w _ h) (fun x => x)).trans h
section
variable {w w' : World} {b : Nat} {M : Bm} {T : Tb} {C : List Cs} {R : List Bool}
theorem tick_out {i : Int} (hs : IsBd w b M T C R) (hi : ¬ (0 ≤ i ∧ i < T.counters.length)) : Calls Try.prog 9 #[.pointer (some ⟨b, 0, none⟩), .int .i64 i] w fun e w' => e = .returned (.tuple #[.slice none 0 0, .int .i64 2]) ∧ w = w' := by
  obtain ⟨a1, k1, a2, k2, a3, k3, a5, k5, _, _, _, _, _, _, _, _, _, c3, _⟩ := hs.heads
  have ha := alive_ok hs
  clear hs
  by_cases h : i < 0
  · have d0 : decide (i < 0) = true := by simpa using h
    go_enter Try.func9, Try.ntmps9
    go_wp2_with (go_at_call 29; refine ha.mono ?_; rintro e w1 ⟨rfl, rfl⟩)
    go_ret2
    exact ⟨rfl, rfl⟩
  · have d0 : decide (i < 0) = false := by simpa using h
    have d1 : decide ((T.counters.length : Int) ≤ i) = true := by rw [decide_eq_true_eq]; omega
    go_enter Try.func9, Try.ntmps9
    go_wp2_with (go_at_call 29; refine ha.mono ?_; rintro e w1 ⟨rfl, rfl⟩)
    go_ret2
    exact ⟨rfl, rfl⟩
set_option maxRecDepth 100000 in
theorem base_out {i : Int} (hs : IsBd w b M T C R) (hi : ¬ (0 ≤ i ∧ i < T.alarms.length)) (hl : T.alarms.length ≤ 64) : Calls Try.prog 40 #[.pointer (some ⟨b, 0, none⟩), .int .i64 i] w fun e w' => e = .returned (.tuple #[.agg #[.int .u32 0, .int .u32 0, .int .u32 0], .int .i64 3]) ∧ Kept (fun _ => False) w w' := by
  have hof := fun o : Obj => of_out (hs.same ((Kept.refl _ w).alloc o)) hi hl
  clear hs hi
  go_enter Try.func40, Try.ntmps40
  go_wp2_with (go_at_call 31; refine (hof _).mono ?_; rintro e w1 ⟨rfl, rfl⟩)
  refine bodyPost_ret (v := .tuple #[.agg #[.int .u32 0, .int .u32 0, .int .u32 0], .int .i64 3]) (by rw [results_cell_tmp rfl]; go_simp) rfl ⟨rfl, (Kept.refl _ w).alloc _⟩
set_option maxRecDepth 100000 in
set_option maxHeartbeats 2000000 in
theorem base_in {k c : Nat} {x : AlarmR} {mx bs mn : Int} (hs : IsBd w b M T C R) (hx : T.alarms[k]? = some x) (hxc : x.counter = (c : Int)) (hr : T.counters[c]? = some (mx, bs, mn)) (hl : T.alarms.length ≤ 64) (_ : T.counters.length ≤ 64) :
    Calls Try.prog 40 #[.pointer (some ⟨b, 0, none⟩), .int .i64 k] w fun e w' => e = .returned (.tuple #[.agg #[.int .u32 mx, .int .u32 bs, .int .u32 mn], .int .i64 0]) ∧ Kept (fun _ => False) w w' := by
  have hka : k < T.alarms.length := (List.getElem?_eq_some_iff.1 hx).1
  have hcc : c < T.counters.length := (List.getElem?_eq_some_iff.1 hr).1
  have hk0 : (0 : Int) ≤ (k : Int) := by omega
  have hk2 : (k : Int) < (T.alarms.length : Int) := by omega
  have hc0 : (0 : Int) ≤ (c : Int) := by omega
  have hc1 : (c : Int) < (T.counters.length : Int) := by omega
  have kA := (Kept.refl (fun _ => False) w).alloc (.cells #[.int .u32 0, .int .u32 0, .int .u32 0] 114)
  have nA := Blk.new w [.int .u32 0, .int .u32 0, .int .u32 0] 114
  obtain ⟨w1, hw1⟩ : ∃ w1, w.alloc (.cells #[.int .u32 0, .int .u32 0, .int .u32 0] 114) = w1 := ⟨_, rfl⟩
  obtain ⟨N, hN⟩ : ∃ N, w.heap.size = N := ⟨_, rfl⟩
  rw [hw1] at kA nA
  rw [hN] at nA
  have hs1 := hs.same kA
  have HOF := Lib.hid (of_in hs1 hx hxc hcc hl)
  have HS1 := Lib.hid hs1
  have HX := Lib.hid hx
  have HR := Lib.hid hr
  have HXC := Lib.hid hxc
  have NA := Lib.hid nA
  have KA := Lib.hid kA
  have HW1 := Lib.hid hw1
  have HN := Lib.hid hN
  clear hs hs1 hx hxc hr nA kA hw1 hN
  go_enter Try.func40, Try.ntmps40
  go_upto_region 1 with fail
  rw [HW1.out]
  try rw [HN.out]
  have hNle : Hid (w.heap.size ≤ N) := by rw [Hid, HN.out]; exact Nat.le_refl _
  clear HW1 HN
  go_wp2_with (go_at_call 31; refine HOF.out.mono ?_; rintro e w2 ⟨g, o, cc, e3, rfl, k2⟩)
  have hs2 := HS1.out.same k2
  obtain ⟨a1, k1, _, _, _, _, _, _, _, ha1, _, _, _, _, _, c1, _, _, _⟩ := hs2.heads
  obtain ⟨ar, kr, er, hrr⟩ := hs2.rows
  have c0 : w2.cell? ⟨b, 0, none⟩ = some (.slice ar T.counters.length kr) := by rw [← er]; exact hs2.blk.cell 0 rfl
  obtain ⟨b6, o6, h6, _, hl6⟩ := camel_at ha1 HX.out
  obtain ⟨b5, o5, h5, _, hl5⟩ := camel_at hrr HR.out
  rw [h6] at c1
  rw [h5] at c0
  have e0 := hl6 0 _ rfl
  have f0 := hl5 0 _ rfl
  have f1 := hl5 1 _ rfl
  have f2 := hl5 2 _ rfl
  simp only [Nat.add_zero] at e0 f0
  rw [HXC.out] at e0
  have KW := Lib.hid (KA.out.then k2 (fun _ x => x.elim))
  have NA2 := Lib.hid (NA.out.kept k2 (fun x => x))
  clear hs2 ha1 er hrr hl5 hl6 h5 h6 k2 e3 NA KA HOF
  go_cut [8] from 18 to 32 (fun q wx => ∃ g9, q = .pointer (some ⟨g9, 0, none⟩) ∧ wx.cell? ⟨g9, 0, none⟩ = some (.int .u32 mx) ∧ wx.cell? ⟨g9, 1, none⟩ = some (.int .u32 bs) ∧ wx.cell? ⟨g9, 2, none⟩ = some (.int .u32 mn) ∧ Hid (Kept (fun _ => False) w2 wx))
  case first =>
   as_aux_lemma =>
    have b0 : ∀ o : Obj, (w2.alloc o).cell? ⟨b, 0, none⟩ = _ := fun o => cell_al o c0
    have b1 : ∀ o : Obj, (w2.alloc o).cell? ⟨b, 1, none⟩ = _ := fun o => cell_al o c1
    have b2 : ∀ o : Obj, (w2.alloc o).cell? ⟨b6, o6 + k * 7, none⟩ = _ := fun o => cell_al o e0
    have b3 : ∀ o : Obj, (w2.alloc o).cell? ⟨b5, o5 + c * 3, none⟩ = _ := fun o => cell_al o f0
    have b4 : ∀ o : Obj, (w2.alloc o).cell? ⟨b5, o5 + c * 3 + 1, none⟩ = _ := fun o => cell_al o f1
    have b5' : ∀ o : Obj, (w2.alloc o).cell? ⟨b5, o5 + c * 3 + 2, none⟩ = _ := fun o => cell_al o f2
    go_region
    all_goals
      go_wp2_with fail
      go_meet
      have nb := Blk.new w2 [.int .u32 mx, .int .u32 bs, .int .u32 mn] 77
      exact ⟨_, rfl, nb.cell 0 rfl, nb.cell 1 rfl, nb.cell 2 rfl, by exact (((Kept.refl (fun _ => False) w2).alloc _).same rfl rfl rfl rfl)⟩
  case rest =>
    obtain ⟨g9, rfl, y0, y1, y2, hKw⟩ := hcut
    have nC := NA2.out.kept hKw.out (fun x => x)
    have z0 := nC.cell 0 rfl
    have z1 := nC.cell 1 rfl
    have z2 := nC.cell 2 rfl
    have v0 := nC.frozen 0
    have v1 := nC.frozen 1
    have v2 := nC.frozen 2
    clear c0 c1 e0 f0 f1 f2
    go_wp2_with fail
    have hN := hNle.out
    refine bodyPost_ret (v := .tuple #[.agg #[.int .u32 mx, .int .u32 bs, .int .u32 mn], .int .i64 0]) (by rw [results_cell_tmp rfl]; go_simp) rfl ⟨rfl, ?_⟩
    exact (((KW.out.then hKw.out (fun _ x => x.elim)).setCell (p := ⟨N, 0, none⟩) (Or.inr hN) _).setCell (p := ⟨N, 1, none⟩) (Or.inr hN) _).setCell (p := ⟨N, 2, none⟩) (Or.inr hN) _
end
end Go.Proofs.Ytemhfonneggneaa.BD
namespace Go.Proofs.Ytemhfonneggneaa.BD
open Go.RowKit Go.Fr Go.Tb
open Go.Proofs.Ytemhfonneggneaa.CK (IsClk foot fired tick1 after fired_length fired_mem)
attribute [local go_sem] Oper.semAt_some

theorem infoI : (Try.prog.info? 3).map (fun i => (i.zero, i.size, i.bytes)) = some (some (.int .i64 0), 1, 8) := by kernel_rfl
/-- numbers in a slice of the call's own -/
structure Ob (w wr : World) (ao : Option Addr) (c : Nat) (O : List Int) : Prop where
  row : Row wr 3 1 (.slice ao O.length c) O.length (O.map (Value.int .i64))
  own : ∀ g, (Value.slice ao O.length c).ownBlock = some g → w.heap.size ≤ g
theorem Ob.same {w wr wf : World} {ao : Option Addr} {c : Nat} {O : List Int} (h : Ob w wr ao c O) (k : Kept (fun _ => False) wr wf) : Ob w wf ao c O := ⟨row_kept h.row k (fun _ _ x => x), h.own⟩
theorem ob_nil (w : World) : Ob w w none 0 [] := ⟨World.ownsRow_nil _ _ _ _, by simp [Value.ownBlock]⟩
theorem Ob.snoc {w wr wf : World} {ao ao' : Option Addr} {c c' : Nat} {O : List Int} {x : Int} {te : TypeId} {cs : List Value} (h : Ob w wr ao c O) (hw : w.heap.size ≤ wr.heap.size)
    (r1 : Row wf 3 1 (.slice ao' (O.length + 1) c') (O.length + 1) (O.map (Value.int .i64) ++ [.int .i64 x])) (r3 : ∀ g, (Value.slice ao' (O.length + 1) c').ownBlock = some g → (Value.slice ao O.length c).ownBlock = some g ∨ (wr.alloc (.cells cs.toArray te)).heap.size ≤ g) : Ob w wf ao' c' (O ++ [x]) := by
  have hl : (O ++ [x]).length = O.length + 1 := by simp
  refine ⟨?_, ?_⟩
  · rw [hl, List.map_append]; exact r1
  · rw [hl]
    intro g hg
    rcases r3 g hg with h1 | h1
    · exact h.own g h1
    · rw [World.size_alloc] at h1; omega

/-- the alarms that stand at places -/
def told (T : Tb) (c : Int) (F : List Int) : List Int := F.map (fun p => ((alsOf T.alarms c)[p.toNat]?).getD 0)
theorem told_len (T : Tb) (c : Int) (F : List Int) : (told T c F).length = F.length := by simp [told]
theorem told_take {T : Tb} {c : Int} {F : List Int} {k : Nat} {p : Int} {a : Int} (h : F[k]? = some p) (ha : (alsOf T.alarms c)[p.toNat]? = some a) : told T c (F.take (k + 1)) = told T c (F.take k) ++ [a] := by
  rw [List.take_add_one, h]; simp [told, ha]

section
variable {w : World} {b : Nat} {M : Bm} {T : Tb} {C : List Cs} {R : List Bool}

set_option maxRecDepth 100000 in
set_option maxHeartbeats 4000000 in
theorem tick_in {c : Nat} {s : Cs} (hs : IsBd w b M T C R) (hc : C[c]? = some s) (hl : T.counters.length ≤ 64) : Calls Try.prog 9 #[.pointer (some ⟨b, 0, none⟩), .int .i64 c] w fun e w' =>
    ∃ ao cc, e = .returned (.tuple #[.slice ao (fired s.l 0).length cc, .int .i64 0]) ∧ Ob w w' ao cc (told T c (fired s.l 0)) ∧ IsBd w' b M T (C.set c ⟨s.mx, s.mn, after s.mx s.x 1, s.l.map tick1⟩) R ∧ Kept (bfoot b M) w w' := by
  obtain ⟨i0, hi, hz0, hz1, hz2⟩ := info_parts infoI
  have hcl : c < T.counters.length := by have := (List.getElem?_eq_some_iff.1 hc).1; have := hs.lens.2.2; omega
  obtain ⟨s', cb, v, r, hs', hcb, hv, hr⟩ := hs.at hcl
  rw [hc] at hs'; cases hs'
  obtain ⟨_, _, _, _, a3, k3, _, _, _, _, _, _, e3, _, _, _, _, c3, _⟩ := hs.heads
  obtain ⟨g, o, cc, e3', hg, q0, q1⟩ := hs.ctr hcb hv
  rw [e3] at e3'
  cases e3'
  have ha := alive_ok hs
  have h64 : s.l.length ≤ 64 := (hs.clk c s cb hc hcb).2.2.2.hlen
  have hnl := (hs.nums c s r hc hr).2.2
  obtain ⟨av, ak, rfl, hav⟩ := hs.sls c v hv
  have kA := (Kept.refl (fun _ => False) w).alloc (.cells #[.pointer (some ⟨cb.1, 0, none⟩), .slice av (alsOf T.alarms c).length ak] 87)
  have nA := Blk.new w [.pointer (some ⟨cb.1, 0, none⟩), .slice av (alsOf T.alarms c).length ak] 87
  have hs1 := hs.same kA
  have hT := CK.tick_ok (hs1.clk c s cb hc hcb)
  have hfl := fired_length s.l 0
  have hfm := fired_mem s.l 0
  have i1 : (0 : Int) ≤ (c : Int) := by omega
  have i2 : (c : Int) < (T.counters.length : Int) := by omega
  have d1 : decide ((T.counters.length : Int) ≤ (c : Int)) = false := by simp; omega
  have d2 : decide (T.counters.length ≤ c) = false := by simp; omega
  obtain ⟨A, hA⟩ : ∃ A, alsOf T.alarms (c : Int) = A := ⟨_, rfl⟩
  rw [hA] at kA nA hnl hav q1
  rw [hA] at hs1 hT
  have HLT := Lib.hid hs.lt
  have HS := Lib.hid hs1
  have HC := Lib.hid hc
  have HCB := Lib.hid hcb
  have HA := Lib.hid hA
  have HV := Lib.hid hv
  have HFM := Lib.hid hfm
  have KA := Lib.hid kA
  have NA := Lib.hid nA
  have HAV := Lib.hid hav
  clear hs hs1 hc hcb hA hv hr kA nA hav hfm
  go_enter Try.func9, Try.ntmps9
  go_upto_region 6 with (go_at_call 29; refine ha.mono ?_; rintro e w' ⟨rfl, rfl⟩)
  obtain ⟨w1, hw1⟩ : ∃ w1, w.alloc (.cells #[.pointer (some ⟨cb.1, 0, none⟩), .slice av A.length ak] 87) = w1 := ⟨_, rfl⟩
  obtain ⟨N, hN⟩ : ∃ N, w.heap.size = N := ⟨_, rfl⟩
  rw [hw1] at HS KA NA hT ⊢
  rw [hN] at NA
  try rw [hN]
  have y0 := NA.out.cell 0 rfl
  have HLN : Hid (∀ g, bfoot b M g → g < N) := fun g hg => by rw [← hN]; exact HLT.out g hg
  have HNW : Hid (w.heap.size = N) := hN
  clear hw1 hN ha c3 q0 q1 d1 d2 HLT
  go_upto_region 8 with (go_at_call 30; refine hT.mono ?_; rintro e w2 ⟨ao, ck, rfl, hk2, k2, r2, o2⟩)
  have hk2' := HS.out.step HC.out HCB.out k2 hk2 (by rw [List.length_map])
  have hm := List.mem_of_getElem? HCB.out
  have kf : Kept (bfoot b M) w1 w2 := k2.mono (fun g _ hg => Or.inr (Or.inr ⟨cb, hm, hg⟩))
  have NA2 := Lib.hid (NA.out.kept k2 (fun hg => by have := HLN.out N (Or.inr (Or.inr ⟨cb, hm, hg⟩)); omega))
  obtain ⟨av', ak', e, hav2⟩ := hk2'.sls c _ HV.out
  rw [HA.out] at e hav2
  cases e
  have HAV2 := Lib.hid hav2
  have HS2 := Lib.hid hk2'
  have KW := Lib.hid (((KA.out.mono (S' := bfoot b M) (fun _ _ x => x.elim)).then kf (fun _ h => Or.inl h)))
  have hw2 : w.heap.size ≤ w2.heap.size := KW.out.size
  have B0 : Hid (Ob w2 w2 none 0 (told T c ((fired s.l 0).take 0))) := ⟨World.ownsRow_nil _ _ _ _, by simp [Value.ownBlock, told]⟩
  obtain ⟨F, hF⟩ : ∃ F, fired s.l 0 = F := ⟨_, rfl⟩
  rw [hF] at B0 r2 o2 hfl HFM ⊢
  have HR2 := Lib.hid r2
  have HFF := Lib.hid hF
  clear hk2' hk2 k2 kf hav2 r2 hF HS hT y0 NA HAV KA
  go_loopw [7, 37] (fun l i wx => ∃ (k : Nat) (ao : Option Addr) (c' : Nat), k ≤ F.length ∧ i = .int .i64 k ∧ l = .slice ao (told T c (F.take k)).length c' ∧ Hid (Kept (fun _ => False) w2 wx) ∧ Hid (Ob w2 wx ao c' (told T c (F.take k)))) (fun _ i _ => F.length - (intOf i).toNat)
  case atStart => exact ⟨0, none, 0, Nat.zero_le _, rfl, rfl, Kept.refl _ _, B0⟩
  case round =>
    clear B0
    obtain ⟨k, ao1, c1, hk, rfl, rfl, hK, hO⟩ := hrel
    by_cases hkl : k < F.length
    · obtain ⟨p, hp, hpm⟩ := at_of hkl
      have hpb := HFM.out p hpm
      obtain ⟨n, rfl⟩ := Int.eq_ofNat_of_zero_le (a := p) (by omega)
      obtain ⟨a, ha, _⟩ := at_of (l := A) (k := n) (by omega)
      have hk0 : (0 : Int) ≤ (k : Int) := by omega
      have hk1 : (k : Int) < (F.length : Int) := by omega
      have n0 : (0 : Int) ≤ (n : Int) := by omega
      have n1 : (n : Int) < (A.length : Int) := by omega
      have hrow := row_kept HR2.out hK.out (fun _ _ x => x)
      rcases row_forms hrow with ⟨_, h0⟩ | ⟨gf, cf, hv, _⟩
      · omega
      cases hv
      have f0 := row_cell hrow k (by rw [List.getElem?_map, hp]; rfl)
      obtain ⟨b2, o2', rfl, _, f2⟩ := camel_one (camel_same HAV2.out hK.out) ha rfl
      have y1 := (NA2.out.kept hK.out (fun x => x)).cell 1 rfl
      have htk : told T c (F.take (k + 1)) = told T c (F.take k) ++ [a] := told_take hp (by rw [HA.out, Int.toNat_natCast]; exact ha)
      have hle : (told T c (F.take k)).length ≤ 64 := by rw [told_len, List.length_take]; omega
      obtain ⟨O, hO'⟩ : ∃ O, told T c (F.take k) = O := ⟨_, rfl⟩
      rw [hO'] at hO htk hle ⊢
      have HTK := Lib.hid htk
      have hsz := hK.out.size
      clear htk hO' hrow hp hpm ha
      go_wp2_with (at_builtin; refine wpList_append_any rfl (.tmp 41) (.tmp 47) 40 rfl 3 i0 (.int .i64 0) 1 8 Try.underlying40 hi hz0 hz1 hz2 rfl (by decide) _ _ _ (O.map (Value.int .i64)) rfl (row_alloc hO.out.row _) _ 1 1 [.int .i64 a] rfl (shows_new _ [_] _ (by simp) rfl) (by simp [Value.oneCell']) (by unfold maxLen; omega) (by omega) ?_; intro ao5 c5 w5 r1 r2 r3)
      have hO5 := Lib.hid (hO.out.snoc hsz r1 r3)
      have kc : Kept (fun _ => False) w2 w5 := hK.out.then ((((Kept.refl _ wr).alloc _).grown r2 (fun i e => Or.inl e)) : Kept (fun i => (Value.slice ao1 O.length c1).ownBlock = some i) wr w5) (fun i e => Or.inr (hO.out.own i e))
      have KC := Lib.hid kc
      have hl5 : O.length + 1 = (told T c (F.take (k + 1))).length := by rw [HTK.out]; simp
      have HL5 := Lib.hid hl5
      have O5 : Hid (Ob w2 w5 ao5 c5 (told T c (F.take (k + 1)))) := by unfold Hid; rw [HTK.out]; exact hO5.out
      clear r1 r2 r3 hO5 kc hl5 hO
      go_wp2_with fail
      go_roundw
      case rel => exact ⟨k + 1, ao5, c5, by omega, by go_num, by rw [HL5.out], KC, O5⟩
      case measure => simp [intOf]; omega
    · obtain rfl : k = F.length := by omega
      rw [List.take_length] at hO ⊢
      rw [told_len]
      have hO2 := hO.out
      go_wp2_with fail
      go_ret2
      rw [HFF.out]
      exact ⟨ao1, c1, rfl, ⟨hO2.row, fun g hg => Nat.le_trans hw2 (hO2.own g hg)⟩, HS2.out.same hK.out, KW.out.then hK.out (fun _ x => x.elim)⟩
set_option maxRecDepth 100000 in
set_option maxHeartbeats 2000000 in
theorem request_ok {i : Int} (hs : IsBd w b M T C R) (hl : T.isrs.length ≤ 32) : Calls Try.prog 13 #[.pointer (some ⟨b, 0, none⟩), .int .i64 i] w fun e w' =>
    ∃ R', e = .returned (.int .i64 (if 0 ≤ i ∧ i < T.isrs.length then 0 else 3)) ∧ IsBd w' b M T C R' ∧ (R' = if 0 ≤ i ∧ i < T.isrs.length then R.set i.toNat true else R) ∧ Kept (bfoot b M) w w' := by
  obtain ⟨_, _, _, _, _, _, a5, k5, _, _, _, _, _, _, _, _, _, _, c5⟩ := hs.heads
  have ha := alive_ok hs
  by_cases h : 0 ≤ i ∧ i < T.isrs.length
  · obtain ⟨n, rfl⟩ := Int.eq_ofNat_of_zero_le (a := i) h.1
    have hn : n < T.isrs.length := by omega
    have n0 : (0 : Int) ≤ (n : Int) := by omega
    have n1 : (n : Int) < 32 := by omega
    have n2 : (n : Int) < (T.isrs.length : Int) := by omega
    have d1 : decide ((T.isrs.length : Int) ≤ (n : Int)) = false := by simp; omega
    have d2 : decide (T.isrs.length ≤ n) = false := by simp; omega
    rw [if_pos h, if_pos h, Int.toNat_natCast]
    obtain ⟨r0, hr0⟩ : ∃ r, R[n]? = some r := ⟨_, List.getElem?_eq_getElem (by have := hs.n32; omega)⟩
    have q0 := hs.blk.cell (6 + n) (bcells_req hr0)
    have q1 := hs.blk.frozen (6 + n)
    have hs2 := hs.req (i := n) (by omega) true
    have HS2 := Lib.hid hs2
    have KK : Hid (Kept (bfoot b M) w (w.setCell ⟨b, 6 + n, none⟩ (.bool true))) := (Kept.refl (bfoot b M) w).setCell (p := ⟨b, 6 + n, none⟩) (Or.inl (Or.inl rfl)) _
    clear hs hs2 h hr0
    go_enter Try.func13, Try.ntmps13
    go_wp2_with (go_at_call 29; refine ha.mono ?_; rintro e w' ⟨rfl, rfl⟩)
    go_ret
    exact ⟨_, rfl, HS2.out, rfl, KK.out⟩
  · rw [if_neg h, if_neg h]
    have HS := Lib.hid hs
    clear hs
    by_cases h0 : i < 0
    · have d0 : decide (i < 0) = true := by simpa using h0
      clear h h0
      go_enter Try.func13, Try.ntmps13
      go_wp2_with (go_at_call 29; refine ha.mono ?_; rintro e w' ⟨rfl, rfl⟩)
      go_ret
      exact ⟨R, rfl, HS.out, rfl, Kept.refl _ _⟩
    · have d0 : decide (i < 0) = false := by simpa using h0
      have d1 : decide ((T.isrs.length : Int) ≤ i) = true := by simp; omega
      clear h h0
      go_enter Try.func13, Try.ntmps13
      go_wp2_with (go_at_call 29; refine ha.mono ?_; rintro e w' ⟨rfl, rfl⟩)
      go_ret
      exact ⟨R, rfl, HS.out, rfl, Kept.refl _ _⟩

set_option maxRecDepth 100000 in
set_option maxHeartbeats 2000000 in
theorem serve_ok {i : Int} (hs : IsBd w b M T C R) (hl : T.isrs.length ≤ 32) : Calls Try.prog 14 #[.pointer (some ⟨b, 0, none⟩), .int .i64 i] w fun e w' =>
    ∃ R', e = .returned (.int .i64 (if 0 ≤ i ∧ i < T.isrs.length ∧ R[i.toNat]? = some true then 0 else 2)) ∧ IsBd w' b M T C R' ∧ (R' = if 0 ≤ i ∧ i < T.isrs.length ∧ R[i.toNat]? = some true then R.set i.toNat false else R) ∧ Kept (bfoot b M) w w' := by
  obtain ⟨_, _, _, _, _, _, a5, k5, _, _, _, _, _, _, _, _, _, _, c5⟩ := hs.heads
  have ha := alive_ok hs
  by_cases h : 0 ≤ i ∧ i < T.isrs.length
  · obtain ⟨n, rfl⟩ := Int.eq_ofNat_of_zero_le (a := i) h.1
    have hn : n < T.isrs.length := by omega
    have n0 : (0 : Int) ≤ (n : Int) := by omega
    have n1 : (n : Int) < 32 := by omega
    have n2 : (n : Int) < (T.isrs.length : Int) := by omega
    have d1 : decide ((T.isrs.length : Int) ≤ (n : Int)) = false := by simp; omega
    have d2 : decide (T.isrs.length ≤ n) = false := by simp; omega
    obtain ⟨r0, hr0⟩ : ∃ r, R[n]? = some r := ⟨_, List.getElem?_eq_getElem (by have := hs.n32; omega)⟩
    have q0 := hs.blk.cell (6 + n) (bcells_req hr0)
    have q1 := hs.blk.frozen (6 + n)
    rw [Int.toNat_natCast, hr0]
    cases r0 with
    | true =>
      rw [if_pos ⟨h.1, h.2, rfl⟩, if_pos ⟨h.1, h.2, rfl⟩]
      have hs2 := hs.req (i := n) (by omega) false
      have HS2 := Lib.hid hs2
      have KK : Hid (Kept (bfoot b M) w (w.setCell ⟨b, 6 + n, none⟩ (.bool false))) := (Kept.refl (bfoot b M) w).setCell (p := ⟨b, 6 + n, none⟩) (Or.inl (Or.inl rfl)) _
      clear hs hs2 h hr0
      go_enter Try.func14, Try.ntmps14
      go_wp2_with (go_at_call 29; refine ha.mono ?_; rintro e w' ⟨rfl, rfl⟩)
      go_ret
      exact ⟨_, rfl, HS2.out, rfl, KK.out⟩
    | false =>
      rw [if_neg (fun h => by cases h.2.2), if_neg (fun h => by cases h.2.2)]
      have HS := Lib.hid hs
      clear hs h hr0
      go_enter Try.func14, Try.ntmps14
      go_wp2_with (go_at_call 29; refine ha.mono ?_; rintro e w' ⟨rfl, rfl⟩)
      go_ret
      exact ⟨R, rfl, HS.out, rfl, Kept.refl _ _⟩
  · rw [if_neg (fun x => h ⟨x.1, x.2.1⟩), if_neg (fun x => h ⟨x.1, x.2.1⟩)]
    have HS := Lib.hid hs
    clear hs
    by_cases h0 : i < 0
    · have d0 : decide (i < 0) = true := by simpa using h0
      clear h h0
      go_enter Try.func14, Try.ntmps14
      go_wp2_with (go_at_call 29; refine ha.mono ?_; rintro e w' ⟨rfl, rfl⟩)
      go_ret
      exact ⟨R, rfl, HS.out, rfl, Kept.refl _ _⟩
    · have d0 : decide (i < 0) = false := by simpa using h0
      have d1 : decide ((T.isrs.length : Int) ≤ i) = true := by simp; omega
      clear h h0
      go_enter Try.func14, Try.ntmps14
      go_wp2_with (go_at_call 29; refine ha.mono ?_; rintro e w' ⟨rfl, rfl⟩)
      go_ret
      exact ⟨R, rfl, HS.out, rfl, Kept.refl _ _⟩
end
end Go.Proofs.Ytemhfonneggneaa.BD
