/- Package tick: Rel, Abs, Cancel, Left. PRINTED by genbdq.py. -/
import Derived.Test.YtemhfonneggneaaBdO
namespace Go.Proofs.Ytemhfonneggneaa.BD
open Go.RowKit Go.Fr Go.Tb
open Go.Proofs.Ytemhfonneggneaa.CK (IsClk foot putL cancelL cycB until' ofA ofS rel_all abs_all cancel_all left_ok putL_length cancelL_length)
attribute [local go_sem] Oper.semAt_some
section
variable {w : World} {b : Nat} {M : Bm} {T : Tb} {C : List Cs} {R : List Bool}

set_option maxRecDepth 100000 in
set_option maxHeartbeats 2000000 in
theorem rel_in {i c : Nat} {x : AlarmR} {s : Cs} {t cy : Nat} (hs : IsBd w b M T C R) (hx : T.alarms[i]? = some x) (hxc : x.counter = (c : Int)) (hc : C[c]? = some s) (hl : T.alarms.length ≤ 64) (ht : t ≤ 4294967295) : Calls Try.prog 11 #[.pointer (some ⟨b, 0, none⟩), .int .i64 i, .int .u32 t, .int .u32 cy] w fun e w' =>
    e = .returned (.int .i64 (putL s.l (alsOf (T.alarms.take i) c).length (decide (1 ≤ t) && decide (t ≤ s.mx) && cycB s.mn s.mx cy) t cy).2) ∧ IsBd w' b M T (C.set c ⟨s.mx, s.mn, s.x, (putL s.l (alsOf (T.alarms.take i) c).length (decide (1 ≤ t) && decide (t ≤ s.mx) && cycB s.mn s.mx cy) t cy).1⟩) R ∧ Kept (bfoot b M) w w' := by
  have hcl : c < T.counters.length := by have := (List.getElem?_eq_some_iff.1 hc).1; have := hs.lens.2.2; omega
  have hof := of_in hs hx hxc hcl hl
  obtain ⟨s', cb, v, r, hs', hcb, hv, hr⟩ := hs.at hcl
  rw [hc] at hs'; cases hs'
  obtain ⟨p, hp⟩ : ∃ p : Nat, (alsOf (T.alarms.take i) c).length = p := ⟨_, rfl⟩
  rw [hp] at hof ⊢
  have HS := Lib.hid hs
  have HC := Lib.hid hc
  have HCB := Lib.hid hcb
  have HV := Lib.hid hv
  clear hs hc hcb hv hp hx hr
  go_enter Try.func11, Try.ntmps11
  go_upto_region 4 with (go_at_call 31; refine hof.mono ?_; rintro e w1 ⟨g, o, cc, e3, rfl, k1⟩)
  have hs1 := HS.out.same k1
  obtain ⟨g', o', cc', e3', hg, q0, q1⟩ := hs1.ctr HCB.out HV.out
  rw [e3] at e3'
  cases e3'
  have hk := hs1.clk c s cb HC.out HCB.out
  have HOP := Lib.hid (rel_all p t cy ht hk)
  have HS1 := Lib.hid hs1
  have K1 := Lib.hid k1
  clear hof k1 hs1 hk e3 q1
  go_wp2_with (go_at_call 33; refine HOP.out.mono ?_; rintro e w2 ⟨rfl, hk2, k2⟩)
  go_ret
  have hm := List.mem_of_getElem? HCB.out
  exact ⟨rfl, HS1.out.step HC.out HCB.out k2 hk2 (putL_length _ _ _ _ _), (K1.out.mono (S' := bfoot b M) (fun _ _ x => x.elim)).then (k2.mono (fun g _ hg => Or.inr (Or.inr ⟨cb, hm, hg⟩))) (fun _ h => Or.inl h)⟩
set_option maxRecDepth 100000 in
set_option maxHeartbeats 1000000 in
theorem rel_out {i : Int} {t cy : Nat} (hs : IsBd w b M T C R) (hi : ¬ (0 ≤ i ∧ i < T.alarms.length)) (hl : T.alarms.length ≤ 64) : Calls Try.prog 11 #[.pointer (some ⟨b, 0, none⟩), .int .i64 i, .int .u32 t, .int .u32 cy] w fun e w' => e = .returned (.int .i64 3) ∧ w = w' := by
  have hof := of_out hs hi hl
  clear hs hi
  go_enter Try.func11, Try.ntmps11
  go_wp2_with (go_at_call 31; refine hof.mono ?_; rintro e w1 ⟨rfl, rfl⟩)
  go_ret
  exact ⟨rfl, rfl⟩

set_option maxRecDepth 100000 in
set_option maxHeartbeats 2000000 in
theorem abs_in {i c : Nat} {x : AlarmR} {s : Cs} {t cy : Nat} (hs : IsBd w b M T C R) (hx : T.alarms[i]? = some x) (hxc : x.counter = (c : Int)) (hc : C[c]? = some s) (hl : T.alarms.length ≤ 64) (ht : t ≤ 4294967295) : Calls Try.prog 10 #[.pointer (some ⟨b, 0, none⟩), .int .i64 i, .int .u32 t, .int .u32 cy] w fun e w' =>
    e = .returned (.int .i64 (putL s.l (alsOf (T.alarms.take i) c).length (decide (t ≤ s.mx) && cycB s.mn s.mx cy) (until' s.mx s.x t) cy).2) ∧ IsBd w' b M T (C.set c ⟨s.mx, s.mn, s.x, (putL s.l (alsOf (T.alarms.take i) c).length (decide (t ≤ s.mx) && cycB s.mn s.mx cy) (until' s.mx s.x t) cy).1⟩) R ∧ Kept (bfoot b M) w w' := by
  have hcl : c < T.counters.length := by have := (List.getElem?_eq_some_iff.1 hc).1; have := hs.lens.2.2; omega
  have hof := of_in hs hx hxc hcl hl
  obtain ⟨s', cb, v, r, hs', hcb, hv, hr⟩ := hs.at hcl
  rw [hc] at hs'; cases hs'
  obtain ⟨p, hp⟩ : ∃ p : Nat, (alsOf (T.alarms.take i) c).length = p := ⟨_, rfl⟩
  rw [hp] at hof ⊢
  have HS := Lib.hid hs
  have HC := Lib.hid hc
  have HCB := Lib.hid hcb
  have HV := Lib.hid hv
  clear hs hc hcb hv hp hx hr
  go_enter Try.func10, Try.ntmps10
  go_upto_region 4 with (go_at_call 31; refine hof.mono ?_; rintro e w1 ⟨g, o, cc, e3, rfl, k1⟩)
  have hs1 := HS.out.same k1
  obtain ⟨g', o', cc', e3', hg, q0, q1⟩ := hs1.ctr HCB.out HV.out
  rw [e3] at e3'
  cases e3'
  have hk := hs1.clk c s cb HC.out HCB.out
  have HOP := Lib.hid (abs_all p t cy ht hk)
  have HS1 := Lib.hid hs1
  have K1 := Lib.hid k1
  clear hof k1 hs1 hk e3 q1
  go_wp2_with (go_at_call 32; refine HOP.out.mono ?_; rintro e w2 ⟨rfl, hk2, k2⟩)
  go_ret
  have hm := List.mem_of_getElem? HCB.out
  exact ⟨rfl, HS1.out.step HC.out HCB.out k2 hk2 (putL_length _ _ _ _ _), (K1.out.mono (S' := bfoot b M) (fun _ _ x => x.elim)).then (k2.mono (fun g _ hg => Or.inr (Or.inr ⟨cb, hm, hg⟩))) (fun _ h => Or.inl h)⟩
set_option maxRecDepth 100000 in
set_option maxHeartbeats 1000000 in
theorem abs_out {i : Int} {t cy : Nat} (hs : IsBd w b M T C R) (hi : ¬ (0 ≤ i ∧ i < T.alarms.length)) (hl : T.alarms.length ≤ 64) : Calls Try.prog 10 #[.pointer (some ⟨b, 0, none⟩), .int .i64 i, .int .u32 t, .int .u32 cy] w fun e w' => e = .returned (.int .i64 3) ∧ w = w' := by
  have hof := of_out hs hi hl
  clear hs hi
  go_enter Try.func10, Try.ntmps10
  go_wp2_with (go_at_call 31; refine hof.mono ?_; rintro e w1 ⟨rfl, rfl⟩)
  go_ret
  exact ⟨rfl, rfl⟩

set_option maxRecDepth 100000 in
set_option maxHeartbeats 2000000 in
theorem cancel_in {i c : Nat} {x : AlarmR} {s : Cs} (hs : IsBd w b M T C R) (hx : T.alarms[i]? = some x) (hxc : x.counter = (c : Int)) (hc : C[c]? = some s) (hl : T.alarms.length ≤ 64) : Calls Try.prog 12 #[.pointer (some ⟨b, 0, none⟩), .int .i64 i] w fun e w' =>
    e = .returned (.int .i64 (cancelL s.l (alsOf (T.alarms.take i) c).length).2) ∧ IsBd w' b M T (C.set c ⟨s.mx, s.mn, s.x, (cancelL s.l (alsOf (T.alarms.take i) c).length).1⟩) R ∧ Kept (bfoot b M) w w' := by
  have hcl : c < T.counters.length := by have := (List.getElem?_eq_some_iff.1 hc).1; have := hs.lens.2.2; omega
  have hof := of_in hs hx hxc hcl hl
  obtain ⟨s', cb, v, r, hs', hcb, hv, hr⟩ := hs.at hcl
  rw [hc] at hs'; cases hs'
  obtain ⟨p, hp⟩ : ∃ p : Nat, (alsOf (T.alarms.take i) c).length = p := ⟨_, rfl⟩
  rw [hp] at hof ⊢
  have HS := Lib.hid hs
  have HC := Lib.hid hc
  have HCB := Lib.hid hcb
  have HV := Lib.hid hv
  clear hs hc hcb hv hp hx hr
  go_enter Try.func12, Try.ntmps12
  go_upto_region 4 with (go_at_call 31; refine hof.mono ?_; rintro e w1 ⟨g, o, cc, e3, rfl, k1⟩)
  have hs1 := HS.out.same k1
  obtain ⟨g', o', cc', e3', hg, q0, q1⟩ := hs1.ctr HCB.out HV.out
  rw [e3] at e3'
  cases e3'
  have hk := hs1.clk c s cb HC.out HCB.out
  have HOP := Lib.hid (cancel_all p hk)
  have HS1 := Lib.hid hs1
  have K1 := Lib.hid k1
  clear hof k1 hs1 hk e3 q1
  go_wp2_with (go_at_call 34; refine HOP.out.mono ?_; rintro e w2 ⟨rfl, hk2, k2⟩)
  go_ret
  have hm := List.mem_of_getElem? HCB.out
  exact ⟨rfl, HS1.out.step HC.out HCB.out k2 hk2 (cancelL_length _ _), (K1.out.mono (S' := bfoot b M) (fun _ _ x => x.elim)).then (k2.mono (fun g _ hg => Or.inr (Or.inr ⟨cb, hm, hg⟩))) (fun _ h => Or.inl h)⟩
set_option maxRecDepth 100000 in
set_option maxHeartbeats 1000000 in
theorem cancel_out {i : Int} (hs : IsBd w b M T C R) (hi : ¬ (0 ≤ i ∧ i < T.alarms.length)) (hl : T.alarms.length ≤ 64) : Calls Try.prog 12 #[.pointer (some ⟨b, 0, none⟩), .int .i64 i] w fun e w' => e = .returned (.int .i64 3) ∧ w = w' := by
  have hof := of_out hs hi hl
  clear hs hi
  go_enter Try.func12, Try.ntmps12
  go_wp2_with (go_at_call 31; refine hof.mono ?_; rintro e w1 ⟨rfl, rfl⟩)
  go_ret
  exact ⟨rfl, rfl⟩

set_option maxRecDepth 100000 in
set_option maxHeartbeats 2000000 in
theorem left_in {i c : Nat} {x : AlarmR} {s : Cs} (hs : IsBd w b M T C R) (hx : T.alarms[i]? = some x) (hxc : x.counter = (c : Int)) (hc : C[c]? = some s) (hl : T.alarms.length ≤ 64) : Calls Try.prog 15 #[.pointer (some ⟨b, 0, none⟩), .int .i64 i] w fun e w' =>
    e = .returned (.tuple #[.int .u32 (IntKind.u32.wrap ((ofA s.l (alsOf (T.alarms.take i) c).length).2.1 : Int)), .int .i64 (ofS s.l (alsOf (T.alarms.take i) c).length)]) ∧ Kept (fun _ => False) w w' := by
  have hcl : c < T.counters.length := by have := (List.getElem?_eq_some_iff.1 hc).1; have := hs.lens.2.2; omega
  have hof := of_in hs hx hxc hcl hl
  obtain ⟨s', cb, v, r, hs', hcb, hv, hr⟩ := hs.at hcl
  rw [hc] at hs'; cases hs'
  obtain ⟨p, hp⟩ : ∃ p : Nat, (alsOf (T.alarms.take i) c).length = p := ⟨_, rfl⟩
  rw [hp] at hof ⊢
  have HS := Lib.hid hs
  have HC := Lib.hid hc
  have HCB := Lib.hid hcb
  have HV := Lib.hid hv
  clear hs hc hcb hv hp hx hr
  go_enter Try.func15, Try.ntmps15
  go_upto_region 4 with (go_at_call 31; refine hof.mono ?_; rintro e w1 ⟨g, o, cc, e3, rfl, k1⟩)
  have hs1 := HS.out.same k1
  obtain ⟨g', o', cc', e3', hg, q0, q1⟩ := hs1.ctr HCB.out HV.out
  rw [e3] at e3'
  cases e3'
  have HOP := Lib.hid (left_ok p (hs1.clk c s cb HC.out HCB.out))
  have K1 := Lib.hid k1
  clear hof k1 hs1 e3 q1
  go_wp2_with (go_at_call 35; refine HOP.out.mono ?_; rintro e w2 ⟨rfl, k2⟩)
  go_ret2
  exact ⟨rfl, K1.out.then k2 (fun _ x => x.elim)⟩
set_option maxRecDepth 100000 in
theorem left_out {i : Int} (hs : IsBd w b M T C R) (hi : ¬ (0 ≤ i ∧ i < T.alarms.length)) (hl : T.alarms.length ≤ 64) : Calls Try.prog 15 #[.pointer (some ⟨b, 0, none⟩), .int .i64 i] w fun e w' => e = .returned (.tuple #[.int .u32 0, .int .i64 3]) ∧ w = w' := by
  have hof := of_out hs hi hl
  clear hs hi
  go_enter Try.func15, Try.ntmps15
  go_wp2_with (go_at_call 31; refine hof.mono ?_; rintro e w1 ⟨rfl, rfl⟩)
  go_ret2
  exact ⟨rfl, rfl⟩
end
end Go.Proofs.Ytemhfonneggneaa.BD
