/- Package tick: alive, of. -/
import Derived.Test.YtemhfonneggneaaBd
import Derived.Test.YtemhfonneggneaaKcT
import Derived.BigQuiet
import Derived.Deep.Light
namespace Go.Proofs.Ytemhfonneggneaa.BD
open Go.RowKit Go.Fr Go.Tb
open Go.Proofs.Ytemhfonneggneaa.CK (IsClk foot)
attribute [local go_sem] Oper.semAt_some

/-- the counters of the alarms are there -/
def AOk (T : Tb) : Prop := ∀ x ∈ T.alarms, 0 ≤ x.counter ∧ x.counter < T.counters.length

section
variable {w : World} {b : Nat} {M : Bm} {T : Tb} {C : List Cs} {R : List Bool}
theorem alive_ok (hs : IsBd w b M T C R) : Calls Try.prog 29 #[.pointer (some ⟨b, 0, none⟩)] w fun e w' => e = .returned (.bool true) ∧ w = w' := by
  have c := hs.made
  go_enter Try.func29, Try.ntmps29
  go_wp2
  go_ret
  exact ⟨rfl, rfl⟩

theorem IsBd.heads (hs : IsBd w b M T C R) : ∃ a1 k1 a2 k2 a3 k3 a5 k5, M.va = .slice a1 T.alarms.length k1 ∧ CameL w 7 encA a1 T.alarms ∧ M.vp = .slice a2 T.alarms.length k2 ∧ CameL w 1 (encK .i64) a2 (placesOf T.alarms) ∧ M.vc = .slice a3 T.counters.length k3 ∧ M.vi = .slice a5 T.isrs.length k5 ∧ CameL w 2 (encKK .i64 .i64) a5 (T.isrs.map (fun x => (x.cat, x.pr))) ∧
    w.cell? ⟨b, 1, none⟩ = some (.slice a1 T.alarms.length k1) ∧ w.cell? ⟨b, 2, none⟩ = some (.slice a2 T.alarms.length k2) ∧ w.cell? ⟨b, 3, none⟩ = some (.slice a3 T.counters.length k3) ∧ w.cell? ⟨b, 5, none⟩ = some (.slice a5 T.isrs.length k5) := by
  obtain ⟨a1, k1, e1, h1⟩ := hs.alarms
  obtain ⟨a2, k2, e2, h2⟩ := hs.places
  obtain ⟨a3, k3, e3, h3⟩ := hs.ctrs
  obtain ⟨a5, k5, e5, h5⟩ := hs.isrs
  have hp : (placesOf T.alarms).length = T.alarms.length := by simp [placesOf]
  have hz : (M.cb.zip M.sl).length = T.counters.length := by rw [List.length_zip, hs.lens.1, hs.lens.2.1, Nat.min_self]
  rw [hp] at e2
  rw [hz] at e3
  rw [List.length_map] at e5
  refine ⟨a1, k1, a2, k2, a3, k3, a5, k5, e1, h1, e2, h2, e3, e5, h5, ?_, ?_, ?_, ?_⟩
  · rw [← e1]; exact hs.blk.cell 1 rfl
  · rw [← e2]; exact hs.blk.cell 2 rfl
  · rw [← e3]; exact hs.blk.cell 3 rfl
  · rw [← e5]; exact hs.blk.cell 5 rfl

set_option maxRecDepth 100000 in
set_option maxHeartbeats 2000000 in
theorem of_out {i : Int} (hs : IsBd w b M T C R) (hi : ¬ (0 ≤ i ∧ i < T.alarms.length)) (hl : T.alarms.length ≤ 64) : Calls Try.prog 31 #[.pointer (some ⟨b, 0, none⟩), .int .i64 i] w fun e w' => e = .returned (.tuple #[.pointer none, .int .i64 0]) ∧ w = w' := by
  obtain ⟨a1, k1, a2, k2, a3, k3, a5, k5, _, _, _, _, _, _, _, c1, _, _, _⟩ := hs.heads
  have ha := alive_ok hs
  by_cases h0 : i < 0
  · have d0 : decide (i < 0) = true := by simpa using h0
    clear hi h0
    go_enter Try.func31, Try.ntmps31
    go_wp2_with (go_at_call 29; refine ha.mono ?_; rintro e w' ⟨rfl, rfl⟩)
    go_ret2
    exact ⟨rfl, rfl⟩
  · have d0 : decide (i < 0) = false := by simpa using h0
    have d1 : decide ((T.alarms.length : Int) ≤ i) = true := by simp; omega
    clear hi h0
    go_enter Try.func31, Try.ntmps31
    go_wp2_with (go_at_call 29; refine ha.mono ?_; rintro e w' ⟨rfl, rfl⟩)
    go_ret2
    exact ⟨rfl, rfl⟩

set_option maxRecDepth 100000 in
set_option maxHeartbeats 2000000 in
theorem of_in {i c : Nat} {x : AlarmR} (hs : IsBd w b M T C R) (hx : T.alarms[i]? = some x) (hxc : x.counter = (c : Int)) (hc : c < T.counters.length) (hl : T.alarms.length ≤ 64) : Calls Try.prog 31 #[.pointer (some ⟨b, 0, none⟩), .int .i64 i] w fun e w' =>
    ∃ g o cc, M.vc = .slice (some ⟨g, o, none⟩) T.counters.length cc ∧ e = .returned (.tuple #[.pointer (some ⟨g, o + c * 2, none⟩), .int .i64 ((alsOf (T.alarms.take i) c).length : Int)]) ∧ Kept (fun _ => False) w w' := by
  obtain ⟨a1, k1, a2, k2, a3, k3, a5, k5, _, h1, _, h2, e3, _, _, c1, c2, c3, _⟩ := hs.heads
  have ha := alive_ok hs
  obtain ⟨s, cb, v, r, _, hcb, hv, _⟩ := hs.at hc
  obtain ⟨g, o, cc, e3', hg, _, _⟩ := hs.ctr hcb hv
  rw [e3] at e3'
  cases e3'
  have hi := (List.getElem?_eq_some_iff.1 hx).1
  obtain ⟨b1, o1, rfl, _, hcl⟩ := camel_at h1 hx
  have f0 := hcl 0 _ rfl
  obtain ⟨b2, o2, rfl, _, f2⟩ := camel_one h2 (placesOf_at hx) rfl
  obtain ⟨xc, xk, xt, xm, xa, xi, xy⟩ := x
  dsimp only at hxc f0 f2
  subst hxc
  simp only [Nat.add_zero] at f0
  obtain ⟨pl, hpl⟩ : ∃ p : Nat, (alsOf (T.alarms.take i) c).length = p := ⟨_, rfl⟩
  rw [hpl] at f2 ⊢
  have i0 : (0 : Int) ≤ (i : Int) := by omega
  have i1 : (i : Int) < (T.alarms.length : Int) := by omega
  have q0 : (0 : Int) ≤ (c : Int) := by omega
  have q1 : (c : Int) < (T.counters.length : Int) := by omega
  have d1 : decide ((T.alarms.length : Int) ≤ (i : Int)) = false := by simp; omega
  have d2 : decide (T.alarms.length ≤ i) = false := by simp; omega
  have HE := Lib.hid e3
  clear hcl h1 h2 hx hpl hcb hv hs e3
  go_enter Try.func31, Try.ntmps31
  go_wp2_with (go_at_call 29; refine ha.mono ?_; rintro e w' ⟨rfl, rfl⟩)
  go_quiet (fail)
  go_wp2_with fail
  go_ret2
  exact ⟨g, o, k3, HE.out, rfl, (Kept.refl _ _).drewN _⟩
end
end Go.Proofs.Ytemhfonneggneaa.BD
