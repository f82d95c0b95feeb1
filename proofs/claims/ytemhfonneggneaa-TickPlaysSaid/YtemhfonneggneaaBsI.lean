/- The two boards side by side: each call of the one and of the other. -/
import Derived.Test.YtemhfonneggneaaBsH
import Derived.Test.YtemhfonneggneaaRbE
namespace Go.Proofs.Ytemhfonneggneaa.BP
open Go.RowKit Go.Fr Go.Tb Go.Proofs.Ytemhfonneggneaa.CK Go.Proofs.Ytemhfonneggneaa.BD Go.Proofs.Ytemhfonneggneaa.RB Go.Proofs.Ytemhfonneggneaa.BS
section
variable {W w w' : World} {b : Nat} {M : Bm} {p : Nat} {Q : Rm} {T : Tb} {V V' : List Nat} {A A' : List (Bool × Nat × Nat)} {R R' : List Bool} {S : Nat → Prop}
/-- an alarm that is -/
theorem Bo.alarm (h : Bo W w b M p Q T V A R) (hk : TOk T) {i : Int} (hi : 0 ≤ i ∧ i < A.length) : ∃ (k c mx mn : Nat) (x : AlarmR) (bs : Int) (a : Bool × Nat × Nat), i = (k : Int) ∧ T.alarms[k]? = some x ∧ x.counter = (c : Int) ∧ T.counters[c]? = some ((mx : Int), bs, (mn : Int)) ∧ A[k]? = some a ∧ mx ≤ 2147483647 ∧ V[c]? = some (V.getD c 0) ∧ V.getD c 0 ≤ mx := by
  obtain ⟨k, rfl⟩ := Int.eq_ofNat_of_zero_le hi.1
  have hkl : k < A.length := by have := hi.2; omega
  obtain ⟨a, ha, _⟩ := at_of hkl
  obtain ⟨x, hx, _⟩ := at_of (show k < T.alarms.length by rw [← h.s.la]; exact hkl)
  obtain ⟨c, mx, mn, bs, hxc, hr, _, hmx, _⟩ := hk.al k x hx
  have hcl := (List.getElem?_eq_some_iff.1 hr).1
  have hv : V[c]? = some (V.getD c 0) := by
    have h1 : c < V.length := by rw [h.s.lv]; exact hcl
    simp [List.getD_eq_getElem?_getD, h1]
  exact ⟨k, c, mx, mn, x, bs, a, rfl, hx, hxc, hr, ha, hmx, hv, val_of h.s hr hv⟩
theorem Bo.out (h : Bo W w b M p Q T V A R) {i : Int} (hi : ¬ (0 ≤ i ∧ i < A.length)) : ¬ (0 ≤ i ∧ i < T.alarms.length) := by rw [← h.s.la]; exact hi
theorem Bo.a64 (h : Bo W w b M p Q T V A R) (hk : TOk T) : A.length ≤ 64 := by rw [h.s.la]; exact hk.na
theorem Bo.v64 (h : Bo W w b M p Q T V A R) (hk : TOk T) : V.length ≤ 64 := by rw [h.s.lv]; have := hk.nc; omega
theorem Bo.r32 (h : Bo W w b M p Q T V A R) (hk : TOk T) : R.length ≤ 32 := by rw [h.s.lr]; exact hk.ni
theorem nk (w : World) : Kept (bfoot b M) w w := Kept.refl _ _

theorem two_rel (hE : Ev W T) (h : Bo W w b M p Q T V A R) (i : Int) (t cy : Nat) (ht : t ≤ 4294967295) : ∃ (z : Int) (A' : _), Two W w b M p Q T V A' R 11 #[.pointer (some ⟨b, 0, none⟩), .int .i64 i, .int .u32 t, .int .u32 cy] 43 #[.pointer (some ⟨p, 0, none⟩), .int .i64 i, .int .u32 t, .int .u32 cy] (.int .i64 z) (.int .i64 z) := by
  by_cases hi : 0 ≤ i ∧ i < A.length
  · obtain ⟨k, c, mx, mn, x, bs, a, rfl, hx, hxc, hr, ha, hmx, hv, hvm⟩ := h.alarm hE.ok hi
    refine ⟨_, _, two_of hE h (good_put h.good _ cy (fun hF => ?_)) (s_rel h.s hE.ok hx hxc hr ha ht) (fun w2 hd => RB.rel_in t cy hd.d hd.tab ha (h.a64 hE.ok) hx hxc hr (by have := hE.ok.nc; omega))⟩
    simp only [Bool.and_eq_true, decide_eq_true_eq] at hF
    omega
  · exact ⟨3, A, two_of hE h h.good ((BD.rel_out h.s.bd (h.out hi) hE.ok.na).mono (by rintro e w1 ⟨rfl, rfl⟩; exact ⟨rfl, h.s, Kept.refl _ _⟩)) (fun w2 hd => (RB.rel_no hd.d hi).mono (by rintro e w1 ⟨rfl, rfl⟩; exact ⟨rfl, hd.d, Kept.refl _ _⟩))⟩
theorem two_abs (hE : Ev W T) (h : Bo W w b M p Q T V A R) (i : Int) (t cy : Nat) (ht : t ≤ 4294967295) : ∃ (z : Int) (A' : _), Two W w b M p Q T V A' R 10 #[.pointer (some ⟨b, 0, none⟩), .int .i64 i, .int .u32 t, .int .u32 cy] 44 #[.pointer (some ⟨p, 0, none⟩), .int .i64 i, .int .u32 t, .int .u32 cy] (.int .i64 z) (.int .i64 z) := by
  by_cases hi : 0 ≤ i ∧ i < A.length
  · obtain ⟨k, c, mx, mn, x, bs, a, rfl, hx, hxc, hr, ha, hmx, hv, hvm⟩ := h.alarm hE.ok hi
    refine ⟨_, _, two_of hE h (good_put h.good _ cy (fun hF => ?_)) (s_abs h.s hE.ok hx hxc hr ha ht) (fun w2 hd => RB.abs_in t cy hd.d hd.tab ha (h.a64 hE.ok) hx hxc hr (by have := hE.ok.nc; omega) hv hvm hmx)⟩
    have := until_in mx (V.getD c 0) t
    omega
  · exact ⟨3, A, two_of hE h h.good ((BD.abs_out h.s.bd (h.out hi) hE.ok.na).mono (by rintro e w1 ⟨rfl, rfl⟩; exact ⟨rfl, h.s, Kept.refl _ _⟩)) (fun w2 hd => (RB.abs_no hd.d hi).mono (by rintro e w1 ⟨rfl, rfl⟩; exact ⟨rfl, hd.d, Kept.refl _ _⟩))⟩
theorem two_cancel (hE : Ev W T) (h : Bo W w b M p Q T V A R) (i : Int) : ∃ (z : Int) (A' : _), Two W w b M p Q T V A' R 12 #[.pointer (some ⟨b, 0, none⟩), .int .i64 i] 45 #[.pointer (some ⟨p, 0, none⟩), .int .i64 i] (.int .i64 z) (.int .i64 z) := by
  by_cases hi : 0 ≤ i ∧ i < A.length
  · obtain ⟨k, c, mx, mn, x, bs, a, rfl, hx, hxc, hr, ha, hmx, hv, hvm⟩ := h.alarm hE.ok hi
    exact ⟨_, _, two_of hE h (good_cancel h.good _) (s_cancel h.s hE.ok hx hxc (List.getElem?_eq_some_iff.1 hr).1 ha) (fun w2 hd => RB.cancel_in hd.d ha (h.a64 hE.ok))⟩
  · exact ⟨3, A, two_of hE h h.good ((BD.cancel_out h.s.bd (h.out hi) hE.ok.na).mono (by rintro e w1 ⟨rfl, rfl⟩; exact ⟨rfl, h.s, Kept.refl _ _⟩)) (fun w2 hd => (RB.cancel_no hd.d hi).mono (by rintro e w1 ⟨rfl, rfl⟩; exact ⟨rfl, hd.d, Kept.refl _ _⟩))⟩
theorem two_request (hE : Ev W T) (h : Bo W w b M p Q T V A R) (i : Int) : ∃ (z : Int) (R' : _), Two W w b M p Q T V A R' 13 #[.pointer (some ⟨b, 0, none⟩), .int .i64 i] 48 #[.pointer (some ⟨p, 0, none⟩), .int .i64 i] (.int .i64 z) (.int .i64 z) := by
  by_cases hi : 0 ≤ i ∧ i < R.length
  · obtain ⟨k, rfl⟩ := Int.eq_ofNat_of_zero_le hi.1
    have hk : k < R.length := by have := hi.2; omega
    exact ⟨_, _, two_of hE h h.good (s_request h.s hE.ok hk) (fun w2 hd => RB.request_in hd.d hk (h.r32 hE.ok))⟩
  · exact ⟨3, R, two_of hE h h.good (s_request_out h.s hE.ok hi) (fun w2 hd => (RB.request_no hd.d hi).mono (by rintro e w1 ⟨rfl, rfl⟩; exact ⟨rfl, hd.d, Kept.refl _ _⟩))⟩
theorem two_serve (hE : Ev W T) (h : Bo W w b M p Q T V A R) (i : Int) : ∃ (z : Int) (R' : _), Two W w b M p Q T V A R' 14 #[.pointer (some ⟨b, 0, none⟩), .int .i64 i] 50 #[.pointer (some ⟨p, 0, none⟩), .int .i64 i] (.int .i64 z) (.int .i64 z) := by
  by_cases hi : 0 ≤ i ∧ i < R.length
  · obtain ⟨k, rfl⟩ := Int.eq_ofNat_of_zero_le hi.1
    have hk : k < R.length := by have := hi.2; omega
    obtain ⟨v, hv, _⟩ := at_of hk
    exact ⟨_, _, two_of hE h h.good (s_serve h.s hE.ok hv) (fun w2 hd => RB.serve_in hd.d hv (h.r32 hE.ok))⟩
  · exact ⟨2, R, two_of hE h h.good (s_serve_out h.s hE.ok hi) (fun w2 hd => (RB.serve_no hd.d hi).mono (by rintro e w1 ⟨rfl, rfl⟩; exact ⟨rfl, hd.d, Kept.refl _ _⟩))⟩
theorem two_base (hE : Ev W T) (h : Bo W w b M p Q T V A R) (i : Int) : ∃ (mx bs mn z : Int), Two W w b M p Q T V A R 40 #[.pointer (some ⟨b, 0, none⟩), .int .i64 i] 41 #[.pointer (some ⟨p, 0, none⟩), .int .i64 i] (.tuple #[.agg #[.int .u32 mx, .int .u32 bs, .int .u32 mn], .int .i64 z]) (.tuple #[.agg #[.int .u32 mx, .int .u32 bs, .int .u32 mn], .int .i64 z]) := by
  have hc : T.counters.length ≤ 64 := by have := hE.ok.nc; omega
  by_cases hi : 0 ≤ i ∧ i < A.length
  · obtain ⟨k, c, mx, mn, x, bs, a, rfl, hx, hxc, hr, ha, hmx, hv, hvm⟩ := h.alarm hE.ok hi
    exact ⟨_, _, _, _, two_of hE h h.good ((BD.base_in h.s.bd hx hxc hr hE.ok.na hc).mono (by rintro e w1 ⟨rfl, k1⟩; exact ⟨rfl, h.s.same k1, k1.mono (fun _ _ x => x.elim)⟩)) (fun w2 hd => (RB.base_in hd.d hd.tab (List.getElem?_eq_some_iff.1 ha).1 (h.a64 hE.ok) hx hxc hr hc).mono (by rintro e w1 ⟨rfl, k1⟩; exact ⟨rfl, hd.d.same k1, k1.mono (fun _ _ x => x.elim)⟩))⟩
  · exact ⟨_, _, _, _, two_of hE h h.good ((BD.base_out h.s.bd (h.out hi) hE.ok.na).mono (by rintro e w1 ⟨rfl, k1⟩; exact ⟨rfl, h.s.same k1, k1.mono (fun _ _ x => x.elim)⟩)) (fun w2 hd => (RB.base_no hd.d hi).mono (by rintro e w1 ⟨rfl, k1⟩; exact ⟨rfl, hd.d.same k1, k1.mono (fun _ _ x => x.elim)⟩))⟩
theorem two_left (hE : Ev W T) (h : Bo W w b M p Q T V A R) (i : Int) : ∃ (l z : Int), Two W w b M p Q T V A R 15 #[.pointer (some ⟨b, 0, none⟩), .int .i64 i] 42 #[.pointer (some ⟨p, 0, none⟩), .int .i64 i] (.tuple #[.int .u32 l, .int .i64 z]) (.tuple #[.int .u32 l, .int .i64 z]) := by
  by_cases hi : 0 ≤ i ∧ i < A.length
  · obtain ⟨k, c, mx, mn, x, bs, a, rfl, hx, hxc, hr, ha, hmx, hv, hvm⟩ := h.alarm hE.ok hi
    have hg := (h.good a (List.mem_of_getElem? ha)).2
    obtain ⟨l, z, hz⟩ : ∃ l z : Int, (if a.1 then #[Value.int .u32 a.2.1, Value.int .i64 0] else #[Value.int .u32 0, Value.int .i64 5]) = #[Value.int .u32 l, Value.int .i64 z] := by
      cases a.1
      · exact ⟨_, _, rfl⟩
      · exact ⟨_, _, rfl⟩
    exact ⟨l, z, two_of hE h h.good ((s_left h.s hE.ok hx hxc (List.getElem?_eq_some_iff.1 hr).1 ha (by omega)).mono (by rintro e w1 ⟨rfl, k1⟩; exact ⟨by rw [hz], h.s.same k1, k1.mono (fun _ _ x => x.elim)⟩)) (fun w2 hd => (RB.left_in hd.d ha (h.a64 hE.ok)).mono (by rintro e w1 ⟨rfl, rfl⟩; exact ⟨by rw [hz], hd.d, Kept.refl _ _⟩))⟩
  · exact ⟨0, 3, two_of hE h h.good ((BD.left_out h.s.bd (h.out hi) hE.ok.na).mono (by rintro e w1 ⟨rfl, rfl⟩; exact ⟨rfl, h.s, Kept.refl _ _⟩)) (fun w2 hd => (RB.left_no hd.d hi).mono (by rintro e w1 ⟨rfl, rfl⟩; exact ⟨rfl, hd.d, Kept.refl _ _⟩))⟩
theorem two_auto (hE : Ev W T) (h : Bo W w b M p Q T V A R) (i : Int) : ∃ (l z : Int) (A' : _), Two W w b M p Q T V A' R 46 #[.pointer (some ⟨b, 0, none⟩), .int .i64 i] 47 #[.pointer (some ⟨p, 0, none⟩), .int .i64 i] (.tuple #[.int .i64 l, .int .i64 z]) (.tuple #[.int .i64 l, .int .i64 z]) := by
  by_cases hi : 0 ≤ i ∧ i < T.modes
  · obtain ⟨k, rfl⟩ := Int.eq_ofNat_of_zero_le hi.1
    have hm := hE.ok.nm
    exact ⟨_, _, _, two_of hE h (good_auto hE.ok h.good k A.length) (s_auto h.s hE.ok hi.2) (fun w2 hd => RB.auto_in hd.d hd.tabs hi.2 (by omega) (h.a64 hE.ok) hE.ok.u)⟩
  · exact ⟨0, 2, A, two_of hE h h.good ((s_auto_out h.s hi).mono (by rintro e w1 ⟨rfl, rfl⟩; exact ⟨rfl, h.s, Kept.refl _ _⟩)) (fun w2 hd => (RB.auto_no hd.d hi).mono (by rintro e w1 ⟨rfl, rfl⟩; exact ⟨rfl, hd.d, Kept.refl _ _⟩))⟩
theorem two_next (hE : Ev W T) (h : Bo W w b M p Q T V A R) (level : Int) (gs : Bool) (ga go : Int) : ∃ (l : Int) (z : Bool), Two W w b M p Q T V A R 23 #[.pointer (some ⟨b, 0, none⟩), .int .i64 level, .agg #[.bool gs, .int .i64 ga, .int .i64 go]] 49 #[.pointer (some ⟨p, 0, none⟩), .int .i64 level, .agg #[.bool gs, .int .i64 ga, .int .i64 go]] (.tuple #[.int .i64 l, .bool z]) (.tuple #[.int .i64 l, .bool z]) :=
  ⟨_, _, two_of hE h h.good ((s_next level (gs, ga, go) h.s hE.ok).mono (by rintro e w1 ⟨rfl, k1⟩; exact ⟨rfl, h.s.same k1, k1.mono (fun _ _ x => x.elim)⟩)) (fun w2 hd => (RB.next_ok level gs ga go hd.d hd.tab (h.r32 hE.ok) hE.ok.cat).mono (by rintro e w1 ⟨rfl, k1⟩; exact ⟨rfl, hd.d.same k1, k1.mono (fun _ _ x => x.elim)⟩))⟩
end
end Go.Proofs.Ytemhfonneggneaa.BP
