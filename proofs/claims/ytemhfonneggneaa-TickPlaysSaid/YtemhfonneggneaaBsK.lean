/- tappetlaw21: ints, tells. -/
import Derived.Test.YtemhfonneggneaaBsJ
import Derived.Deep.QuietTactic
namespace Go.Proofs.Ytemhfonneggneaa.BP
open Go.RowKit Go.Fr Go.Tb Go.Proofs.Ytemhfonneggneaa.CK Go.Proofs.Ytemhfonneggneaa.BD Go.Proofs.Ytemhfonneggneaa.RB Go.Proofs.Ytemhfonneggneaa.BS
attribute [local go_sem] Oper.semAt_some
set_option maxRecDepth 100000 in
set_option maxHeartbeats 2000000 in
theorem ints_ok {w : World} {ao1 ao2 : Option Addr} {c1 c2 : Nat} {xs : List Int} (h1 : Row w 3 1 (.slice ao1 xs.length c1) xs.length (xs.map (Value.int .i64))) (h2 : Row w 3 1 (.slice ao2 xs.length c2) xs.length (xs.map (Value.int .i64))) :
    Calls Try.prog 39 #[.slice ao1 xs.length c1, .slice ao2 xs.length c2] w fun e w' => e = .returned (.bool true) ∧ Kept (fun _ => False) w w' := by
  have hm : xs.length ≤ maxLen := by
    rcases row_forms h1 with ⟨_, h⟩ | ⟨g, c, _, h3, h4, _⟩ <;> omega
  unfold maxLen at hm
  go_enter Try.func39, Try.ntmps39
  go_wp2
  go_loopw [5] (fun i wr => ∃ k : Nat, k ≤ xs.length ∧ i = .int .i64 k ∧ Hid (Kept (fun _ => False) w wr)) (fun i _ => xs.length - (intOf i).toNat)
  case atStart => exact ⟨0, Nat.zero_le _, rfl, Kept.refl _ _⟩
  case round =>
    obtain ⟨k, hk, rfl, hK⟩ := hrel
    by_cases hlt : k < xs.length
    · obtain ⟨x, hx⟩ : ∃ x, xs[k]? = some x := ⟨_, List.getElem?_eq_getElem hlt⟩
      have r1 := row_kept h1 hK.out (fun _ _ h => h)
      have r2 := row_kept h2 hK.out (fun _ _ h => h)
      have hk0 : (0 : Int) ≤ (k : Int) := by omega
      have hk1 : (k : Int) < (xs.length : Int) := by omega
      rcases row_forms r1 with ⟨_, h0⟩ | ⟨g1, d1, hv1, _⟩
      · omega
      rcases row_forms r2 with ⟨_, h0⟩ | ⟨g2, d2, hv2, _⟩
      · omega
      cases hv1
      cases hv2
      have z1 := row_cell r1 k (by rw [List.getElem?_map, hx]; rfl)
      have z2 := row_cell r2 k (by rw [List.getElem?_map, hx]; rfl)
      clear r1 r2
      go_upto_region 6 with fail
      go_quiet (fail)
      go_wp2
      go_roundw
      case rel => exact ⟨k + 1, by omega, by go_num, hK.out.then ((Kept.refl (fun _ => False) _).same rfl rfl rfl rfl) (fun _ h => False.elim h)⟩
      case measure => simp [intOf]; omega
    · obtain rfl : k = xs.length := by omega
      go_wp2
      go_ret
      exact ⟨rfl, hK.out⟩

/-- a row whose elements from number k on are still what they were -/
def From (cs xs : List Value) (k : Nat) : Prop := cs.length = xs.length ∧ ∀ j, k ≤ j → cs[j]? = xs[j]?
theorem From.set {cs xs : List Value} {k : Nat} (h : From cs xs k) (u : Value) : From (cs.set k u) xs (k + 1) :=
  ⟨(List.length_set).trans h.1, fun j hj => by rw [List.getElem?_set_ne (by omega)]; exact h.2 j (by omega)⟩
theorem From.set3 {cs xs : List Value} {k : Nat} (h : From cs xs (k * 3)) (u v t : Value) : From (((cs.set (k * 3) u).set (k * 3 + 1) v).set (k * 3 + 2) t) xs ((k + 1) * 3) := by
  have := ((h.set u).set v).set t
  rw [show (k + 1) * 3 = k * 3 + 1 + 1 + 1 by omega]
  exact this
structure Own (w wr : World) (e : TypeId) (sz : Nat) (ao : Option Addr) (n c : Nat) (cs : List Value) : Prop where
  row : Row wr e sz (.slice ao n c) n cs
  kept : Kept (fun _ => False) w wr
  new : ∀ g, (Value.slice ao n c).ownBlock = some g → w.heap.size ≤ g
theorem Own.set {w wr : World} {e : TypeId} {sz g n c : Nat} {cs : List Value} (h : Own w wr e sz (some ⟨g, 0, none⟩) n c cs) (j : Nat) (u : Value) : Own w (wr.setCell ⟨g, j, none⟩ u) e sz (some ⟨g, 0, none⟩) n c (cs.set j u) :=
  ⟨row_set h.row j u, h.kept.setCell (p := ⟨g, j, none⟩) (Or.inr (h.new g rfl)) u, h.new⟩
theorem Own.same {w wr wf : World} {e : TypeId} {sz n c : Nat} {ao : Option Addr} {cs : List Value} (h : Own w wr e sz ao n c cs) (k : Kept (fun _ => False) wr wf) : Own w wf e sz ao n c cs :=
  ⟨row_kept h.row k (fun _ _ x => x), h.kept.then k (fun _ x => x.elim), h.new⟩
theorem Own.other {w wr : World} {e : TypeId} {sz n c : Nat} {ao : Option Addr} {cs : List Value} (h : Own w wr e sz ao n c cs) {g : Nat} (hg : w.heap.size ≤ g) (hn : (Value.slice ao n c).ownBlock ≠ some g) (j : Nat) (u : Value) : Own w (wr.setCell ⟨g, j, none⟩ u) e sz ao n c cs :=
  ⟨row_setCell_other h.row (a := ⟨g, j, none⟩) hn u, h.kept.setCell (p := ⟨g, j, none⟩) (Or.inr hg) u, h.new⟩
/-- the row has an array, where it has an element -/
theorem Own.at {w wr : World} {e : TypeId} {sz n c : Nat} {ao : Option Addr} {cs : List Value} (h : Own w wr e sz ao n c cs) (hn : 0 < n) : ∃ g, ao = some ⟨g, 0, none⟩ := by
  rcases row_forms h.row with ⟨_, h0⟩ | ⟨g, d, hv, _⟩
  · omega
  · cases hv
    exact ⟨g, rfl⟩
section
variable {W w : World} {b : Nat} {M : Bm} {p : Nat} {Q : Rm} {T : Tb} {V : List Nat} {A : List (Bool × Nat × Nat)} {R : List Bool}
set_option maxRecDepth 100000 in
set_option maxHeartbeats 8000000 in
theorem tells_ok (hE : Ev W T) (h : Bo W w b M p Q T V A R) : Calls Try.prog 21 #[.pointer (some ⟨b, 0, none⟩), .pointer (some ⟨p, 0, none⟩)] w fun e w' => e = .returned (.bool true) ∧ Kept (fun _ => False) w w' := by
  have HE := Lib.hid hE
  have HB := Lib.hid h
  have hv64 := h.v64 hE.ok
  have ha64 := h.a64 hE.ok
  have hr32 := h.r32 hE.ok
  clear h hE
  go_enter Try.func21, Try.ntmps21
  go_upto_region 2 with (go_at_call 24; refine (s_counters HB.out.s HE.out.ok).mono ?_; rintro e w1 ⟨va, vc, rfl, rv, ov, k1⟩)
  go_upto_region 3 with (go_at_call 52; refine (s_alarms (HB.out.same k1).s HE.out.ok HB.out.good).mono ?_; rintro e w2 ⟨aa, ac, rfl, ra, oa, k2⟩)
  have k12 := k1.then k2 (fun _ x => x.elim)
  go_upto_region 4 with (go_at_call 53; refine (s_requested (HB.out.same k12).s HE.out.ok).mono ?_; rintro e w3 ⟨oo, oc, rfl, ro, k3⟩)
  have k13 := k12.then k3 (fun _ x => x.elim)
  have PREQ : Hid (∀ wx, Kept (fun _ => False) w wx → Calls Try.prog 53 #[.pointer (some ⟨b, 0, none⟩)] wx fun e w' => ∃ ao c, e = .returned (.slice ao (reqB R R.length).length c) ∧ Ob wx w' ao c (reqB R R.length) ∧ Kept (fun _ => False) wx w') := fun wx kx => s_requested (HB.out.same kx).s HE.out.ok
  have DREQ : Hid (∀ wx, Kept (fun _ => False) w wx → Calls Try.prog 54 #[.pointer (some ⟨p, 0, none⟩)] wx fun e w' => ∃ ao c, e = .returned (.slice ao (reqB R R.length).length c) ∧ Ob wx w' ao c (reqB R R.length) ∧ Kept (fun _ => False) wx w') := fun wx kx => RB.requested_ok (HB.out.same kx).d hr32
  obtain ⟨O, hO⟩ : ∃ O, reqB R R.length = O := ⟨_, rfl⟩
  rw [hO] at ro PREQ DREQ ⊢
  clear hO
  have OV := Lib.hid (Own.same ⟨rv, k1, ov⟩ (k2.then k3 (fun _ x => x.elim)))
  have OA := Lib.hid (show Own w w3 _ 3 aa A.length ac (A.flatMap encL) from Own.same ⟨ra, k12, fun g hg => Nat.le_trans k1.size (oa g hg)⟩ k3)
  have OR := Lib.hid (show Own w w3 _ 1 oo O.length oc (O.map (Value.int .i64)) from ⟨ro.row, k13, fun g hg => Nat.le_trans k12.size (ro.own g hg)⟩)
  have NVA : Hid (∀ g, (Value.slice va V.length vc).ownBlock = some g → (Value.slice aa A.length ac).ownBlock ≠ some g ∧ (Value.slice oo O.length oc).ownBlock ≠ some g) := fun g hg => by
    have := row_lt rv hg
    have h2 := k2.size
    exact ⟨fun e => by have := oa g e; omega, fun e => by have := ro.own g e; omega⟩
  have NAR : Hid (∀ g, (Value.slice aa A.length ac).ownBlock = some g → (Value.slice oo O.length oc).ownBlock ≠ some g) := fun g hg => by
    have := row_lt ra hg
    exact fun e => by have := ro.own g e; omega
  have hOm : O.length ≤ maxLen := by
    rcases row_forms ro.row with ⟨_, h⟩ | ⟨g, c, _, h3, h4, _⟩ <;> omega
  unfold maxLen at hOm
  clear rv ra ro oa ov k1 k2 k3 k12 k13
  go_upto_region 5 with (first
    | (go_at_call 54; refine (DREQ.out _ OR.out.kept).mono ?_; rintro e w4 ⟨ao, c, rfl, o4, k4⟩)
    | (go_at_call 39; refine (ints_ok (OR.out.same k4).row o4.row).mono ?_; rintro e w5 ⟨rfl, k5⟩))
  have K45 := k4.then k5 (fun _ x => x.elim)
  have OV5 := Lib.hid (OV.out.same K45)
  have OA5 := Lib.hid (OA.out.same K45)
  have OR5 := Lib.hid (OR.out.same K45)
  clear OV OA OR k4 k5 o4 K45
  obtain ⟨o1, d1, o2, d2, _, _, _, _, _, c13, c14, _⟩ := (HB.out.same OV5.out.kept).d.lists
  go_upto_region 8 with fail
  clear c13 c14
  go_loopw [9] (fun i wr => ∃ (k : Nat) (cs : List Value), k ≤ V.length ∧ i = .int .i64 k ∧ Hid (From cs (V.map vu) k) ∧ Hid (Own w wr 22 1 va V.length vc cs) ∧ Hid (Own w wr 129 3 aa A.length ac (A.flatMap encL)) ∧ Hid (Own w wr 3 1 oo O.length oc (O.map (Value.int .i64)))) (fun i _ => V.length - (intOf i).toNat)
  case atStart => exact ⟨0, _, Nat.zero_le _, rfl, ⟨rfl, fun _ _ => rfl⟩, OV5, OA5, OR5⟩
  case round =>
    clear OV5 OA5 OR5
    obtain ⟨k, cs, hk, rfl, hF, hV, hA, hR⟩ := hrel
    by_cases hkl : k < V.length
    · obtain ⟨g, rfl⟩ := hV.out.at (by omega)
      obtain ⟨v, hv, _⟩ := at_of hkl
      have q1 := row_cell hV.out.row k (u := .int .u32 v) (by rw [hF.out.2 k (Nat.le_refl _), List.getElem?_map, hv]; rfl)
      obtain ⟨g2, cc2, _, c13, q2, _⟩ := (HB.out.same hV.out.kept).d.val hv
      have hk0 : (0 : Int) ≤ (k : Int) := by omega
      have hk1 : (k : Int) < (V.length : Int) := by omega
      have z1 := row_frozen hV.out.row k
      have hvv : ((v : Int) == (v : Int)) = true := by simp
      go_upto_region 10 with fail
      go_quiet (fail)
      go_wp2_with fail
      have hgn := hV.out.new g rfl
      have hna := NVA.out g rfl
      go_roundw
      case rel => exact ⟨k + 1, cs.set k (.int .u32 99), by omega, by go_num, hF.out.set _, (hV.out.set k (.int .u32 99)).same (by exact (Kept.refl (fun _ => False) _).same rfl rfl rfl rfl), (hA.out.other hgn hna.1 k (.int .u32 99)).same (by exact (Kept.refl (fun _ => False) _).same rfl rfl rfl rfl), (hR.out.other hgn hna.2 k (.int .u32 99)).same (by exact (Kept.refl (fun _ => False) _).same rfl rfl rfl rfl)⟩
      case measure => simp [intOf]; omega
    · obtain rfl : k = V.length := by omega
      clear hF
      go_upto_region 14 with fail
      go_loopw [10] (fun i wr => ∃ (k : Nat) (cs : List Value), k ≤ A.length ∧ i = .int .i64 k ∧ Hid (From cs (A.flatMap encL) (k * 3)) ∧ Hid (Own w wr 129 3 aa A.length ac cs) ∧ Hid (Own w wr 3 1 oo O.length oc (O.map (Value.int .i64)))) (fun i _ => A.length - (intOf i).toNat)
      case atStart => exact ⟨0, _, Nat.zero_le _, rfl, ⟨rfl, fun _ _ => rfl⟩, hA, hR⟩
      case round =>
        clear hV hA hR
        obtain ⟨k, cs, hk, rfl, hF, hA, hR⟩ := hrel
        by_cases hkl : k < A.length
        · obtain ⟨g, rfl⟩ := hA.out.at (by omega)
          obtain ⟨a, ha, _⟩ := at_of hkl
          obtain ⟨sa, lf, cy⟩ := a
          have e0 := row_cell hA.out.row (k * 3) (u := .bool sa) (by rw [hF.out.2 _ (by omega)]; exact (flat_get (sz := 3) (fun _ => rfl) A k 0 _ ha (by decide)).trans rfl)
          have e1 := row_cell hA.out.row (k * 3 + 1) (u := .int .u32 lf) (by rw [hF.out.2 _ (by omega)]; exact (flat_get (sz := 3) (fun _ => rfl) A k 1 _ ha (by decide)).trans rfl)
          have e2 := row_cell hA.out.row (k * 3 + 2) (u := .int .u32 cy) (by rw [hF.out.2 _ (by omega)]; exact (flat_get (sz := 3) (fun _ => rfl) A k 2 _ ha (by decide)).trans rfl)
          obtain ⟨g2, cc2, _, c14, q0, q1, q2, _⟩ := (HB.out.same hA.out.kept).d.look ha
          have hk0 : (0 : Int) ≤ (k : Int) := by omega
          have hk1 : (k : Int) < (A.length : Int) := by omega
          have z0 := row_frozen hA.out.row (k * 3)
          have z1 := row_frozen hA.out.row (k * 3 + 1)
          have z2 := row_frozen hA.out.row (k * 3 + 2)
          dsimp only at q0 q1 q2
          have hv0 : (sa == sa) = true := by simp
          have hv1 : ((lf : Int) == (lf : Int)) = true := by simp
          have hv2 : ((cy : Int) == (cy : Int)) = true := by simp
          go_upto_region 16 with fail
          go_quiet (fail)
          go_wp2_with fail
          have hgn := hA.out.new g rfl
          have hna := NAR.out g rfl
          go_roundw
          case rel => exact ⟨k + 1, ((cs.set (k * 3) (.bool false)).set (k * 3 + 1) (.int .u32 99)).set (k * 3 + 2) (.int .u32 0), by omega, by go_num, hF.out.set3 _ _ _, (((hA.out.set (k * 3) (.bool false)).set (k * 3 + 1) (.int .u32 99)).set (k * 3 + 2) (.int .u32 0)).same (by exact (Kept.refl (fun _ => False) _).same rfl rfl rfl rfl), (((hR.out.other hgn hna (k * 3) (.bool false)).other hgn hna (k * 3 + 1) (.int .u32 99)).other hgn hna (k * 3 + 2) (.int .u32 0)).same (by exact (Kept.refl (fun _ => False) _).same rfl rfl rfl rfl)⟩
          case measure => simp [intOf]; omega
        · obtain rfl : k = A.length := by omega
          clear hF
          go_upto_region 20 with fail
          go_loopw [11] (fun i wr => ∃ (k : Nat) (cs : List Value), k ≤ O.length ∧ i = .int .i64 k ∧ Hid (Own w wr 3 1 oo O.length oc cs)) (fun i _ => O.length - (intOf i).toNat)
          case atStart => exact ⟨0, _, Nat.zero_le _, rfl, hR⟩
          case round =>
            clear hA hR
            obtain ⟨k, cs, hk, rfl, hR⟩ := hrel
            by_cases hkl : k < O.length
            · obtain ⟨g, rfl⟩ := hR.out.at (by omega)
              have z1 := row_frozen hR.out.row k
              obtain ⟨u, hu⟩ : ∃ u, cs[k]? = some u := ⟨_, List.getElem?_eq_getElem (by have := hR.out.row.1; omega)⟩
              have q1 := row_cell hR.out.row k hu
              have hk0 : (0 : Int) ≤ (k : Int) := by omega
              have hk1 : (k : Int) < (O.length : Int) := by omega
              go_wp2_with fail
              clear z1 q1 hu
              go_roundw
              case rel => exact ⟨k + 1, cs.set k (.int .i64 (-9)), by omega, by go_num, (hR.out.set k (.int .i64 (-9))).same (by exact (Kept.refl (fun _ => False) _).same rfl rfl rfl rfl)⟩
              case measure => simp [intOf]; omega
            · obtain rfl : k = O.length := by omega
              go_wp2_with (first
                | (go_at_call 53; refine (PREQ.out _ hR.out.kept).mono ?_; rintro e w6 ⟨a6, c6, rfl, o6, k6⟩)
                | (go_at_call 54; refine (DREQ.out _ (hR.out.kept.then k6 (fun _ x => x.elim))).mono ?_; rintro e w7 ⟨a7, c7, rfl, o7, k7⟩)
                | (go_at_call 39; refine (ints_ok (o6.same k7).row o7.row).mono ?_; rintro e w8 ⟨rfl, k8⟩))
              go_ret
              exact ⟨rfl, ((hR.out.kept.then k6 (fun _ x => x.elim)).then k7 (fun _ x => x.elim)).then k8 (fun _ x => x.elim)⟩
end
end Go.Proofs.Ytemhfonneggneaa.BP
