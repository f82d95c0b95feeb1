/- What must come of a board at any rate: the law's heads. -/
import Derived.Test.YtemhfonneggneaaBdU
import Derived.Test.YtemhfonneggneaaBdW
import Derived.Test.YtemhfonneggneaaBdS
/- The law's own board: one counter, two alarms on it, two ISRs. -/
namespace Go.Proofs.Ytemhfonneggneaa.BD
open Go.RowKit Go.Fr Go.Tb Go.Proofs.Ytemhfonneggneaa.CK Go.Proofs.Ytemhfonneggneaa.TC

/-- the law's own board -/
structure B1 (w : World) (b : Nat) (M : Bm) (T : Tb) (m x : Nat) (l : List (Bool × Nat × Nat)) (R : List Bool) : Prop where
  bd : IsBd w b M T [⟨m, 1, x, l⟩] R
  al : T.alarms = [alR, alR]
  is : T.isrs = [⟨2, 70, none, 0, []⟩, ⟨1, 90, none, 0, []⟩]
  ct : T.counters.length = 1

def l0 : List (Bool × Nat × Nat) := [(false, 0, 0), (false, 0, 0)]
def R0 : List Bool := List.replicate 32 false
theorem b1_new {w : World} {most : Nat} (hm : most ≤ 4294967295) {ta ra ca aa ia : Option Addr} (hT : TabIn w (oneT most ta ra ca aa ia)) :
    Calls Try.prog 7 #[.agg (oneT most ta ra ca aa ia).cells.toArray] w fun e w' => (¬ (1 ≤ most ∧ most ≤ 2147483647) ∧ e = .returned (.tuple #[.pointer none, .int .i64 210]) ∧ Kept (fun _ => False) w w') ∨
      ((1 ≤ most ∧ most ≤ 2147483647) ∧ ∃ b M, e = .returned (.tuple #[.pointer (some ⟨b, 0, none⟩), .int .i64 0]) ∧ B1 w' b M (oneT most ta ra ca aa ia) most 0 l0 R0 ∧ (∀ q, bfoot b M q → w.heap.size ≤ q) ∧ Kept (fun _ => False) w w') := by
  refine (new_ok hT (one_wf hm ta ra ca aa ia) (by simp [oneT])).mono ?_
  rintro e w' (⟨hc, rfl, k⟩ | ⟨hc, b, M, C, rfl, hb, hf, k, hs⟩)
  · exact Or.inl ⟨fun h => hc ((one_check most ta ra ca aa ia).2 h), rfl, k⟩
  · refine Or.inr ⟨(one_check most ta ra ca aa ia).1 hc, b, M, rfl, ⟨?_, rfl, rfl, rfl⟩, hf, k⟩
    obtain ⟨_, _, hl⟩ := hb.lens
    have hl1 : C.length = 1 := hl
    obtain ⟨s, hs0⟩ : ∃ s, C = [s] := by
      match C, hl1 with
      | [s], _ => exact ⟨s, rfl⟩
    subst hs0
    obtain ⟨h1, h2⟩ := hs 0 s rfl
    obtain ⟨h3, h4, h5⟩ := hb.nums 0 s ((most : Int), 1, 1) rfl rfl
    have e1 : s.mx = most := by dsimp only at h3; omega
    have e2 : s.mn = 1 := by dsimp only at h4; omega
    have e3 : s.l = l0 := h2
    obtain ⟨smx, smn, sx, sl⟩ := s
    dsimp only at h1 e1 e2 e3
    subst h1 e1 e2 e3
    exact hb

section
variable {w w' : World} {b : Nat} {M : Bm} {T : Tb} {m x : Nat} {l : List (Bool × Nat × Nat)} {R : List Bool} {S : Nat → Prop}
theorem B1.same (h : B1 w b M T m x l R) (k : Kept (fun _ => False) w w') : B1 w' b M T m x l R := { h with bd := h.bd.same k }
theorem B1.kept (h : B1 w b M T m x l R) (k : Kept S w w') (hn : ∀ g, bfoot b M g → ¬ S g) : B1 w' b M T m x l R := { h with bd := h.bd.kept k hn }
theorem als_at (i : Nat) (hi : i < 2) : ([alR, alR] : List AlarmR)[i]? = some alR ∧ (alsOf (([alR, alR] : List AlarmR).take i) ((0 : Nat) : Int)).length = i := by
  rcases (show i = 0 ∨ i = 1 by omega) with rfl | rfl
  · exact ⟨rfl, rfl⟩
  · exact ⟨rfl, rfl⟩
theorem b1_rel {i t cy : Nat} (hi : i < 2) (h : B1 w b M T m x l R) (ht : t ≤ 4294967295) : Calls Try.prog 11 #[.pointer (some ⟨b, 0, none⟩), .int .i64 i, .int .u32 t, .int .u32 cy] w fun e w' =>
    e = .returned (.int .i64 (putL l i (decide (1 ≤ t) && decide (t ≤ m) && cycB 1 m cy) t cy).2) ∧ B1 w' b M T m x (putL l i (decide (1 ≤ t) && decide (t ≤ m) && cycB 1 m cy) t cy).1 R ∧ Kept (bfoot b M) w w' := by
  obtain ⟨h1, h2⟩ := als_at i hi
  refine (rel_in (c := 0) h.bd (by rw [h.al]; exact h1) rfl rfl (by rw [h.al]; decide) ht).mono ?_
  rintro e w' ⟨rfl, hb, k⟩
  rw [h.al, h2] at hb ⊢
  exact ⟨rfl, ⟨hb, h.al, h.is, h.ct⟩, k⟩
theorem b1_abs {i t cy : Nat} (hi : i < 2) (h : B1 w b M T m x l R) (ht : t ≤ 4294967295) : Calls Try.prog 10 #[.pointer (some ⟨b, 0, none⟩), .int .i64 i, .int .u32 t, .int .u32 cy] w fun e w' =>
    e = .returned (.int .i64 (putL l i (decide (t ≤ m) && cycB 1 m cy) (until' m x t) cy).2) ∧ B1 w' b M T m x (putL l i (decide (t ≤ m) && cycB 1 m cy) (until' m x t) cy).1 R ∧ Kept (bfoot b M) w w' := by
  obtain ⟨h1, h2⟩ := als_at i hi
  refine (abs_in (c := 0) h.bd (by rw [h.al]; exact h1) rfl rfl (by rw [h.al]; decide) ht).mono ?_
  rintro e w' ⟨rfl, hb, k⟩
  rw [h.al, h2] at hb ⊢
  exact ⟨rfl, ⟨hb, h.al, h.is, h.ct⟩, k⟩
theorem b1_cancel {i : Nat} (hi : i < 2) (h : B1 w b M T m x l R) : Calls Try.prog 12 #[.pointer (some ⟨b, 0, none⟩), .int .i64 i] w fun e w' =>
    e = .returned (.int .i64 (cancelL l i).2) ∧ B1 w' b M T m x (cancelL l i).1 R ∧ Kept (bfoot b M) w w' := by
  obtain ⟨h1, h2⟩ := als_at i hi
  refine (cancel_in (c := 0) h.bd (by rw [h.al]; exact h1) rfl rfl (by rw [h.al]; decide)).mono ?_
  rintro e w' ⟨rfl, hb, k⟩
  rw [h.al, h2] at hb ⊢
  exact ⟨rfl, ⟨hb, h.al, h.is, h.ct⟩, k⟩
theorem b1_left {i : Nat} (hi : i < 2) (h : B1 w b M T m x l R) : Calls Try.prog 15 #[.pointer (some ⟨b, 0, none⟩), .int .i64 i] w fun e w' =>
    e = .returned (.tuple #[.int .u32 (IntKind.u32.wrap ((ofA l i).2.1 : Int)), .int .i64 (ofS l i)]) ∧ Kept (fun _ => False) w w' := by
  obtain ⟨h1, h2⟩ := als_at i hi
  refine (left_in (c := 0) h.bd (by rw [h.al]; exact h1) rfl rfl (by rw [h.al]; decide)).mono ?_
  rintro e w' ⟨rfl, k⟩
  rw [h.al, h2]
  exact ⟨rfl, k⟩
theorem told_one {F : List Int} (h : ∀ a ∈ F, 0 ≤ a ∧ a < 2) (hT : T.alarms = [alR, alR]) : told T ((0 : Nat) : Int) F = F := by
  unfold told
  rw [hT, show alsOf [alR, alR] ((0 : Nat) : Int) = [0, 1] from rfl]
  conv => rhs; rw [← List.map_id F]
  apply List.map_congr_left
  intro a ha
  have := h a ha
  rcases (show a = 0 ∨ a = 1 by omega) with rfl | rfl <;> rfl
theorem b1_tick (h : B1 w b M T m x l R) (hl : l.length = 2) : Calls Try.prog 9 #[.pointer (some ⟨b, 0, none⟩), .int .i64 0] w fun e w' =>
    ∃ ao cc, e = .returned (.tuple #[.slice ao (fired l 0).length cc, .int .i64 0]) ∧ Ob w w' ao cc (fired l 0) ∧ B1 w' b M T m (after m x 1) (l.map tick1) R ∧ Kept (bfoot b M) w w' := by
  have hq := tick_in (c := 0) h.bd rfl (by rw [h.ct]; decide)
  refine hq.mono ?_
  rintro e w' ⟨ao, cc, rfl, ho, hb, k⟩
  rw [told_one (fun a ha => by have := fired_mem l 0 a ha; omega) h.al] at ho
  exact ⟨ao, cc, rfl, ho, ⟨hb, h.al, h.is, h.ct⟩, k⟩
theorem b1_request {i : Int} (h : B1 w b M T m x l R) : Calls Try.prog 13 #[.pointer (some ⟨b, 0, none⟩), .int .i64 i] w fun e w' =>
    ∃ R', e = .returned (.int .i64 (if 0 ≤ i ∧ i < 2 then 0 else 3)) ∧ B1 w' b M T m x l R' ∧ (R' = if 0 ≤ i ∧ i < 2 then R.set i.toNat true else R) ∧ Kept (bfoot b M) w w' := by
  have hq := request_ok (i := i) h.bd (by rw [h.is]; decide)
  rw [show (T.isrs.length : Int) = 2 by rw [h.is]; rfl] at hq
  refine hq.mono ?_
  rintro e w' ⟨R', rfl, hb, hR, k⟩
  exact ⟨R', rfl, ⟨hb, h.al, h.is, h.ct⟩, hR, k⟩
theorem b1_serve {i : Int} (h : B1 w b M T m x l R) : Calls Try.prog 14 #[.pointer (some ⟨b, 0, none⟩), .int .i64 i] w fun e w' =>
    ∃ v R', e = .returned (.int .i64 v) ∧ B1 w' b M T m x l R' ∧ Kept (bfoot b M) w w' := by
  refine (serve_ok (i := i) h.bd (by rw [h.is]; decide)).mono ?_
  rintro e w' ⟨R', rfl, hb, hR, k⟩
  exact ⟨_, R', rfl, ⟨hb, h.al, h.is, h.ct⟩, k⟩
end
end Go.Proofs.Ytemhfonneggneaa.BD
namespace Go.Proofs.Ytemhfonneggneaa.BD
open Go.RowKit Go.Fr Go.Tb Go.Proofs.Ytemhfonneggneaa.CK Go.Proofs.Ytemhfonneggneaa.TC

section
variable {w w' : World} {b : Nat} {M : Bm} {T : Tb} {m x : Nat} {l : List (Bool × Nat × Nat)} {R : List Bool} {S : Nat → Prop}
theorem h_rel (h : B1 w b M T 9 0 l0 R0) : Calls Try.prog 11 #[.pointer (some ⟨b, 0, none⟩), .int .i64 0, .int .u32 2, .int .u32 0] w fun e w' =>
    e = .returned (.int .i64 0) ∧ B1 w' b M T 9 0 [(true, 2, 0), (false, 0, 0)] R0 ∧ Kept (bfoot b M) w w' := b1_rel (i := 0) (t := 2) (cy := 0) (by omega) h (by omega)
theorem h_abs (h : B1 w b M T 9 0 [(true, 2, 0), (false, 0, 0)] R0) : Calls Try.prog 10 #[.pointer (some ⟨b, 0, none⟩), .int .i64 1, .int .u32 2, .int .u32 3] w fun e w' =>
    e = .returned (.int .i64 0) ∧ B1 w' b M T 9 0 [(true, 2, 0), (true, 2, 3)] R0 ∧ Kept (bfoot b M) w w' := b1_abs (i := 1) (t := 2) (cy := 3) (by omega) h (by omega)
theorem h_tick1 (h : B1 w b M T 9 0 [(true, 2, 0), (true, 2, 3)] R0) : Calls Try.prog 9 #[.pointer (some ⟨b, 0, none⟩), .int .i64 0] w fun e w' =>
    ∃ ao cc, e = .returned (.tuple #[.slice ao 0 cc, .int .i64 0]) ∧ B1 w' b M T 9 1 [(true, 1, 0), (true, 1, 3)] R0 ∧ Kept (bfoot b M) w w' := by
  refine (b1_tick h rfl).mono ?_
  rintro e w' ⟨ao, cc, rfl, _, hb, k⟩
  exact ⟨ao, cc, rfl, hb, k⟩
theorem h_tick2 (h : B1 w b M T 9 1 [(true, 1, 0), (true, 1, 3)] R0) : Calls Try.prog 9 #[.pointer (some ⟨b, 0, none⟩), .int .i64 0] w fun e w' =>
    ∃ g cc, e = .returned (.tuple #[.slice (some ⟨g, 0, none⟩) 2 cc, .int .i64 0]) ∧ w.heap.size ≤ g ∧ g < w'.heap.size ∧ w'.cell? ⟨g, 1, none⟩ = some (.int .i64 1) ∧ B1 w' b M T 9 2 [(false, 0, 0), (true, 3, 3)] R0 ∧ Kept (bfoot b M) w w' := by
  refine (b1_tick h rfl).mono ?_
  rintro e w' ⟨ao, cc, rfl, ho, hb, k⟩
  have hrow : Row w' 3 1 (.slice ao 2 cc) 2 [.int .i64 0, .int .i64 1] := ho.row
  rcases row_forms hrow with ⟨_, h0⟩ | ⟨gf, cf, hv, _⟩
  · omega
  cases hv
  have f1 := row_cell hrow 1 rfl
  exact ⟨gf, cc, rfl, ho.own gf rfl, World.block_lt_of_cell? w' _ f1, f1, hb, k⟩
theorem h_request (h : B1 w b M T 9 2 l R0) : Calls Try.prog 13 #[.pointer (some ⟨b, 0, none⟩), .int .i64 0] w fun e w' =>
    e = .returned (.int .i64 0) ∧ B1 w' b M T 9 2 l (R0.set 0 true) ∧ Kept (bfoot b M) w w' := by
  refine (b1_request (i := 0) h).mono ?_
  rintro e w' ⟨R', rfl, hb, hR, k⟩
  rw [if_pos (by omega)] at hR
  subst hR
  exact ⟨rfl, hb, k⟩
theorem r0_at {i : Nat} (h : (R0.set 0 true)[i]? = some true) : i = 0 := by
  rw [List.getElem?_set] at h
  split at h
  · omega
  · unfold R0 at h
    rw [List.getElem?_replicate] at h
    split at h <;> simp at h
theorem h_next {lv : Int} {r : Int} {q : Bool} (h : B1 w b M T 9 2 l (R0.set 0 true)) (hn : nextOf T (R0.set 0 true) lv (false, 0, 0) = (r, 70)) (hq : decide (0 ≤ r) = q) : Calls Try.prog 23 #[.pointer (some ⟨b, 0, none⟩), .int .i64 lv, .agg #[.bool false, .int .i64 0, .int .i64 0]] w fun e w' =>
    e = .returned (.tuple #[.int .i64 r, .bool q]) ∧ Kept (fun _ => False) w w' := by
  have := next_ok lv (false, 0, 0) h.bd (fun i hi => by rw [r0_at hi, h.is]; decide)
  rw [hn] at this
  rw [← hq]
  exact this
theorem req_one : reqB (R0.set 0 true) 32 = [0] := by decide
theorem next_a (h : T.isrs = [⟨2, 70, none, 0, []⟩, ⟨1, 90, none, 0, []⟩]) : nextOf T (R0.set 0 true) 69 (false, 0, 0) = (0, 70) := by
  unfold nextOf
  rw [req_one]
  simp [pick, h]
theorem next_b (h : T.isrs = [⟨2, 70, none, 0, []⟩, ⟨1, 90, none, 0, []⟩]) : nextOf T (R0.set 0 true) 70 (false, 0, 0) = (-1, 70) := by
  unfold nextOf
  rw [req_one]
  simp [pick, h]
theorem h_counters (h : B1 w b M T 9 2 l R) : Calls Try.prog 24 #[.pointer (some ⟨b, 0, none⟩)] w fun e w' =>
    ∃ g cc, e = .returned (.slice (some ⟨g, 0, none⟩) 1 cc) ∧ w'.cell? ⟨g, 0, none⟩ = some (.int .u32 2) ∧ Kept (fun _ => False) w w' := by
  refine (counters_ok h.bd (by rw [h.ct]; decide)).mono ?_
  rintro e w' ⟨ao, c, rfl, hr, _, k⟩
  have hrow : Row w' 22 1 (.slice ao 1 c) 1 [.int .u32 2] := hr
  rcases row_forms hrow with ⟨_, h0⟩ | ⟨gf, cf, hv, _⟩
  · omega
  cases hv
  have f1 := row_cell hrow 0 rfl
  exact ⟨gf, c, rfl, f1, k⟩

set_option maxRecDepth 100000 in
set_option maxHeartbeats 4000000 in
theorem heads_ok (w : World) : Calls Try.prog 6 #[] w fun e w' => e = .returned (.bool true) ∧ Kept (fun _ => False) w w' := by
  go_enter Try.func6, Try.ntmps6
  go_wp2_with fail
  refine (one_raw ((9 : Nat) : Int)).mono ?_
  rintro e w1 ⟨ta, ra, ca, aa, ia, rfl, hT, k1⟩
  have K1 := Lib.hid k1
  have hnew := b1_new (most := 9) (by omega) hT
  obtain ⟨T, hTe⟩ : ∃ T, oneT ((9 : Nat) : Int) ta ra ca aa ia = T := ⟨_, rfl⟩
  rw [hTe] at hnew ⊢
  obtain ⟨Z, hZ⟩ : ∃ Z, T.cells.toArray = Z := ⟨_, rfl⟩
  rw [hZ] at hnew ⊢
  clear hT k1 hTe hZ
  go_wp2_with fail
  refine hnew.mono ?_
  rintro e w2 (⟨hc, _⟩ | ⟨_, b, M, rfl, hb, hf, k2⟩)
  · omega
  have HT := Lib.hid hb.is
  have HF := Lib.hid hf
  have HB := Lib.hid hb
  have K2 := Lib.hid k2
  clear hb hf k2 hnew
  go_wp2_with fail
  refine (h_rel HB.out).mono ?_
  rintro e w3 ⟨rfl, hb, k⟩
  have K3 := Lib.hid k
  replace HB := Lib.hid hb
  clear hb k
  go_wp2_with fail
  refine (h_abs HB.out).mono ?_
  rintro e w4 ⟨rfl, hb, k⟩
  replace K3 := Lib.hid (K3.out.then k (fun _ x => Or.inl x))
  replace HB := Lib.hid hb
  clear hb k
  go_wp2_with fail
  refine (h_tick1 HB.out).mono ?_
  rintro e w5 ⟨ao1, c1, rfl, hb, k⟩
  replace K3 := Lib.hid (K3.out.then k (fun _ x => Or.inl x))
  replace HB := Lib.hid hb
  clear hb k
  go_wp2_with fail
  refine (h_tick2 HB.out).mono ?_
  rintro e w6 ⟨g, c2, rfl, hg, hg6, y1, hb, k⟩
  have hnf : Hid (¬ bfoot b M g) := fun hf => by have := HB.out.bd.lt g hf; omega
  replace K3 := Lib.hid (K3.out.then k (fun _ x => Or.inl x))
  replace HB := Lib.hid hb
  have Y1 := Lib.hid y1
  clear hb k hg y1
  go_wp2_with fail
  refine (h_request HB.out).mono ?_
  rintro e w7 ⟨rfl, hb, k⟩
  replace K3 := Lib.hid (K3.out.then k (fun _ x => Or.inl x))
  replace HB := Lib.hid hb
  have K7 := Lib.hid k
  clear hb k
  go_wp2_with fail
  refine (h_next HB.out (next_a HT.out) rfl).mono ?_
  rintro e w8 ⟨rfl, k⟩
  replace K3 := Lib.hid (K3.out.then k (fun _ x => x.elim))
  replace HB := Lib.hid (HB.out.same k)
  replace K7 := Lib.hid (K7.out.then k (fun _ x => x.elim))
  clear k
  go_wp2_with fail
  refine (h_next HB.out (next_b HT.out) rfl).mono ?_
  rintro e w9 ⟨rfl, k⟩
  replace K3 := Lib.hid (K3.out.then k (fun _ x => x.elim))
  replace HB := Lib.hid (HB.out.same k)
  replace K7 := Lib.hid (K7.out.then k (fun _ x => x.elim))
  clear k
  go_wp2_with fail
  refine (h_counters HB.out).mono ?_
  rintro e w10 ⟨gv, cv, rfl, v0, k⟩
  replace K3 := Lib.hid (K3.out.then k (fun _ x => x.elim))
  replace K7 := Lib.hid (K7.out.then k (fun _ x => x.elim))
  have q1 := (K7.out.cell (p := ⟨g, 1, none⟩) hg6 hnf.out).trans Y1.out
  have KE : Hid (Kept (fun _ => False) w w10) := (K1.out.then K2.out (fun _ x => x.elim)).then K3.out (fun q hq => Or.inr (Nat.le_trans K1.out.size (HF.out q hq)))
  clear k K1 K2 K3 K7 HB HF HT Y1 hnf hg6
  go_wp2_with fail
  go_ret
  exact ⟨rfl, KE.out⟩
end
end Go.Proofs.Ytemhfonneggneaa.BD
