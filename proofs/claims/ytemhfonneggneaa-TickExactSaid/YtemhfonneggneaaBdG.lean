/- The law's own board: one counter, two alarms on it, two ISRs. -/
import Derived.Test.YtemhfonneggneaaBdU
import Derived.Test.YtemhfonneggneaaBdW
import Derived.Test.YtemhfonneggneaaBdS
namespace Go.Proofs.Ytemhfonneggneaa.BD
open Go.RowKit Go.Fr Go.Tb Go.Proofs.Ytemhfonneggneaa.CK Go.Proofs.Ytemhfonneggneaa.TC

/-- the law's own board -/
structure B1 (w : World) (b : Nat) (M : Bm) (T : Tb) (m x : Nat) (l : List (Bool × Nat × Nat)) (R : List Bool) : Prop where
  bd : IsBd w b M T [⟨m, 1, x, l⟩] R
  al : T.alarms = [alR, alR]
  is : T.isrs = [⟨2, 70, none, 0, []⟩, ⟨1, 90, none, 0, []⟩]
  ct : T.counters.length = 1

def l0 : List (Bool × Nat × Nat) := [(false, 0, 0), (false, 0, 0)]
def R0 : List Bool := List.replicate 32 false
theorem b1_new {w : World} {most : Nat} (hm : most ≤ 4294967295) {ta ra ca aa ia : Option Addr} (hT : TabIn w (oneT most ta ra ca aa ia)) :
    Calls Try.prog 7 #[.agg (oneT most ta ra ca aa ia).cells.toArray] w fun e w' => (¬ (1 ≤ most ∧ most ≤ 2147483647) ∧ e = .returned (.tuple #[.pointer none, .int .i64 210]) ∧ Kept (fun _ => False) w w') ∨
      ((1 ≤ most ∧ most ≤ 2147483647) ∧ ∃ b M, e = .returned (.tuple #[.pointer (some ⟨b, 0, none⟩), .int .i64 0]) ∧ B1 w' b M (oneT most ta ra ca aa ia) most 0 l0 R0 ∧ (∀ q, bfoot b M q → w.heap.size ≤ q) ∧ Kept (fun _ => False) w w') := by
  refine (new_ok hT (one_wf hm ta ra ca aa ia) (by simp [oneT])).mono ?_
  rintro e w' (⟨hc, rfl, k⟩ | ⟨hc, b, M, C, rfl, hb, hf, k, hs⟩)
  · exact Or.inl ⟨fun h => hc ((one_check most ta ra ca aa ia).2 h), rfl, k⟩
  · refine Or.inr ⟨(one_check most ta ra ca aa ia).1 hc, b, M, rfl, ⟨?_, rfl, rfl, rfl⟩, hf, k⟩
    obtain ⟨_, _, hl⟩ := hb.lens
    have hl1 : C.length = 1 := hl
    obtain ⟨s, hs0⟩ : ∃ s, C = [s] := by
      match C, hl1 with
      | [s], _ => exact ⟨s, rfl⟩
    subst hs0
    obtain ⟨h1, h2⟩ := hs 0 s rfl
    obtain ⟨h3, h4, h5⟩ := hb.nums 0 s ((most : Int), 1, 1) rfl rfl
    have e1 : s.mx = most := by dsimp only at h3; omega
    have e2 : s.mn = 1 := by dsimp only at h4; omega
    have e3 : s.l = l0 := h2
    obtain ⟨smx, smn, sx, sl⟩ := s
    dsimp only at h1 e1 e2 e3
    subst h1 e1 e2 e3
    exact hb

section
variable {w w' : World} {b : Nat} {M : Bm} {T : Tb} {m x : Nat} {l : List (Bool × Nat × Nat)} {R : List Bool} {S : Nat → Prop}
theorem B1.same (h : B1 w b M T m x l R) (k : Kept (fun _ => False) w w') : B1 w' b M T m x l R := { h with bd := h.bd.same k }
theorem B1.kept (h : B1 w b M T m x l R) (k : Kept S w w') (hn : ∀ g, bfoot b M g → ¬ S g) : B1 w' b M T m x l R := { h with bd := h.bd.kept k hn }
theorem als_at (i : Nat) (hi : i < 2) : ([alR, alR] : List AlarmR)[i]? = some alR ∧ (alsOf (([alR, alR] : List AlarmR).take i) ((0 : Nat) : Int)).length = i := by
  rcases (show i = 0 ∨ i = 1 by omega) with rfl | rfl
  · exact ⟨rfl, rfl⟩
  · exact ⟨rfl, rfl⟩
theorem b1_rel {i t cy : Nat} (hi : i < 2) (h : B1 w b M T m x l R) (ht : t ≤ 4294967295) : Calls Try.prog 11 #[.pointer (some ⟨b, 0, none⟩), .int .i64 i, .int .u32 t, .int .u32 cy] w fun e w' =>
    e = .returned (.int .i64 (putL l i (decide (1 ≤ t) && decide (t ≤ m) && cycB 1 m cy) t cy).2) ∧ B1 w' b M T m x (putL l i (decide (1 ≤ t) && decide (t ≤ m) && cycB 1 m cy) t cy).1 R ∧ Kept (bfoot b M) w w' := by
  obtain ⟨h1, h2⟩ := als_at i hi
  refine (rel_in (c := 0) h.bd (by rw [h.al]; exact h1) rfl rfl (by rw [h.al]; decide) ht).mono ?_
  rintro e w' ⟨rfl, hb, k⟩
  rw [h.al, h2] at hb ⊢
  exact ⟨rfl, ⟨hb, h.al, h.is, h.ct⟩, k⟩
theorem b1_abs {i t cy : Nat} (hi : i < 2) (h : B1 w b M T m x l R) (ht : t ≤ 4294967295) : Calls Try.prog 10 #[.pointer (some ⟨b, 0, none⟩), .int .i64 i, .int .u32 t, .int .u32 cy] w fun e w' =>
    e = .returned (.int .i64 (putL l i (decide (t ≤ m) && cycB 1 m cy) (until' m x t) cy).2) ∧ B1 w' b M T m x (putL l i (decide (t ≤ m) && cycB 1 m cy) (until' m x t) cy).1 R ∧ Kept (bfoot b M) w w' := by
  obtain ⟨h1, h2⟩ := als_at i hi
  refine (abs_in (c := 0) h.bd (by rw [h.al]; exact h1) rfl rfl (by rw [h.al]; decide) ht).mono ?_
  rintro e w' ⟨rfl, hb, k⟩
  rw [h.al, h2] at hb ⊢
  exact ⟨rfl, ⟨hb, h.al, h.is, h.ct⟩, k⟩
theorem b1_cancel {i : Nat} (hi : i < 2) (h : B1 w b M T m x l R) : Calls Try.prog 12 #[.pointer (some ⟨b, 0, none⟩), .int .i64 i] w fun e w' =>
    e = .returned (.int .i64 (cancelL l i).2) ∧ B1 w' b M T m x (cancelL l i).1 R ∧ Kept (bfoot b M) w w' := by
  obtain ⟨h1, h2⟩ := als_at i hi
  refine (cancel_in (c := 0) h.bd (by rw [h.al]; exact h1) rfl rfl (by rw [h.al]; decide)).mono ?_
  rintro e w' ⟨rfl, hb, k⟩
  rw [h.al, h2] at hb ⊢
  exact ⟨rfl, ⟨hb, h.al, h.is, h.ct⟩, k⟩
theorem b1_left {i : Nat} (hi : i < 2) (h : B1 w b M T m x l R) : Calls Try.prog 15 #[.pointer (some ⟨b, 0, none⟩), .int .i64 i] w fun e w' =>
    e = .returned (.tuple #[.int .u32 (IntKind.u32.wrap ((ofA l i).2.1 : Int)), .int .i64 (ofS l i)]) ∧ Kept (fun _ => False) w w' := by
  obtain ⟨h1, h2⟩ := als_at i hi
  refine (left_in (c := 0) h.bd (by rw [h.al]; exact h1) rfl rfl (by rw [h.al]; decide)).mono ?_
  rintro e w' ⟨rfl, k⟩
  rw [h.al, h2]
  exact ⟨rfl, k⟩
theorem told_one {F : List Int} (h : ∀ a ∈ F, 0 ≤ a ∧ a < 2) (hT : T.alarms = [alR, alR]) : told T ((0 : Nat) : Int) F = F := by
  unfold told
  rw [hT, show alsOf [alR, alR] ((0 : Nat) : Int) = [0, 1] from rfl]
  conv => rhs; rw [← List.map_id F]
  apply List.map_congr_left
  intro a ha
  have := h a ha
  rcases (show a = 0 ∨ a = 1 by omega) with rfl | rfl <;> rfl
theorem b1_tick (h : B1 w b M T m x l R) (hl : l.length = 2) : Calls Try.prog 9 #[.pointer (some ⟨b, 0, none⟩), .int .i64 0] w fun e w' =>
    ∃ ao cc, e = .returned (.tuple #[.slice ao (fired l 0).length cc, .int .i64 0]) ∧ Ob w w' ao cc (fired l 0) ∧ B1 w' b M T m (after m x 1) (l.map tick1) R ∧ Kept (bfoot b M) w w' := by
  have hq := tick_in (c := 0) h.bd rfl (by rw [h.ct]; decide)
  refine hq.mono ?_
  rintro e w' ⟨ao, cc, rfl, ho, hb, k⟩
  rw [told_one (fun a ha => by have := fired_mem l 0 a ha; omega) h.al] at ho
  exact ⟨ao, cc, rfl, ho, ⟨hb, h.al, h.is, h.ct⟩, k⟩
theorem b1_request {i : Int} (h : B1 w b M T m x l R) : Calls Try.prog 13 #[.pointer (some ⟨b, 0, none⟩), .int .i64 i] w fun e w' =>
    ∃ R', e = .returned (.int .i64 (if 0 ≤ i ∧ i < 2 then 0 else 3)) ∧ B1 w' b M T m x l R' ∧ (R' = if 0 ≤ i ∧ i < 2 then R.set i.toNat true else R) ∧ Kept (bfoot b M) w w' := by
  have hq := request_ok (i := i) h.bd (by rw [h.is]; decide)
  rw [show (T.isrs.length : Int) = 2 by rw [h.is]; rfl] at hq
  refine hq.mono ?_
  rintro e w' ⟨R', rfl, hb, hR, k⟩
  exact ⟨R', rfl, ⟨hb, h.al, h.is, h.ct⟩, hR, k⟩
theorem b1_serve {i : Int} (h : B1 w b M T m x l R) : Calls Try.prog 14 #[.pointer (some ⟨b, 0, none⟩), .int .i64 i] w fun e w' =>
    ∃ v R', e = .returned (.int .i64 v) ∧ B1 w' b M T m x l R' ∧ Kept (bfoot b M) w w' := by
  refine (serve_ok (i := i) h.bd (by rw [h.is]; decide)).mono ?_
  rintro e w' ⟨R', rfl, hb, hR, k⟩
  exact ⟨_, R', rfl, ⟨hb, h.al, h.is, h.ct⟩, k⟩
end
end Go.Proofs.Ytemhfonneggneaa.BD
