/- The two boards side by side: Tick, Calm. -/
import Derived.Test.YtemhfonneggneaaBsI
namespace Go.Proofs.Ytemhfonneggneaa.BP
open Go.RowKit Go.Fr Go.Tb Go.Proofs.Ytemhfonneggneaa.CK Go.Proofs.Ytemhfonneggneaa.BD Go.Proofs.Ytemhfonneggneaa.RB Go.Proofs.Ytemhfonneggneaa.BS
section
variable {W w w' : World} {b : Nat} {M : Bm} {p : Nat} {Q : Rm} {T : Tb} {V V' : List Nat} {A A' : List (Bool × Nat × Nat)} {R R' : List Bool} {S : Nat → Prop}
theorem ob_at {w wr w' : World} {ao : Option Addr} {c : Nat} {O : List Int} (h : Ob w wr ao c O) (hs : w' = wr) (_ : w'.heap.size ≤ w.heap.size ∨ True) : Ob w w' ao c O := by subst hs; exact h
theorem two_tick (hE : Ev W T) (h : Bo W w b M p Q T V A R) (i : Int) : ∃ (O : List Int) (z : Int) (V' : List Nat) (A' : List (Bool × Nat × Nat)),
    Calls Try.prog 9 #[.pointer (some ⟨b, 0, none⟩), .int .i64 i] w fun e w1 => ∃ ao cc, e = .returned (.tuple #[.slice ao O.length cc, .int .i64 z]) ∧ Ob w w1 ao cc O ∧ Kept (bfoot b M) w w1 ∧
      ∀ w2, Kept (fun g => w.heap.size ≤ g) w1 w2 → Calls Try.prog 38 #[.pointer (some ⟨p, 0, none⟩), .int .i64 i] w2 fun e w3 => ∃ ao' cc', e = .returned (.tuple #[.slice ao' O.length cc', .int .i64 z]) ∧ Ob w2 w3 ao' cc' O ∧ Bo W w3 b M p Q T V' A' R ∧ Kept (rfoot p Q) w2 w3 := by
  have key : ∀ (O : List Int) (z : Int) (V' : List Nat) (A' : List (Bool × Nat × Nat)), BS.Good A' →
      Calls Try.prog 9 #[.pointer (some ⟨b, 0, none⟩), .int .i64 i] w (fun e w1 => ∃ ao cc, e = .returned (.tuple #[.slice ao O.length cc, .int .i64 z]) ∧ Ob w w1 ao cc O ∧ IsBs w1 b M T V' A' R ∧ Kept (bfoot b M) w w1) →
      (∀ w2, Dd w2 p Q T V A R → Calls Try.prog 38 #[.pointer (some ⟨p, 0, none⟩), .int .i64 i] w2 fun e w3 => ∃ ao' cc', e = .returned (.tuple #[.slice ao' O.length cc', .int .i64 z]) ∧ Ob w2 w3 ao' cc' O ∧ IsRb w3 p Q T V' A' R ∧ Kept (rfoot p Q) w2 w3) →
      Calls Try.prog 9 #[.pointer (some ⟨b, 0, none⟩), .int .i64 i] w fun e w1 => ∃ ao cc, e = .returned (.tuple #[.slice ao O.length cc, .int .i64 z]) ∧ Ob w w1 ao cc O ∧ Kept (bfoot b M) w w1 ∧
        ∀ w2, Kept (fun g => w.heap.size ≤ g) w1 w2 → Calls Try.prog 38 #[.pointer (some ⟨p, 0, none⟩), .int .i64 i] w2 fun e w3 => ∃ ao' cc', e = .returned (.tuple #[.slice ao' O.length cc', .int .i64 z]) ∧ Ob w2 w3 ao' cc' O ∧ Bo W w3 b M p Q T V' A' R ∧ Kept (rfoot p Q) w2 w3 := by
    intro O z V' A' hG P D
    refine Calls.mono P ?_
    rintro e w1 ⟨ao, cc, rfl, o1, s1, k1⟩
    refine ⟨ao, cc, rfl, o1, k1, fun w2 k2 => ?_⟩
    have hws := h.low.size
    have hw1 := k1.size
    have hw2 := k2.size
    have s2 := s1.kept k2 (fun g hg e => by have := h.ltb g hg; omega)
    have d1 := h.d.kept k1 (fun g hg e => h.apart g e hg)
    have d2 := d1.kept k2 (fun g hg e => by have := h.ltp g hg; omega)
    have l1 := k1.belowTrans h.low hws h.lo
    have l2 := k2.belowTrans l1 (by omega) (fun g hg => by omega)
    have tabs : ∀ wx, Kept (rfoot p Q) w2 wx → TabIn wx T := fun wx kx => hE.tab.below (kx.belowTrans l2 (by omega) h.lod)
    refine (D w2 ⟨d2, tabs w2 (Kept.refl _ _), tabs⟩).mono ?_
    rintro e w3 ⟨ao', cc', rfl, o3, d3, k3⟩
    exact ⟨ao', cc', rfl, o3, ⟨s2.kept k3 (fun g hg e => h.apart g hg e), d3, k3.belowTrans l2 (by omega) h.lod, h.lo, h.lod, h.apart, hG⟩, k3⟩
  by_cases hi : 0 ≤ i ∧ i < T.counters.length
  · obtain ⟨c, rfl⟩ := Int.eq_ofNat_of_zero_le hi.1
    have hcl : c < T.counters.length := by have := hi.2; omega
    obtain ⟨r, hr0, _⟩ := at_of hcl
    obtain ⟨mx, mn, e1, e2, hmx⟩ := hE.ok.cs c r hr0
    have hr : T.counters[c]? = some ((mx : Int), r.2.1, (mn : Int)) := by rw [hr0, ← e1, ← e2]
    have hv : V[c]? = some (V.getD c 0) := by
      have h1 : c < V.length := by rw [h.s.lv]; exact hcl
      simp [List.getD_eq_getElem?_getD, h1]
    have hvm := val_of h.s hr hv
    have em : (mkS T V A c).mx = mx := by show (ctr T c).1.toNat = mx; rw [ctr_of hr]; simp
    refine ⟨_, _, _, _, key (fireA T c A A.length) 0 (V.set c (after mx (V.getD c 0) 1)) (tkA T c A A.length) (good_tick h.s hE.ok h.good c A.length) ?_ (fun w2 hd => RB.tick_in hd.d hd.tabs hv hr hvm hmx (h.v64 hE.ok) (h.a64 hE.ok) (fun a ha he => ?_))⟩
    · have := s_tick h.s hE.ok hcl
      rw [em] at this
      exact this
    · obtain ⟨k, hk⟩ := List.mem_iff_getElem?.1 ha
      have h1 := (fine_of h.s hE.ok hk).1 he
      have h2 := (h.good a ha).2
      omega
  · have hiv : ¬ (0 ≤ i ∧ i < V.length) := by rw [h.s.lv]; exact hi
    refine ⟨_, _, _, _, key [] 2 V A h.good ((BD.tick_out h.s.bd hi).mono ?_) (fun w2 hd => (RB.tick_no hd.d hiv).mono ?_)⟩
    · rintro e w1 ⟨rfl, rfl⟩
      exact ⟨none, 0, rfl, ob_nil _, h.s, Kept.refl _ _⟩
    · rintro e w1 ⟨rfl, rfl⟩
      exact ⟨none, 0, rfl, ob_nil _, hd.d, Kept.refl _ _⟩
theorem two_calm (hE : Ev W T) (h : Bo W w b M p Q T V A R) : 
    Calls Try.prog 51 #[.pointer (some ⟨p, 0, none⟩)] w fun e w1 => e = .returned (.tuple #[]) ∧ Kept (rfoot p Q) w w1 ∧ ∃ Q', (∀ g, rfoot p Q' g → rfoot p Q g ∨ w.heap.size ≤ g) ∧
      ∀ w2, Kept (fun g => w1.heap.size ≤ g) w1 w2 → Calls Try.prog 19 #[.pointer (some ⟨b, 0, none⟩)] w2 fun e w3 => e = .returned (.int .i64 0) ∧ Bo W w3 b M p Q' T V (List.replicate A.length z0) (List.replicate R.length false) ∧ Kept (bfoot b M) w2 w3 := by
  refine (RB.calm_ok h.d (h.a64 hE.ok) (h.r32 hE.ok)).mono ?_
  rintro e w1 ⟨Q', rfl, d1, hq, k1⟩
  refine ⟨rfl, k1, Q', hq, fun w2 k2 => ?_⟩
  have hws := h.low.size
  have hw1 := k1.size
  have hw2 := k2.size
  have s1 := h.s.kept k1 (fun g hg e => h.apart g hg e)
  have s2 := s1.kept k2 (fun g hg e => by have := h.ltb g hg; omega)
  have d2 := d1.kept k2 (fun g hg e => by have := d1.lt g hg; omega)
  have l1 := k1.belowTrans h.low hws h.lod
  have l2 := k2.belowTrans l1 (by omega) (fun g hg => by omega)
  have ap : ∀ g, bfoot b M g → ¬ rfoot p Q' g := fun g hg e => (hq g e).elim (fun e => h.apart g hg e) (fun e => by have := h.ltb g hg; omega)
  refine (s_calm s2 hE.ok h.good).mono ?_
  rintro e w3 ⟨rfl, s3, k3⟩
  exact ⟨rfl, ⟨s3, d2.kept k3 (fun g hg e => ap g e hg), k3.belowTrans l2 (by omega) h.lo, h.lo, fun g hg => (hq g hg).elim (h.lod g) (fun e => by omega), ap, good_rep _⟩, k3⟩
end
end Go.Proofs.Ytemhfonneggneaa.BP
