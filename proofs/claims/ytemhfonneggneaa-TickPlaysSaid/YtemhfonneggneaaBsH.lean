/- The program's board and the document's, side by side. -/
import Derived.Test.YtemhfonneggneaaBsG
import Derived.Test.YtemhfonneggneaaRbJ
namespace Go.Proofs.Ytemhfonneggneaa.BP
open Go.RowKit Go.Fr Go.Tb Go.Proofs.Ytemhfonneggneaa.CK Go.Proofs.Ytemhfonneggneaa.BD Go.Proofs.Ytemhfonneggneaa.RB Go.Proofs.Ytemhfonneggneaa.BS

/-- the tables lie at W, and may be -/
structure Ev (W : World) (T : Tb) : Prop where
  tab : TabIn W T
  ok : TOk T
/-- the two boards -/
structure Bo (W w : World) (b : Nat) (M : Bm) (p : Nat) (Q : Rm) (T : Tb) (V : List Nat) (A : List (Bool × Nat × Nat)) (R : List Bool) : Prop where
  s : IsBs w b M T V A R
  d : IsRb w p Q T V A R
  low : Below W.heap.size W w
  lo : ∀ g, bfoot b M g → W.heap.size ≤ g
  lod : ∀ g, rfoot p Q g → W.heap.size ≤ g
  apart : ∀ g, bfoot b M g → ¬ rfoot p Q g
  good : BS.Good A
section
variable {W w w' : World} {b : Nat} {M : Bm} {p : Nat} {Q : Rm} {T : Tb} {V V' : List Nat} {A A' : List (Bool × Nat × Nat)} {R R' : List Bool} {S : Nat → Prop}
theorem Bo.kept (h : Bo W w b M p Q T V A R) (k : Kept S w w') (hb : ∀ g, bfoot b M g → ¬ S g) (hp : ∀ g, rfoot p Q g → ¬ S g) (hl : ∀ g, S g → W.heap.size ≤ g) : Bo W w' b M p Q T V A R :=
  ⟨h.s.kept k hb, h.d.kept k hp, k.belowTrans h.low h.low.size hl, h.lo, h.lod, h.apart, h.good⟩
theorem Bo.same (h : Bo W w b M p Q T V A R) (k : Kept (fun _ => False) w w') : Bo W w' b M p Q T V A R := h.kept k (fun _ _ x => x) (fun _ _ x => x) (fun _ x => x.elim)
theorem Bo.ltb (h : Bo W w b M p Q T V A R) : ∀ g, bfoot b M g → g < w.heap.size := h.s.bd.lt
theorem Bo.ltp (h : Bo W w b M p Q T V A R) : ∀ g, rfoot p Q g → g < w.heap.size := h.d.lt

/-- a call of the one, then a call of the other -/
def Two (W w : World) (b : Nat) (M : Bm) (p : Nat) (Q : Rm) (T : Tb) (V' : List Nat) (A' : List (Bool × Nat × Nat)) (R' : List Bool) (f1 : Nat) (a1 : Array Value) (f2 : Nat) (a2 : Array Value) (v1 v2 : Value) : Prop :=
  Calls Try.prog f1 a1 w fun e w1 => e = .returned v1 ∧ Kept (bfoot b M) w w1 ∧ ∀ w2, Kept (fun g => w.heap.size ≤ g) w1 w2 → Calls Try.prog f2 a2 w2 fun e w3 => e = .returned v2 ∧ Bo W w3 b M p Q T V' A' R' ∧ Kept (rfoot p Q) w2 w3
/-- what may be asked of the document's board -/
structure Dd (w : World) (p : Nat) (Q : Rm) (T : Tb) (V : List Nat) (A : List (Bool × Nat × Nat)) (R : List Bool) : Prop where
  d : IsRb w p Q T V A R
  tab : TabIn w T
  tabs : ∀ wx, Kept (rfoot p Q) w wx → TabIn wx T
theorem two_of {f1 f2 : Nat} {a1 a2 : Array Value} {v1 v2 : Value} (hE : Ev W T) (h : Bo W w b M p Q T V A R) (hG : BS.Good A')
    (P : Calls Try.prog f1 a1 w fun e w1 => e = .returned v1 ∧ IsBs w1 b M T V' A' R' ∧ Kept (bfoot b M) w w1)
    (D : ∀ w2, Dd w2 p Q T V A R → Calls Try.prog f2 a2 w2 fun e w3 => e = .returned v2 ∧ IsRb w3 p Q T V' A' R' ∧ Kept (rfoot p Q) w2 w3) :
    Two W w b M p Q T V' A' R' f1 a1 f2 a2 v1 v2 := by
  refine Calls.mono P ?_
  rintro e w1 ⟨rfl, s1, k1⟩
  refine ⟨rfl, k1, fun w2 k2 => ?_⟩
  have hws := h.low.size
  have hw1 := k1.size
  have hw2 := k2.size
  have s2 := s1.kept k2 (fun g hg e => by have := h.ltb g hg; omega)
  have d1 := h.d.kept k1 (fun g hg e => h.apart g e hg)
  have d2 := d1.kept k2 (fun g hg e => by have := h.ltp g hg; omega)
  have l1 := k1.belowTrans h.low hws h.lo
  have l2 := k2.belowTrans l1 (by omega) (fun g hg => by omega)
  have tabs : ∀ wx, Kept (rfoot p Q) w2 wx → TabIn wx T := fun wx kx => hE.tab.below (kx.belowTrans l2 (by omega) h.lod)
  refine (D w2 ⟨d2, tabs w2 (Kept.refl _ _), tabs⟩).mono ?_
  rintro e w3 ⟨rfl, d3, k3⟩
  exact ⟨rfl, ⟨s2.kept k3 (fun g hg e => h.apart g hg e), d3, k3.belowTrans l2 (by omega) h.lod, h.lo, h.lod, h.apart, hG⟩, k3⟩

theorem good_set (hg : BS.Good A) {k : Nat} {a : Bool × Nat × Nat} (ha : (a.1 = false → a = z0) ∧ a.2.1 ≤ 2147483648) : BS.Good (A.set k a) := by
  intro x hx
  rcases List.mem_or_eq_of_mem_set hx with h | rfl
  · exact hg x h
  · exact ha
theorem good_put (hg : BS.Good A) (i : Int) {F : Bool} {lf : Nat} (cy : Nat) (h : F = true → lf ≤ 2147483648) : BS.Good (putL A i F lf cy).1 := by
  unfold putL
  split
  · split
    · exact hg
    · split
      · exact hg
      · split
        · rename_i hF
          exact good_set hg ⟨fun e => (by cases e), h hF⟩
        · exact hg
  · exact hg
theorem good_cancel (hg : BS.Good A) (i : Int) : BS.Good (cancelL A i).1 := by
  unfold cancelL
  split
  · split
    · exact hg
    · split
      · exact good_set hg ⟨fun _ => rfl, Nat.zero_le _⟩
      · exact hg
  · exact hg
theorem good_rep (n : Nat) : BS.Good (List.replicate n z0) := by
  intro x hx
  rw [List.eq_of_mem_replicate hx]
  exact ⟨fun _ => rfl, Nat.zero_le _⟩
/-- what the clocks' own bounds say of the alarms -/
theorem fine_of (hs : IsBs w b M T V A R) (hk : TOk T) {k : Nat} {a : Bool × Nat × Nat} (ha : A[k]? = some a) : (a.1 = true → 1 ≤ a.2.1) ∧ a.2.2 ≤ 2147483647 := by
  have hkl : k < T.alarms.length := by rw [← hs.la]; exact (List.getElem?_eq_some_iff.1 ha).1
  obtain ⟨x, hx, _⟩ := at_of hkl
  obtain ⟨c, mx, mn, bs, hxc, hr, _, hmx, _⟩ := hk.al k x hx
  obtain ⟨m1, m2, m3, _, m5⟩ := mks (V := V) hx hxc hr ha
  have hcl := (List.getElem?_eq_some_iff.1 hr).1
  obtain ⟨s, cb, v, r, h1, h2, _⟩ := hs.bd.at hcl
  rw [m1] at h1
  cases h1
  have hf := (hs.bd.clk c _ cb m1 h2).2.2.2
  have hm := List.mem_of_getElem? m5
  exact ⟨hf.hset a hm, Nat.le_trans (hf.hcycle a hm) hf.hmost⟩
theorem val_of (hs : IsBs w b M T V A R) {c : Nat} {mx mn now : Nat} {bs : Int} (hr : T.counters[c]? = some ((mx : Int), bs, (mn : Int))) (hv : V[c]? = some now) : now ≤ mx := by
  have hcl := (List.getElem?_eq_some_iff.1 hr).1
  obtain ⟨s, cb, v, r, h1, h2, _⟩ := hs.bd.at hcl
  rw [mkC_at hcl] at h1
  cases h1
  have hf := (hs.bd.clk c _ cb (mkC_at hcl) h2).2.2.2.hvalue
  have e1 : (mkS T V A c).x = now := by show V.getD c 0 = now; simp [List.getD_eq_getElem?_getD, hv]
  have e2 : (mkS T V A c).mx = mx := by show (ctr T c).1.toNat = mx; rw [ctr_of hr]; simp
  rw [e1, e2] at hf
  exact hf
theorem good_tick (hs : IsBs w b M T V A R) (hk : TOk T) (hg : BS.Good A) (c n : Nat) : BS.Good (tkA T c A n) := by
  intro x hx
  obtain ⟨j, hj⟩ := List.mem_iff_getElem?.1 hx
  unfold tkA at hj
  rw [List.getElem?_mapIdx] at hj
  cases ha : A[j]? with
  | none => rw [ha] at hj; cases hj
  | some a =>
    rw [ha] at hj
    cases hj
    have h1 := hg a (List.mem_of_getElem? ha)
    have h2 := fine_of hs hk ha
    dsimp only
    split
    · unfold tick1
      split
      · split
        · split
          · exact ⟨fun _ => rfl, Nat.zero_le _⟩
          · exact ⟨fun e => (by cases e), by show a.2.2 ≤ _; omega⟩
        · exact ⟨fun e => (by cases e), by show a.2.1 - 1 ≤ _; omega⟩
      · exact h1
    · exact h1
theorem good_auto (hk : TOk T) (hg : BS.Good A) (mode n : Nat) : BS.Good (autA T mode A n) := by
  intro x hx
  obtain ⟨j, hj⟩ := List.mem_iff_getElem?.1 hx
  unfold autA at hj
  rw [List.getElem?_mapIdx] at hj
  cases ha : A[j]? with
  | none => rw [ha] at hj; cases hj
  | some a =>
    rw [ha] at hj
    cases hj
    have h1 := hg a (List.mem_of_getElem? ha)
    dsimp only
    split
    · unfold auM
      split
      · rename_i y hy
        split
        · rename_i hb
          obtain ⟨c, mx, mn, bs, _, _, _, hmx, _, _, hau⟩ := hk.al j y hy
          simp only [Bool.and_eq_true] at hb
          have h2 := hau (bit_on hb.1)
          exact ⟨fun e => (by cases e), by show y.time.toNat ≤ _; omega⟩
        · exact h1
      · exact h1
    · exact h1
end
end Go.Proofs.Ytemhfonneggneaa.BP
