/- The two boards: made by New, and a copy of both while the old one goes on. -/
import Derived.Test.YtemhfonneggneaaBsM
import Derived.Test.YtemhfonneggneaaBdH
namespace Go.Proofs.Ytemhfonneggneaa.BP
open Go.RowKit Go.Fr Go.Tb Go.Proofs.Ytemhfonneggneaa.CK Go.Proofs.Ytemhfonneggneaa.BD Go.Proofs.Ytemhfonneggneaa.RB Go.Proofs.Ytemhfonneggneaa.BS Go.Proofs.Ytemhfonneggneaa.TC

theorem getD_rep (n k : Nat) : (List.replicate n z0).getD k z0 = z0 := by
  rw [List.getD_eq_getElem?_getD, List.getElem?_replicate]
  split <;> rfl
theorem mkC_new {T : Tb} {C : List Cs} (hl : C.length = T.counters.length) (hx : ∀ (c : Nat) (s : Cs), C[c]? = some s → s.x = 0 ∧ s.l = List.replicate (alsOf T.alarms c).length (false, 0, 0))
    (hn : ∀ (c : Nat) (s : Cs) (r : Int × Int × Int), C[c]? = some s → T.counters[c]? = some r → r.1 = (s.mx : Int) ∧ r.2.2 = (s.mn : Int) ∧ s.l.length = (alsOf T.alarms c).length) :
    C = mkC T (List.replicate T.counters.length 0) (List.replicate T.alarms.length z0) := by
  apply List.ext_getElem?
  intro c
  by_cases hc : c < T.counters.length
  · have e1 : C[c]? = some (C[c]'(by omega)) := List.getElem?_eq_getElem (by omega)
    have e2 : T.counters[c]? = some (T.counters[c]'hc) := List.getElem?_eq_getElem hc
    obtain ⟨h1, h2⟩ := hx c _ e1
    obtain ⟨h3, h4, _⟩ := hn c _ _ e1 e2
    rw [mkC_at hc, e1]
    congr 1
    generalize (C[c]'(by omega)) = s at h1 h2 h3 h4
    obtain ⟨mx, mn, x, l⟩ := s
    dsimp only at h1 h2 h3 h4
    subst h1 h2
    unfold mkS
    rw [ctr_of e2, h3, h4]
    congr 1
    · rw [List.getD_eq_getElem?_getD, List.getElem?_replicate]
      split <;> rfl
    · symm
      rw [List.eq_replicate_iff]
      refine ⟨by simp, fun b hb => ?_⟩
      obtain ⟨a, _, rfl⟩ := List.mem_map.1 hb
      exact getD_rep _ _
  · rw [List.getElem?_eq_none (by omega), List.getElem?_eq_none (by rw [mkC_len]; omega)]
theorem pad_rep {n : Nat} (h : n ≤ 32) : List.replicate 32 false = pad (List.replicate n false) := by
  unfold pad
  rw [List.length_replicate, List.replicate_append_replicate]
  congr 1
  omega
section
variable {W w w' w1 w2 : World} {b : Nat} {M : Bm} {p : Nat} {Q : Rm} {T : Tb} {V : List Nat} {A : List (Bool × Nat × Nat)} {R : List Bool}
/-- the program's New -/
theorem new_p (hT : TabIn w T) (hW : T.Wf) (hic : T.isrs.length ≤ T.ic) :
    Calls Try.prog 7 #[.agg T.cells.toArray] w fun e w' => (¬ CheckP T ∧ e = .returned (.tuple #[.pointer none, .int .i64 210]) ∧ Kept (fun _ => False) w w') ∨
      (CheckP T ∧ ∃ b M, e = .returned (.tuple #[.pointer (some ⟨b, 0, none⟩), .int .i64 0]) ∧ IsBs w' b M T (List.replicate T.counters.length 0) (List.replicate T.alarms.length z0) (List.replicate T.isrs.length false) ∧ (∀ q, bfoot b M q → w.heap.size ≤ q) ∧ Kept (fun _ => False) w w') := by
  refine (BD.new_ok hT hW hic).mono ?_
  rintro e w' (h | ⟨hc, b, M, C, rfl, hB, hf, k, hx⟩)
  · exact Or.inl h
  · have hk := tok hc hW
    refine Or.inr ⟨hc, b, M, rfl, ⟨?_, by simp, by simp, by simp⟩, hf, k⟩
    rw [← mkC_new hB.lens.2.2 hx hB.nums, ← pad_rep hk.ni]
    exact hB
/-- both are made -/
theorem bo_new (s : IsBs w1 b M T (List.replicate T.counters.length 0) (List.replicate T.alarms.length z0) (List.replicate T.isrs.length false)) (hb : ∀ q, bfoot b M q → W.heap.size ≤ q) (hl : Below W.heap.size W w1)
    (d : IsRb w2 p Q T (List.replicate T.counters.length 0) (List.replicate T.alarms.length z3) (List.replicate T.isrs.length false)) (hp : ∀ q, rfoot p Q q → w1.heap.size ≤ q) (k : Kept (fun _ => False) w1 w2) :
    Bo W w2 b M p Q T (List.replicate T.counters.length 0) (List.replicate T.alarms.length z0) (List.replicate T.isrs.length false) := by
  have hs := hl.size
  exact ⟨s.kept k (fun _ _ x => x), d, k.belowTrans hl hs (fun _ x => x.elim), hb, fun g hg => Nat.le_trans hs (hp g hg), fun g hg e => by have := s.bd.lt g hg; have := hp g e; omega, good_rep _⟩

/-- two boards alike -/
def Both (W w : World) (b p : Nat) (T : Tb) : Prop := ∃ M, Alike W w b M p T
theorem Both.same (h : Both W w b p T) (k : Kept (fun _ => False) w w') : Both W w' b p T := by
  obtain ⟨M, Q, V, A, R, h⟩ := h
  exact ⟨M, Q, V, A, R, h.same k⟩
theorem both_does (hE : Ev W T) (h : Both W w b p T) (x : CallR) (hx : x.wf) :
    Calls Try.prog 20 #[.pointer (some ⟨b, 0, none⟩), .pointer (some ⟨p, 0, none⟩), .agg (encCall x).toArray] w fun e w' => e = .returned (.bool true) ∧ Both W w' b p T := by
  obtain ⟨M, Q, V, A, R, h⟩ := h
  refine (does_ok x hx hE h).mono ?_
  rintro e w' ⟨rfl, h⟩
  exact ⟨rfl, M, h⟩
theorem both_tells (hE : Ev W T) (h : Both W w b p T) : Calls Try.prog 21 #[.pointer (some ⟨b, 0, none⟩), .pointer (some ⟨p, 0, none⟩)] w fun e w' => e = .returned (.bool true) ∧ Both W w' b p T := by
  obtain ⟨M, Q, V, A, R, h⟩ := h
  refine (tells_ok hE h).mono ?_
  rintro e w' ⟨rfl, k⟩
  exact ⟨rfl, M, Q, V, A, R, h.same k⟩

/-- the old board beside the two new ones -/
structure Old (W w : World) (n : Nat) (b : Nat) (M : Bm) (N : Nat) (vc : Value) (K : List (Nat × Value)) (p : Nat) (Q : Rm) (T : Tb) (V : List Nat) (A : List (Bool × Nat × Nat)) (R : List Bool) (Vo : List Nat) (Ao : List (Bool × Nat × Nat)) (Ro : List Bool) : Prop where
  o : IsBs w b M T Vo Ao Ro
  og : BS.Good Ao
  nw : Bo W w N (cM M vc K) p Q T V A R
  lo : ∀ g, bfoot b M g → W.heap.size ≤ g
  lt : ∀ g, bfoot b M g → g < n
  nb : ¬ bfoot b M N
  nv : ∀ g, vc.ownBlock = some g → ¬ bfoot b M g
  nk : ∀ x ∈ K, ∀ g, foot x.1 x.2 g → ¬ bfoot b M g
  np : ∀ g, rfoot p Q g → ¬ bfoot b M g
theorem Old.step {n N : Nat} {vc : Value} {K : List (Nat × Value)} {Vo Vp : List Nat} {Ao Ap : List (Bool × Nat × Nat)} {Ro Rp : List Bool} (h : Old W w n b M N vc K p Q T V A R Vo Ao Ro) (s : IsBs w' b M T Vp Ap Rp) (hg : BS.Good Ap) (k : Kept (bfoot b M) w w') : Old W w' n b M N vc K p Q T V A R Vp Ap Rp := by
  obtain ⟨ho, og, ⟨hs, hd, hl, h1, h2, h3, h4⟩, lo, lt, nb, nv, nk, np⟩ := h
  refine ⟨s, hg, ⟨⟨BS.IsBd.beside hs.bd s.bd ⟨rfl, rfl, rfl, rfl, rfl⟩ k nb nv nk, hs.lv, hs.la, hs.lr⟩, hd.kept k np, k.belowTrans hl hl.size lo, h1, h2, h3, h4⟩, lo, lt, nb, nv, nk, np⟩
def Mid (W w : World) (n b N p : Nat) (T : Tb) : Prop := ∃ M vc K Q V A R Vo Ao Ro, Old W w n b M N vc K p Q T V A R Vo Ao Ro
theorem Mid.both {n N : Nat} (h : Mid W w n b N p T) : Both W w N p T := by
  obtain ⟨M, vc, K, Q, V, A, R, _, _, _, h⟩ := h
  exact ⟨_, _, _, _, _, h.nw⟩
theorem Mid.same {n N : Nat} (h : Mid W w n b N p T) (k : Kept (fun _ => False) w w') : Mid W w' n b N p T := by
  obtain ⟨M, vc, K, Q, V, A, R, Vo, Ao, Ro, h⟩ := h
  exact ⟨M, vc, K, Q, V, A, R, Vo, Ao, Ro, h.o.kept k (fun _ _ x => x), h.og, h.nw.same k, h.lo, h.lt, h.nb, h.nv, h.nk, h.np⟩
theorem mid_tick {n N : Nat} (hE : Ev W T) (h : Mid W w n b N p T) (i : Int) : Calls Try.prog 9 #[.pointer (some ⟨b, 0, none⟩), .int .i64 i] w fun e w' =>
    (∃ ao l c z, e = .returned (.tuple #[.slice ao l c, .int .i64 z])) ∧ Mid W w' n b N p T ∧ Kept (fun g => g < n) w w' := by
  obtain ⟨M, vc, K, Q, V, A, R, Vo, Ao, Ro, h⟩ := h
  by_cases hi : 0 ≤ i ∧ i < T.counters.length
  · obtain ⟨c, rfl⟩ := Int.eq_ofNat_of_zero_le hi.1
    refine (s_tick h.o hE.ok (by omega)).mono ?_
    rintro e w' ⟨ao, cc, rfl, _, hs, k⟩
    exact ⟨⟨_, _, _, _, rfl⟩, ⟨_, _, _, _, _, _, _, _, _, _, h.step hs (good_tick h.o hE.ok h.og _ _) k⟩, k.mono (fun g _ hg => h.lt g hg)⟩
  · refine (tick_out h.o.bd hi).mono ?_
    rintro e w' ⟨rfl, rfl⟩
    exact ⟨⟨_, _, _, _, rfl⟩, ⟨_, _, _, _, _, _, _, _, _, _, h⟩, Kept.refl _ _⟩
theorem mid_request {n N : Nat} (hE : Ev W T) (h : Mid W w n b N p T) (i : Int) : Calls Try.prog 13 #[.pointer (some ⟨b, 0, none⟩), .int .i64 i] w fun e w' =>
    (∃ z, e = .returned (.int .i64 z)) ∧ Mid W w' n b N p T ∧ Kept (fun g => g < n) w w' := by
  obtain ⟨M, vc, K, Q, V, A, R, Vo, Ao, Ro, h⟩ := h
  by_cases hi : 0 ≤ i ∧ i < Ro.length
  · obtain ⟨c, rfl⟩ := Int.eq_ofNat_of_zero_le hi.1
    refine (s_request h.o hE.ok (by omega)).mono ?_
    rintro e w' ⟨rfl, hs, k⟩
    exact ⟨⟨_, rfl⟩, ⟨_, _, _, _, _, _, _, _, _, _, h.step hs h.og k⟩, k.mono (fun g _ hg => h.lt g hg)⟩
  · refine (s_request_out h.o hE.ok hi).mono ?_
    rintro e w' ⟨rfl, hs, k⟩
    exact ⟨⟨_, rfl⟩, ⟨_, _, _, _, _, _, _, _, _, _, h.step hs h.og k⟩, k.mono (fun g _ hg => h.lt g hg)⟩
theorem mid_calm {n N : Nat} (hE : Ev W T) (h : Mid W w n b N p T) : Calls Try.prog 19 #[.pointer (some ⟨b, 0, none⟩)] w fun e w' =>
    e = .returned (.int .i64 0) ∧ Mid W w' n b N p T ∧ Kept (fun g => g < n) w w' := by
  obtain ⟨M, vc, K, Q, V, A, R, Vo, Ao, Ro, h⟩ := h
  refine (s_calm h.o hE.ok h.og).mono ?_
  rintro e w' ⟨rfl, hs, k⟩
  exact ⟨rfl, ⟨_, _, _, _, _, _, _, _, _, _, h.step hs (good_rep _) k⟩, k.mono (fun g _ hg => h.lt g hg)⟩
/-- both are copied -/
theorem mid_copy {w0 : World} (hE : Ev W T) (h : Both W w0 b p T) (k0 : Kept (fun _ => False) w0 w) : Calls Try.prog 17 #[.pointer (some ⟨b, 0, none⟩)] w fun e w1 =>
    ∃ N, e = .returned (.pointer (some ⟨N, 0, none⟩)) ∧ Kept (fun _ => False) w w1 ∧ ∀ w2, Kept (fun _ => False) w1 w2 → Calls Try.prog 18 #[.pointer (some ⟨p, 0, none⟩)] w2 fun e w3 =>
      ∃ q, e = .returned (.pointer (some ⟨q, 0, none⟩)) ∧ Mid W w3 w0.heap.size b N q T ∧ Kept (fun _ => False) w2 w3 := by
  obtain ⟨M, Q, V, A, R, h0⟩ := h
  have h := h0.same k0
  have hs := h.s
  have hws := h.low.size
  refine (copy_board hs.bd hE.ok.nc).mono ?_
  rintro e w1 ⟨N, vc, K, rfl, h1, h2, h3, h4, ⟨h5, h6, h7⟩, k1⟩
  refine ⟨N, rfl, k1, fun w2 k2 => ?_⟩
  have k12 := k1.then k2 (fun _ x => x.elim)
  have hlv := hs.lv
  have hla := hs.la
  have hlr := hs.lr
  have hn1 := hE.ok.nc
  have hn2 := hE.ok.na
  have hn3 := hE.ok.ni
  refine (RB.copy_ok (h.d.kept k12 (fun _ _ x => x)) (by omega) (by omega) (by omega)).mono ?_
  rintro e w3 ⟨q, Q', rfl, _, hd, hf, k3⟩
  have k13 := k2.then k3 (fun _ x => x.elim)
  have k03 := k12.then k3 (fun _ x => x.elim)
  have hw1 := k1.size
  have hw2 := k2.size
  refine ⟨q, rfl, ⟨M, vc, K, Q', V, A, R, V, A, R, ⟨h1.kept k13 (fun _ _ x => x), hs.lv, hs.la, hs.lr⟩, h.good, ⟨⟨h2.kept k13 (fun _ _ x => x), hs.lv, hs.la, hs.lr⟩, hd, k03.belowTrans h.low hws (fun _ x => x.elim), fun g hg => ?_, fun g hg => ?_, fun g hg e => ?_, h.good⟩, h.lo, h0.ltb, fun e => ?_, fun g hg e => ?_, fun x hx g hg e => ?_, fun g hg e => ?_⟩, k3⟩
  · rcases h3 g hg with e | e
    · exact h.lo g e
    · omega
  · have := hf g hg
    omega
  · have := h2.lt g hg
    have := hf g e
    omega
  · have := h.ltb N e
    omega
  · have := h.ltb g e
    have := h6 g hg
    omega
  · have := h.ltb g e
    have := h7 x hx g hg
    omega
  · have := h.ltb g e
    have := hf g hg
    omega
end
end Go.Proofs.Ytemhfonneggneaa.BP
