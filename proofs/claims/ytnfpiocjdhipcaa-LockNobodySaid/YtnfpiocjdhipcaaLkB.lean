/- lock.Lock: what a step makes of its parts. -/
import Derived.Test.YtnfpiocjdhipcaaLkA
namespace Go.Proofs.Ytnfpiocjdhipcaa.LK
open Go.RowKit Go.Fr Go.Tb

section
variable {w w' w1 w2 : World} {b : Nat} {M : Lm} {T : Tb} {L : List Take} {In : List Bool} {G : Gt} {S : Nat → Prop} {o : Ow} {s s' : StkP} {r : Int}
theorem enc_put {l : List (Ow × StkP)} : getA l o = some s → s'.b = s.b → (putA l o s').map (fun p => (ekO p.1, evP p.2)) = l.map (fun p => (ekO p.1, evP p.2)) := by
  induction l with
  | nil => intro h; cases h
  | cons p l ih =>
    intro h he
    obtain ⟨a, u⟩ := p
    unfold getA at h
    unfold putA
    split at h
    · rename_i e
      cases h
      rw [if_pos e, List.map_cons, List.map_cons]
      have : evP s' = evP s := by unfold evP; rw [he]
      rw [this]
    · rename_i e
      rw [if_neg e, List.map_cons, List.map_cons, ih h he]
theorem map_put {hb : Nat} {l : List (Ow × StkP)} (h : IsMap w ekO evP hb l) (hs : getA l o = some s) (he : s'.b = s.b) : IsMap w ekO evP hb (putA l o s') := by
  obtain ⟨es, c, h1, h2, h3⟩ := h
  exact ⟨es, c, h1, h2, by rw [enc_put hs he]; exact h3⟩
theorem put_ok {κ ν : Type} [DecidableEq κ] {ok : κ → Prop} {l : List (κ × ν)} {x : κ} {v : ν} (h : ∀ p ∈ l, ok p.1) (hx : ok x) : ∀ p ∈ putA l x v, ok p.1 := fun p hp => by
  rcases mem_put hp with rfl | hp
  · exact hx
  · exact h p hp
theorem del_ok {κ ν : Type} [DecidableEq κ] {ok : κ → Prop} {l : List (κ × ν)} {x : κ} (h : ∀ p ∈ l, ok p.1) : ∀ p ∈ delA l x, ok p.1 := fun p hp => h p (List.mem_filter.1 hp).1

theorem Fx.to (h : Fx w M T) {hb ob eb : Nat} {H : List (Ow × StkP)} {O : List (Int × Ow)} {E : List (Int × Bool)} : Fx w ⟨M.rb, M.vi, M.vc, M.rows, hb, ob, eb, H, O, E⟩ T := ⟨h.rows, h.rok, h.rat, h.own, h.inl, h.cei, h.lt, h.sm⟩
/-- a stack is made -/
theorem IsLk.newStk {x : RowR} (h : IsLk w b M T L In G) (ho : okO o) (hn : getA M.H o = none) (hx : rowT T o = some x) (k1 : Kept (fun _ => False) w w1) (hs : SI.IsStk w1 s.b s.v s.d s.h []) (hd : s.d = x.own.length) (hf : ∀ g, SI.foot s.b s.v g → w.heap.size ≤ g)
    (hm : IsMap w2 ekO evP M.hb (putA M.H o s)) (k2 : Kept (fun g => g = M.hb) w1 w2) : IsLk w2 b { M with H := putA M.H o s } T L In G := by
  have h1 := h.same k1
  have hlt := h.mlt
  have hfl := h.fx.lt
  have hh : heldL L o = [] := by have := h.hat o; rw [hn] at this; exact this
  have hne : ∀ g, SI.foot s.b s.v g → ∀ g', lmut b M g' → g ≠ g' := fun g hg g' hg' e => by have := hf g hg; have := hlt g' hg'; omega
  have ha : ∀ o', getA (putA M.H o s) o' = if o = o' then some s else getA M.H o' := fun o' => getA_put
  refine { h1 with blk := h1.blk.kept k2 (blk_ne_map h1.blk h1.hm), fx := (h1.fx.kept k2 (fun g hg e => h.sep g hg (Or.inr (Or.inl e)))).to, hm := hm, om := h1.om.kept k2 (fun e => h.nb.1 e.symm), em := h1.em.kept k2 (fun e => h.nb.2.1 e.symm), hok := put_ok h.hok ho, hat := fun o' => ?_, ap := fun p s1 q s2 hp hq hpq g hg hg2 => ?_, hd := fun p s1 hp g hg => ?_, sep := fun g hg hm2 => ?_ }
  · show StkAt w2 T L o' (getA (putA M.H o s) o')
    rw [ha]
    by_cases e : o = o'
    · subst e
      rw [if_pos rfl]
      refine ⟨⟨x, hx, hd⟩, ?_⟩
      rw [hh]
      exact hs.kept k2 (fun g hg => hne g hg M.hb (Or.inr (Or.inl rfl)))
    · rw [if_neg e]
      have h2 := h1.hat o'
      cases hq : getA M.H o' with
      | none => rw [hq] at h2; exact h2
      | some q =>
        rw [hq] at h2
        exact ⟨h2.1, h2.2.kept k2 (fun g hg => (h1.hd o' q hq g hg).2.1)⟩
  · rw [ha] at hp hq
    by_cases e1 : o = p
    · rw [if_pos e1] at hp
      cases hp
      rw [if_neg (fun e2 => hpq (e1.symm.trans e2))] at hq
      exact hne g hg g (h.foot hq g hg2) rfl
    · rw [if_neg e1] at hp
      by_cases e2 : o = q
      · rw [if_pos e2] at hq
        cases hq
        exact hne g hg2 g (h.foot hp g hg) rfl
      · rw [if_neg e2] at hq
        exact h.ap p s1 q s2 hp hq hpq g hg hg2
  · rw [ha] at hp
    by_cases e1 : o = p
    · rw [if_pos e1] at hp
      cases hp
      exact ⟨hne g hg b (Or.inl rfl), hne g hg _ (Or.inr (Or.inl rfl)), hne g hg _ (Or.inr (Or.inr (Or.inl rfl))), hne g hg _ (Or.inr (Or.inr (Or.inr (Or.inl rfl))))⟩
    · rw [if_neg e1] at hp
      exact h.hd p s1 hp g hg
  · rcases hm2 with e | e | e | e | ⟨p, hp, hg2⟩
    · exact h.sep g hg (Or.inl e)
    · exact h.sep g hg (Or.inr (Or.inl e))
    · exact h.sep g hg (Or.inr (Or.inr (Or.inl e)))
    · exact h.sep g hg (Or.inr (Or.inr (Or.inr (Or.inl e))))
    · rcases mem_put hp with rfl | hp
      · have := hf g hg2
        have := hfl g hg
        omega
      · exact h.sep g hg (Or.inr (Or.inr (Or.inr (Or.inr ⟨p, hp, hg2⟩))))
/-- only the stacks, the holders, who has entered differ -/
def Ag (M M' : Lm) : Prop := M'.rb = M.rb ∧ M'.vi = M.vi ∧ M'.vc = M.vc ∧ M'.rows = M.rows ∧ M'.hb = M.hb ∧ M'.ob = M.ob ∧ M'.eb = M.eb
theorem Ag.refl (M : Lm) : Ag M M := ⟨rfl, rfl, rfl, rfl, rfl, rfl, rfl⟩
theorem Ag.trans {M M' M'' : Lm} (h : Ag M M') (k : Ag M' M'') : Ag M M'' := by
  obtain ⟨a1, a2, a3, a4, a5, a6, a7⟩ := h
  obtain ⟨b1, b2, b3, b4, b5, b6, b7⟩ := k
  exact ⟨b1.trans a1, b2.trans a2, b3.trans a3, b4.trans a4, b5.trans a5, b6.trans a6, b7.trans a7⟩
/-- what a call has turned -/
def Lt (w w' : World) (b : Nat) (M : Lm) (T : Tb) (L : List Take) (In : List Bool) (G : Gt) : Prop :=
  ∃ M', IsLk w' b M' T L In G ∧ Ag M M' ∧ Kept (lmut b M) w w' ∧ ∀ g, lmut b M' g → lmut b M g ∨ w.heap.size ≤ g
/-- a stack and the holders are turned -/
theorem IsLk.turn {L' : List Take} {O' : List (Int × Ow)} {l' : List Int} {v' : Value} {h' : Int} (h : IsLk w b M T L In G) (ho : okO o) (hs : getA M.H o = some s) (hLi : LInv T L') (hh : ∀ p, heldL L' p = if o = p then l' else heldL L p) (hO : ∀ r, getA O' r = holdL L' r) (hok : ∀ p ∈ O', I64 p.1)
    (h1 : SI.IsStk w1 s.b v' s.d h' l') (k1 : Kept (SI.foot s.b s.v) w w1) (hf : ∀ g, SI.foot s.b v' g → SI.foot s.b s.v g ∨ w.heap.size ≤ g) (hm : IsMap w2 ekI ekO M.ob O') (k2 : Kept (fun g => g = M.ob) w1 w2) :
    Lt w w2 b M T L' In G := by
  have hlt := h.mlt
  have hfl := h.fx.lt
  have hd := h.hd o s hs
  have ha : ∀ p, getA (putA M.H o (⟨s.b, v', s.d, h'⟩ : StkP)) p = if o = p then some ⟨s.b, v', s.d, h'⟩ else getA M.H p := fun p => getA_put
  have hx := h.hat o
  rw [hs] at hx
  obtain ⟨⟨x, hx, hdx⟩, _⟩ := hx
  have nf : ∀ g, SI.foot s.b v' g → ∀ g', lmut b M g' → ¬ SI.foot s.b s.v g' → g ≠ g' := fun g hg g' hg' hn e => by
    rcases hf g hg with h2 | h2
    · exact hn (e ▸ h2)
    · have := hlt g' hg'; omega
  have nfix : ∀ g, lfix M g → ¬ SI.foot s.b s.v g := fun g hg hn => h.sep g hg (h.foot hs g hn)
  have m0 : ¬ SI.foot s.b s.v b := fun e => (hd b e).1 rfl
  have m1 : ¬ SI.foot s.b s.v M.hb := fun e => (hd _ e).2.1 rfl
  have m2 : ¬ SI.foot s.b s.v M.ob := fun e => (hd _ e).2.2.1 rfl
  have m3 : ¬ SI.foot s.b s.v M.eb := fun e => (hd _ e).2.2.2 rfl
  have l0 : lmut b M b := Or.inl rfl
  have l1 : lmut b M M.hb := Or.inr (Or.inl rfl)
  have l2 : lmut b M M.ob := Or.inr (Or.inr (Or.inl rfl))
  have l3 : lmut b M M.eb := Or.inr (Or.inr (Or.inr (Or.inl rfl)))
  have new : ∀ g, lmut b { M with H := putA M.H o (⟨s.b, v', s.d, h'⟩ : StkP), O := O' } g → lmut b M g ∨ w.heap.size ≤ g := by
    rintro g (e | e | e | e | ⟨p, hp, hg⟩)
    · exact Or.inl (Or.inl e)
    · exact Or.inl (Or.inr (Or.inl e))
    · exact Or.inl (Or.inr (Or.inr (Or.inl e)))
    · exact Or.inl (Or.inr (Or.inr (Or.inr (Or.inl e))))
    · rcases mem_put hp with rfl | hp
      · rcases hf g hg with h2 | h2
        · exact Or.inl (h.foot hs g h2)
        · exact Or.inr h2
      · exact Or.inl (Or.inr (Or.inr (Or.inr (Or.inr ⟨p, hp, hg⟩))))
  refine ⟨{ M with H := putA M.H o (⟨s.b, v', s.d, h'⟩ : StkP), O := O' }, ?_, ⟨rfl, rfl, rfl, rfl, rfl, rfl, rfl⟩, (k1.mono (fun g _ hg => h.foot hs g hg)).then k2 (fun g e => Or.inl (by rw [e]; exact l2)), new⟩
  refine { blk := (h.blk.kept k1 m0).kept k2 (blk_ne_map h.blk h.om), fx := ((h.fx.kept k1 nfix).kept k2 (fun g hg e => h.sep g hg (by rw [e]; exact l2))).to, hm := map_put ((h.hm.kept k1 m1).kept k2 h.nb.1) hs rfl, om := hm, em := (h.em.kept k1 m3).kept k2 (fun e => h.nb.2.2 e.symm), hok := put_ok h.hok ho, ook := hok, eok := h.eok, hat := fun p => ?_, oat := hO, eat := h.eat, inv := hLi, li := h.li, ap := fun p s1 q s2 hp hq hpq g hg hg2 => ?_, hd := fun p s1 hp g hg => ?_, nb := h.nb, sep := fun g hg hm2 => ?_ }
  · show StkAt w2 T L' p (getA (putA M.H o (⟨s.b, v', s.d, h'⟩ : StkP)) p)
    rw [ha]
    by_cases e : o = p
    · subst e
      rw [if_pos rfl]
      refine ⟨⟨x, hx, hdx⟩, ?_⟩
      rw [hh, if_pos rfl]
      exact h1.kept k2 (fun g hg => nf g hg _ l2 m2)
    · rw [if_neg e]
      have h2 := h.hat p
      cases hq : getA M.H p with
      | none =>
        rw [hq] at h2
        show heldL L' p = []
        rw [hh, if_neg e]
        exact h2
      | some q =>
        rw [hq] at h2
        refine ⟨h2.1, ?_⟩
        rw [hh, if_neg e]
        exact (h2.2.kept k1 (fun g hg hg2 => h.ap o s p q hs hq e g hg2 hg)).kept k2 (fun g hg => (h.hd p q hq g hg).2.2.1)
  · rw [ha] at hp hq
    by_cases e1 : o = p
    · rw [if_pos e1] at hp
      cases hp
      rw [if_neg (fun e2 => hpq (e1.symm.trans e2))] at hq
      exact nf g hg g (h.foot hq g hg2) (fun e => h.ap o s q s2 hs hq (fun e2 => hpq (e1.symm.trans e2)) g e hg2) rfl
    · rw [if_neg e1] at hp
      by_cases e2 : o = q
      · rw [if_pos e2] at hq
        cases hq
        exact nf g hg2 g (h.foot hp g hg) (fun e => h.ap o s p s1 hs hp e1 g e hg) rfl
      · rw [if_neg e2] at hq
        exact h.ap p s1 q s2 hp hq hpq g hg hg2
  · rw [ha] at hp
    by_cases e1 : o = p
    · rw [if_pos e1] at hp
      cases hp
      exact ⟨nf g hg b l0 m0, nf g hg _ l1 m1, nf g hg _ l2 m2, nf g hg _ l3 m3⟩
    · rw [if_neg e1] at hp
      exact h.hd p s1 hp g hg
  · rcases new g hm2 with e | e
    · exact h.sep g hg e
    · have := hfl g hg; omega
end
end Go.Proofs.Ytnfpiocjdhipcaa.LK
