/- lock.Lock: Drop. -/
import Derived.Test.YtnfpiocjdhipcaaLkI
namespace Go.Proofs.Ytnfpiocjdhipcaa.LK
open Go.RowKit Go.Fr Go.Tb Go.Shelf
attribute [local go_sem] Oper.semAt_some

/-- keys are taken away -/
def dels (O : List (Int × Ow)) (pre : List Int) : List (Int × Ow) := pre.foldl delA O
theorem dels_app (O : List (Int × Ow)) (pre : List Int) (x : Int) : dels O (pre ++ [x]) = delA (dels O pre) x := by
  unfold dels
  rw [List.foldl_append]
  rfl
theorem dels_ok {ok : Int → Prop} : ∀ {pre : List Int} {O : List (Int × Ow)}, (∀ p ∈ O, ok p.1) → ∀ p ∈ dels O pre, ok p.1
  | [], _, h => h
  | x :: pre, O, h => dels_ok (pre := pre) (O := delA O x) (del_ok h)
theorem getA_dels {r : Int} : ∀ (pre : List Int) (O : List (Int × Ow)), getA (dels O pre) r = if r ∈ pre then none else getA O r
  | [], O => by simp [dels]
  | x :: pre, O => by
    show getA (dels (delA O x) pre) r = _
    rw [getA_dels pre, getA_del]
    by_cases h1 : r ∈ pre
    · rw [if_pos h1, if_pos (by simp [h1])]
    · rw [if_neg h1]
      by_cases h2 : x = r
      · rw [if_pos h2, if_pos (by simp [h2])]
      · rw [if_neg h2, if_neg (by simp [h1]; exact fun e => h2 e.symm)]
section
variable {w w' w1 w2 : World} {b : Nat} {M : Lm} {T : Tb} {L : List Take} {In : List Bool} {G : Gt} {S : Nat → Prop} {o : Ow} {r : Int}
/-- an owner's all is given back -/
theorem IsLk.drop {O' : List (Int × Ow)} (h : IsLk w b M T L In G) (hO : ∀ r, getA O' r = holdL (dropL L o) r) (hok : ∀ p ∈ O', I64 p.1) (hm1 : IsMap w1 ekI ekO M.ob O') (k1 : Kept (fun g => g = M.ob) w w1) (hm2 : IsMap w2 ekO evP M.hb (delA M.H o)) (k2 : Kept (fun g => g = M.hb) w1 w2) :
    ∃ M', IsLk w2 b M' T (dropL L o) In G ∧ Ag M M' ∧ Kept (lmut b M) w w2 ∧ ∀ g, lmut b M' g → lmut b M g := by
  have l1 : lmut b M M.hb := Or.inr (Or.inl rfl)
  have l2 : lmut b M M.ob := Or.inr (Or.inr (Or.inl rfl))
  have ha : ∀ p, getA (delA M.H o) p = if o = p then none else getA M.H p := fun p => getA_del
  have hg : ∀ p s, getA (delA M.H o) p = some s → o ≠ p ∧ getA M.H p = some s := fun p s hp => by
    rw [ha] at hp
    by_cases e : o = p
    · rw [if_pos e] at hp; cases hp
    · rw [if_neg e] at hp; exact ⟨e, hp⟩
  have new : ∀ g, lmut b { M with H := delA M.H o, O := O' } g → lmut b M g := by
    rintro g (e | e | e | e | ⟨p, hp, hg2⟩)
    · exact Or.inl e
    · exact Or.inr (Or.inl e)
    · exact Or.inr (Or.inr (Or.inl e))
    · exact Or.inr (Or.inr (Or.inr (Or.inl e)))
    · exact Or.inr (Or.inr (Or.inr (Or.inr ⟨p, (List.mem_filter.1 hp).1, hg2⟩)))
  refine ⟨{ M with H := delA M.H o, O := O' }, ?_, ⟨rfl, rfl, rfl, rfl, rfl, rfl, rfl⟩, (k1.mono (fun g _ e => by rw [e]; exact l2)).then k2 (fun g e => Or.inl (by rw [e]; exact l1)), fun g hg2 => new g hg2⟩
  refine { blk := (h.blk.kept k1 (blk_ne_map h.blk h.om)).kept k2 (blk_ne_map h.blk h.hm), fx := ((h.fx.kept k1 (fun g hg e => h.sep g hg (by rw [e]; exact l2))).kept k2 (fun g hg e => h.sep g hg (by rw [e]; exact l1))).to, hm := hm2, om := hm1.kept k2 (fun e => h.nb.1 e.symm), em := (h.em.kept k1 (fun e => h.nb.2.2 e.symm)).kept k2 (fun e => h.nb.2.1 e.symm), hok := del_ok h.hok, ook := hok, eok := h.eok, hat := fun p => ?_, oat := hO, eat := h.eat, inv := inv_drop h.inv, li := h.li, ap := fun p s1 q s2 hp hq hpq => h.ap p s1 q s2 (hg p s1 hp).2 (hg q s2 hq).2 hpq, hd := fun p s1 hp => h.hd p s1 (hg p s1 hp).2, nb := h.nb, sep := fun g hg2 hm3 => h.sep g hg2 (new g hm3) }
  show StkAt w2 T (dropL L o) p (getA (delA M.H o) p)
  rw [ha]
  by_cases e : o = p
  · rw [if_pos e]
    show heldL (dropL L o) p = []
    rw [held_drop, if_pos e]
  · rw [if_neg e]
    have h2 := h.hat p
    cases hq : getA M.H p with
    | none =>
      rw [hq] at h2
      show heldL (dropL L o) p = []
      rw [held_drop, if_neg e]
      exact h2
    | some q =>
      rw [hq] at h2
      refine ⟨h2.1, ?_⟩
      rw [held_drop, if_neg e]
      exact (h2.2.kept k1 (fun g hg2 => (h.hd p q hq g hg2).2.2.1)).kept k2 (fun g hg2 => (h.hd p q hq g hg2).2.1)
/-- Top, of a stack or of none -/
theorem top_any {pv : Option Addr} {l : List Int} (h : SI.Holds w pv l) : Calls Try.prog 28 #[.pointer pv] w fun e w' => e = .returned (.tuple #[.int .i64 (l.getLast?.getD 0), .bool l.getLast?.isSome]) ∧ ∃ n, w' = w.drewN n := by
  rcases h with ⟨b, v, d, h, rfl, hs⟩ | ⟨rfl, rfl⟩
  · rcases List.eq_nil_or_concat l with rfl | ⟨m, x, rfl⟩
    · refine (SI.top_none hs).mono ?_
      rintro e w' ⟨rfl, rfl⟩
      exact ⟨rfl, 0, rfl⟩
    · rw [List.concat_eq_append] at hs ⊢
      refine (SI.top_ok x hs).mono ?_
      rintro e w' ⟨rfl, hn⟩
      exact ⟨by simp, hn⟩
  · refine (SI.top_nil w).mono ?_
    rintro e w' ⟨rfl, rfl⟩
    exact ⟨rfl, 0, rfl⟩
end
end Go.Proofs.Ytnfpiocjdhipcaa.LK
