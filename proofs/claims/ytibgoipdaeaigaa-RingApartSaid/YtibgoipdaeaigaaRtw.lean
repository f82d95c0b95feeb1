/- tappetlaw12: two such pairs, that know nothing of one another. -/
import Derived.Test.YtibgoipdaeaigaaRgt
namespace Go.Proofs.Ytibgoipdaeaigaa.L
open Go.RowKit Go.Fr Go.Proofs.Ytibgoipdaeaigaa.RI Go.Proofs.Ytibgoipdaeaigaa.RR

def feet (s b : Nat) (v v' : Value) : Nat → Prop := fun i => foot s v i ∨ foot b v' i

theorem GotAt.size {n0 : Nat} {w wr : World} {s b D : Nat} {v v' : Value} {h : Int} {l : List Int} (hG : GotAt n0 w wr s b D v v' h l) : n0 ≤ wr.heap.size := Got.size ⟨v, v', h, l, hG⟩
theorem GotAt.lt {n0 : Nat} {w wr : World} {s b D : Nat} {v v' : Value} {h : Int} {l : List Int} (hG : GotAt n0 w wr s b D v v' h l) : ∀ i, feet s b v v' i → i < wr.heap.size := fun i e => e.elim (hG.both.hs.lt i) (hG.both.hr.lt i)
theorem GotAt.ge {n0 : Nat} {w wr : World} {s b D : Nat} {v v' : Value} {h : Int} {l : List Int} (hG : GotAt n0 w wr s b D v v' h l) : ∀ i, feet s b v v' i → n0 ≤ i := fun i e => e.elim (hG.s0 i) (hG.b0 i)

theorem GotAt.kept {n0 : Nat} {w wr w' : World} {s b D : Nat} {v v' : Value} {h : Int} {l : List Int} {S : Nat → Prop} (hG : GotAt n0 w wr s b D v v' h l) (k : Kept S wr w') (hS : ∀ i, S i → n0 ≤ i) (hn : ∀ i, feet s b v v' i → ¬ S i) : GotAt n0 w w' s b D v v' h l :=
  ⟨hG.both.kept k (fun i hi => hn i (Or.inl hi)) (fun i hi => hn i (Or.inr hi)), hG.s0, hG.b0, hG.below.trans (k.below hG.size hS)⟩

def Two (n0 : Nat) (w wr : World) (s b s' b' D : Nat) : Prop := ∃ v v' h l u u' h' l', GotAt n0 w wr s b D v v' h l ∧ GotAt n0 w wr s' b' D u u' h' l' ∧ Dis (feet s b v v') (feet s' b' u u')

theorem Two.swap {n0 : Nat} {w wr : World} {s b s' b' D : Nat} (h : Two n0 w wr s b s' b' D) : Two n0 w wr s' b' s b D := by
  obtain ⟨v, v', h, l, u, u', h', l', h1, h2, h3⟩ := h
  exact ⟨u, u', h', l', v, v', h, l, h2, h1, h3.symm⟩
theorem Two.got {n0 : Nat} {w wr : World} {s b s' b' D : Nat} (h : Two n0 w wr s b s' b' D) : Got n0 w wr s b D := by
  obtain ⟨v, v', h, l, u, u', h', l', h1, h2, h3⟩ := h
  exact ⟨v, v', h, l, h1⟩
theorem Two.below {n0 : Nat} {w wr : World} {s b s' b' D : Nat} (h : Two n0 w wr s b s' b' D) : Below n0 w wr := h.got.below

theorem two_play {n0 : Nat} {w wr : World} {s b s' b' D : Nat} (k x : Int) (hG : Two n0 w wr s b s' b' D) :
    Calls Try.prog 29 #[.pointer (some ⟨s, 0, none⟩), .pointer (some ⟨b, 0, none⟩), .agg #[.int .i64 k, .int .i64 x]] wr fun e w' => e = .returned (.bool true) ∧ Two n0 w w' s b s' b' D := by
  obtain ⟨v, v', h, l, u, u', h', l', h1, h2, h3⟩ := hG
  have hz := h1.size
  have z2 := h2.lt
  refine (play_ok k x h1.both).mono ?_
  rintro e w' ⟨rfl, t, t', h', l', hB, hk0, f1, f2⟩
  have hk : Kept (feet s b v v') wr w' := hk0.mono (fun i _ hi => hi.imp id (fun e => Or.inl e))
  refine ⟨rfl, t, t', h', l', u, u', _, _, ⟨hB, fun i hi => (f1 i hi).elim (h1.s0 i) (fun h => by omega), fun i hi => (f2 i hi).elim (h1.b0 i) (fun h => by omega), h1.below.trans (hk.below hz h1.ge)⟩, h2.kept hk h1.ge (fun i hi e => h3 i e hi), ?_⟩
  refine h3.upd (fun i hi => ?_) z2
  rcases hi with hi | hi
  · exact (f1 i hi).elim (fun h => Or.inl (Or.inl h)) Or.inr
  · exact (f2 i hi).elim (fun h => Or.inl (Or.inr h)) Or.inr

theorem two_told {n0 : Nat} {w wr : World} {s b s' b' D : Nat} (hG : Two n0 w wr s b s' b' D) :
    Calls Try.prog 31 #[.pointer (some ⟨s, 0, none⟩), .pointer (some ⟨b, 0, none⟩)] wr fun e w' => e = .returned (.bool true) ∧ Two n0 w w' s b s' b' D := by
  obtain ⟨v, v', h, l, u, u', h', l', h1, h2, h3⟩ := hG
  refine (told_ok h1.both).mono ?_
  rintro e w' ⟨rfl, k⟩
  exact ⟨rfl, v, v', h, l, u, u', h', l', h1.kept k (fun _ h => h.elim) (fun _ _ h => h), h2.kept k (fun _ h => h.elim) (fun _ _ h => h), h3⟩

/-- a ring is copied, the document's not yet -/
structure MidAt (n0 : Nat) (w wr : World) (s b c D : Nat) (v v' u : Value) (h : Int) (l : List Int) : Prop where
  got : GotAt n0 w wr s b D v v' h l
  cpy : IsRg wr c u D h l
  c0 : ∀ i, foot c u i → n0 ≤ i
  dis : Dis (foot c u) (feet s b v v')
def Mid (n0 : Nat) (w wr : World) (s b c D : Nat) : Prop := ∃ v v' u h l, MidAt n0 w wr s b c D v v' u h l

theorem mid_copy {n0 : Nat} {w wr : World} {s b D : Nat} (hG : Got n0 w wr s b D) :
    Calls Try.prog 32 #[.pointer (some ⟨s, 0, none⟩)] wr fun e w' => ∃ c, e = .returned (.pointer (some ⟨c, 0, none⟩)) ∧ Mid n0 w w' s b c D := by
  have hz := hG.size
  obtain ⟨v, v', h, l, hG⟩ := hG
  have z1 := hG.lt
  refine (rg_copy hG.both.hs).mono ?_
  rintro e w' ⟨c, u, rfl, h1, h2, h3⟩
  exact ⟨c, rfl, v, v', u, h, l, hG.kept h3 (fun _ h => h.elim) (fun _ _ h => h), h1, fun i hi => Nat.le_trans hz (h2 i hi), fun i hi e => by have := h2 i hi; have := z1 i e; omega⟩

theorem mid_ref {n0 : Nat} {w wr : World} {s b c D : Nat} (hG : Mid n0 w wr s b c D) :
    Calls Try.prog 34 #[.pointer (some ⟨b, 0, none⟩)] wr fun e w' => ∃ d, e = .returned (.pointer (some ⟨d, 0, none⟩)) ∧ Two n0 w w' s b c d D := by
  obtain ⟨v, v', u, h, l, hG⟩ := hG
  have hz := hG.got.size
  have z1 := hG.got.lt
  have z2 := hG.cpy.lt
  refine (RR.copy_ok hG.got.both.hr).mono ?_
  rintro e w' ⟨d, u', rfl, h1, h2, h3⟩
  refine ⟨d, rfl, v, v', h, l, u, u', h, l, hG.got.kept h3 (fun _ h => h.elim) (fun _ _ h => h), ⟨⟨hG.cpy.kept h3 (fun _ _ h => h), h1, fun i hi e => by have := h2 i e; have := z2 i hi; omega⟩, hG.c0, fun i hi => Nat.le_trans hz (h2 i hi), hG.got.below.trans (h3.below hz (fun _ h => h.elim))⟩, ?_⟩
  rintro i hi (e | e)
  · exact hG.dis i e hi
  · have := h2 i e; have := z1 i hi; omega

theorem two_new {n0 : Nat} {w wr : World} {s b s' b' D : Nat} (h0 : n0 ≤ s) (e1 : s < s') (e2 : s' < b) (e3 : b < b')
    (h1 : IsRg wr s (.slice none 0 0) D 0 []) (h2 : IsRg wr s' (.slice none 0 0) D 0 []) (h3 : IsRef wr b (.slice none 0 0) true D 0 []) (h4 : IsRef wr b' (.slice none 0 0) true D 0 []) (hb : Below n0 w wr) : Two n0 w wr s b s' b' D := by
  have f : ∀ {b i : Nat}, foot b (.slice none 0 0) i → i = b := by rintro b i (h | h); exact h; simp [Value.ownBlock] at h
  refine ⟨_, _, 0, [], _, _, 0, [], ⟨⟨h1, h3, fun i e e' => ?_⟩, fun i e => ?_, fun i e => ?_, hb⟩, ⟨⟨h2, h4, fun i e e' => ?_⟩, fun i e => ?_, fun i e => ?_, hb⟩, ?_⟩
  · have := f e; have := f e'; omega
  · have := f e; omega
  · have := f e; omega
  · have := f e; have := f e'; omega
  · have := f e; omega
  · have := f e; omega
  · rintro i (e | e) (e' | e') <;> (have := f e; have := f e'; omega)
end Go.Proofs.Ytibgoipdaeaigaa.L
