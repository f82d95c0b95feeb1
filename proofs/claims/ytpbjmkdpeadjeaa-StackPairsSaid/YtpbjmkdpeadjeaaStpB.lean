/- tappetlaw14: a stack of pairs and the document's stack of their places. -/
import Derived.Test.YtpbjmkdpeadjeaaStpP
import Derived.Test.YtpbjmkdpeadjeaaRefT
import Derived.Test.YtpbjmkdpeadjeaaAlive
namespace Go.Proofs.Ytpbjmkdpeadjeaa.SP
open Go.RowKit Go.Fr

def ids (ks : List Nat) : List Int := ks.map (fun k : Nat => (k : Int))
theorem ids_len (ks : List Nat) : (ids ks).length = ks.length := List.length_map _

structure Rel (ts l : List Pr) (ks : List Nat) : Prop where
  eq : l.map some = ks.map (fun k => ts[k]?)
  first : ∀ k ∈ ks, First ts k
theorem Rel.nil (ts : List Pr) : Rel ts [] [] := ⟨rfl, fun _ h => by simp at h⟩
theorem Rel.len {ts l : List Pr} {ks : List Nat} (h : Rel ts l ks) : l.length = ks.length := by
  have := congrArg List.length h.eq
  simpa using this
theorem Rel.push {ts l : List Pr} {ks : List Nat} {k : Nat} {x : Pr} (h : Rel ts l ks) (hF : First ts k) (hx : ts[k]? = some x) : Rel ts (l ++ [x]) (ks ++ [k]) := by
  refine ⟨by rw [List.map_append, List.map_append, h.eq]; simp [hx], fun j hj => ?_⟩
  rw [List.mem_append] at hj
  rcases hj with hj | hj
  · exact h.first j hj
  · simp at hj; subst hj; exact hF
theorem Rel.cases {ts l : List Pr} {ks : List Nat} (h : Rel ts l ks) : (l = [] ∧ ks = []) ∨ ∃ l0 x ks0 k, l = l0 ++ [x] ∧ ks = ks0 ++ [k] ∧ Rel ts l0 ks0 ∧ ts[k]? = some x ∧ First ts k := by
  rcases List.eq_nil_or_concat ks with rfl | ⟨ks0, k, rfl⟩
  · left
    have := h.len
    simp at this
    exact ⟨this, rfl⟩
  · right
    rcases List.eq_nil_or_concat l with rfl | ⟨l0, x, rfl⟩
    · have := h.len; simp at this
    · have e := h.eq
      simp only [List.concat_eq_append, List.map_append, List.map_cons, List.map_nil] at e
      obtain ⟨e1, e2⟩ := List.append_inj e (by have := h.len; simp at this; simpa using this)
      refine ⟨l0, x, ks0, k, List.concat_eq_append .., List.concat_eq_append .., ⟨e1, fun j hj => h.first j (by simp [hj])⟩, ?_, h.first k (by simp)⟩
      simp at e2
      exact e2.symm
theorem First.uniq {ts : List Pr} {k j : Nat} (hk : First ts k) (hj : First ts j) (e : ts[k]? = ts[j]?) : k = j := by
  rcases Nat.lt_trichotomy k j with h | h | h
  · exact absurd e (hj.2 k h)
  · exact h
  · exact absurd e.symm (hk.2 j h)
theorem Rel.at {ts l : List Pr} {ks : List Nat} {k : Nat} {x : Pr} (h : Rel ts l ks) (hF : First ts k) (hx : ts[k]? = some x) (j : Nat) : l.reverse[j]? = some x ↔ (ids ks).reverse[j]? = some (k : Int) := by
  have e : (l.reverse[j]?).map some = (ks.reverse[j]?).map (fun k => ts[k]?) := by
    rw [← List.getElem?_map, ← List.getElem?_map, List.map_reverse, List.map_reverse, h.eq]
  rw [ids, ← List.map_reverse, List.getElem?_map]
  constructor
  · intro h1
    rw [h1] at e
    cases h2 : ks.reverse[j]? with
    | none => rw [h2] at e; simp at e
    | some k' =>
      rw [h2] at e
      simp only [Option.map_some, Option.some.injEq] at e
      have hm : k' ∈ ks := List.mem_reverse.1 (List.mem_of_getElem? h2)
      have := First.uniq (h.first k' hm) hF (by rw [hx, ← e])
      subst this
      rfl
  · intro h1
    cases h2 : ks.reverse[j]? with
    | none => rw [h2] at h1; simp at h1
    | some k' =>
      rw [h2] at h1 e
      simp only [Option.map_some, Option.some.injEq] at h1
      have : k' = k := by omega
      subst this
      simp only [Option.map_some] at e
      rw [hx] at e
      cases h3 : l.reverse[j]? with
      | none => rw [h3] at e; simp at e
      | some y => rw [h3] at e; simp at e; rw [e]
theorem Rel.found {ts l : List Pr} {ks : List Nat} {k r : Nat} {x : Pr} {ok : Bool} (h : Rel ts l ks) (hF : First ts k) (hx : ts[k]? = some x) (hf : Found l x r ok) : r = SI.fidx (ids ks) k ∧ ok = decide ((k : Int) ∈ ids ks) := by
  rcases hf with ⟨rfl, h1, h2⟩ | ⟨rfl, rfl, h1⟩
  · obtain ⟨e1, e2⟩ := SI.fidx_found (l := ids ks) (x := (k : Int)) (k := r) (fun j hj e => h2 j hj ((h.at hF hx j).2 e)) ((h.at hF hx r).1 h1)
    exact ⟨e1.symm, by simp [e2]⟩
  · obtain ⟨e1, e2⟩ := SI.fidx_not (l := ids ks) (x := (k : Int)) (fun j hj e => h1 j (by rw [h.len, ← ids_len]; exact hj) ((h.at hF hx j).2 e))
    exact ⟨e1.symm, by simp [e2]⟩

theorem IsStk.lt {w : World} {b : Nat} {v : Value} {d h : Int} {l : List Pr} (hs : IsStk w b v d h l) : ∀ i, foot b v i → i < w.heap.size := by
  rintro i (rfl | hi)
  · exact hs.1.lt
  · exact row_lt hs.2.1 hi

structure GP (n0 : Nat) (w wr : World) (s b : Nat) (D : Int) (ts : List Pr) (v v' : Value) (h h' : Int) (l : List Pr) (ks : List Nat) : Prop where
  hs : IsStk wr s v D h l
  hr : RS.IsRef wr b v' true D h' (ids ks)
  rel : Rel ts l ks
  hh : l.length ≤ h
  f1 : ∀ i, foot s v i → n0 ≤ i
  f2 : ∀ i, SI.foot b v' i → n0 ≤ i
  dis : ∀ i, foot s v i → SI.foot b v' i → False
  bel : Below n0 w wr

section
variable {n0 : Nat} {w wr : World} {s b : Nat} {D : Int} {ts : List Pr} {v v' : Value} {h h' : Int} {l : List Pr} {ks : List Nat}
theorem GP.size (hG : GP n0 w wr s b D ts v v' h h' l ks) : n0 ≤ wr.heap.size := by
  have := hG.f1 s (Or.inl rfl)
  have := hG.hs.lt s (Or.inl rfl)
  omega
theorem GP.same {w1 : World} (hG : GP n0 w wr s b D ts v v' h h' l ks) (k : Kept (fun _ => False) wr w1) : GP n0 w w1 s b D ts v v' h h' l ks :=
  ⟨hG.hs.kept k (fun _ _ h => h), hG.hr.kept k (fun _ _ h => h), hG.rel, hG.hh, hG.f1, hG.f2, hG.dis, hG.bel.trans (k.below hG.size (fun _ h => h.elim))⟩
theorem GP.step {w1 wa w2 : World} {u u' : Value} {h1 h2 : Int} {l1 : List Pr} {ks1 : List Nat} (hG : GP n0 w wr s b D ts v v' h h' l ks) (hs1 : IsStk w1 s u D h1 l1) (k1 : Kept (foot s v) wr w1) (g1 : ∀ i, foot s u i → foot s v i ∨ wr.heap.size ≤ i)
    (ka : Kept (fun _ => False) w1 wa) (hr2 : RS.IsRef w2 b u' true D h2 (ids ks1)) (k2 : Kept (SI.foot b v') wa w2) (g2 : ∀ i, SI.foot b u' i → SI.foot b v' i ∨ wa.heap.size ≤ i) (hrel : Rel ts l1 ks1) (hh : l1.length ≤ h1) : GP n0 w w2 s b D ts u u' h1 h2 l1 ks1 := by
  have hz := hG.size
  have z1 := k1.size
  have za := ka.size
  have hblt := hG.hr.lt
  have hslt := hs1.lt
  have e1 : ∀ i, foot s u i → SI.foot b v' i → False := fun i hi e => (g1 i hi).elim (fun h => hG.dis i h e) (fun h => by have := hblt i e; omega)
  have kk : Kept (fun i => foot s v i ∨ SI.foot b v' i) wr w2 := ((k1.mono (fun _ _ h => Or.inl h)).then ka (fun _ h => h.elim)).then k2 (fun _ h => Or.inl (Or.inr h))
  refine ⟨(hs1.kept ka (fun _ _ h => h)).kept k2 (fun i hi e => e1 i hi e), hr2, hrel, hh, fun i hi => (g1 i hi).elim (hG.f1 i) (fun h => by omega), fun i hi => (g2 i hi).elim (hG.f2 i) (fun h => by omega), fun i hi e => ?_, hG.bel.trans (kk.below hz (fun i hi => hi.elim (hG.f1 i) (hG.f2 i)))⟩
  rcases g2 i e with e2 | e2
  · exact e1 i hi e2
  · have := hslt i hi; omega
end
def GPx (n0 : Nat) (w wr : World) (s b : Nat) (D : Int) (ts : List Pr) : Prop := ∃ v v' h h' l ks, GP n0 w wr s b D ts v v' h h' l ks
theorem gp_new {w w2 : World} {s b : Nat} {D : Int} (ts : List Pr) (hn : w.heap.size ≤ s) (hsb : s < b) (h1 : IsStk w2 s (.slice none 0 0) D 0 []) (h2 : RS.IsRef w2 b (.slice none 0 0) true D 0 []) (hb : Below w.heap.size w w2) : GPx w.heap.size w w2 s b D ts := by
  have f : ∀ {b i : Nat}, foot b (.slice none 0 0) i → i = b := by rintro b i (h | h); exact h; simp [Value.ownBlock] at h
  exact ⟨_, _, 0, 0, [], [], h1, h2, Rel.nil ts, by simp, fun i e => by have := f e; omega, fun i e => by have := f e; omega, fun i e e' => by have := f e; have := f e'; omega, hb⟩
end Go.Proofs.Ytpbjmkdpeadjeaa.SP
