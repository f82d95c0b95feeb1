/- tappetlaw12: a ring of texts and the document's ring of their places. -/
import Derived.Test.YtibgoipdaeaigaaRtxV
import Derived.Test.YtibgoipdaeaigaaRrf
import Derived.Test.YtibgoipdaeaigaaRngA
import Derived.Test.YtibgoipdaeaigaaArgs
namespace Go.Proofs.Ytibgoipdaeaigaa.RX
open Go.RowKit Go.Fr

def ids (ks : List Nat) : List Int := ks.map (fun k : Nat => (k : Int))
theorem ids_len (ks : List Nat) : (ids ks).length = ks.length := List.length_map _
structure Rel (ts l : List Tx) (ks : List Nat) : Prop where
  eq : l.map some = ks.map (fun k => ts[k]?)
theorem Rel.nil (ts : List Tx) : Rel ts [] [] := ⟨rfl⟩
theorem Rel.len {ts l : List Tx} {ks : List Nat} (h : Rel ts l ks) : l.length = ks.length := by
  have := congrArg List.length h.eq
  simpa using this
theorem Rel.last {ts l : List Tx} {ks : List Nat} {k : Nat} {x : Tx} (h : Rel ts l ks) (hx : ts[k]? = some x) : Rel ts (l ++ [x]) (ks ++ [k]) :=
  ⟨by rw [List.map_append, List.map_append, h.eq]; simp [hx]⟩
theorem Rel.first {ts l : List Tx} {ks : List Nat} {k : Nat} {x : Tx} (h : Rel ts l ks) (hx : ts[k]? = some x) : Rel ts (x :: l) (k :: ks) :=
  ⟨by rw [List.map_cons, List.map_cons, h.eq, hx]⟩
theorem Rel.cases {ts l : List Tx} {ks : List Nat} (h : Rel ts l ks) : (l = [] ∧ ks = []) ∨ ∃ x l0 k ks0, l = x :: l0 ∧ ks = k :: ks0 ∧ Rel ts l0 ks0 ∧ ts[k]? = some x := by
  cases l with
  | nil => left; have := h.len; simp at this; exact ⟨rfl, List.eq_nil_of_length_eq_zero this.symm⟩
  | cons x l0 =>
    right
    cases ks with
    | nil => have := h.len; simp at this
    | cons k ks0 =>
      have e := h.eq
      simp only [List.map_cons, List.cons.injEq] at e
      exact ⟨x, l0, k, ks0, rfl, rfl, ⟨e.2⟩, e.1.symm⟩

theorem elem_x {w wr : World} {ao : Option Addr} {ts : List Tx} (hc : CameL w 2 encX ao ts) (hb : Below w.heap.size w wr) {k : Nat} {y : Tx} (hx : ts[k]? = some y) :
    ∃ ab off, ao = some ⟨ab, off, none⟩ ∧ wr.cell? ⟨ab, off + k * 2, none⟩ = some (.string y.1) ∧ wr.cell? ⟨ab, off + k * 2 + 1, none⟩ = some (.int .i64 y.2) := by
  obtain ⟨ab, off, rfl, hab, hcl⟩ := hc (by rintro rfl; simp at hx)
  refine ⟨ab, off, rfl, ?_, ?_⟩
  · rw [hb.cell (by exact hab)]; simpa using hcl k _ hx 0 _ rfl
  · rw [hb.cell (by exact hab)]; simpa using hcl k _ hx 1 _ rfl

structure GP (n0 : Nat) (w wr : World) (s b D : Nat) (ts : List Tx) (v v' : Value) (f : Nat) (h h' : Int) (cs l : List Tx) (ks : List Nat) : Prop where
  hs : IsRing wr s v D f h cs l
  hr : RR.IsRef wr b v' true D h' (ids ks)
  rel : Rel ts l ks
  f1 : ∀ i, foot s v i → n0 ≤ i
  f2 : ∀ i, RI.foot b v' i → n0 ≤ i
  dis : ∀ i, foot s v i → RI.foot b v' i → False
  bel : Below n0 w wr
def GPx (n0 : Nat) (w wr : World) (s b D : Nat) (ts : List Tx) : Prop := ∃ v v' f h h' cs l ks, GP n0 w wr s b D ts v v' f h h' cs l ks

section
variable {n0 : Nat} {w wr : World} {s b D : Nat} {ts : List Tx} {v v' : Value} {f : Nat} {h h' : Int} {cs l : List Tx} {ks : List Nat}
theorem GP.size (hG : GP n0 w wr s b D ts v v' f h h' cs l ks) : n0 ≤ wr.heap.size := by
  have := hG.f1 s (Or.inl rfl)
  have := hG.hs.lt s (Or.inl rfl)
  omega
theorem GP.same {w1 : World} (hG : GP n0 w wr s b D ts v v' f h h' cs l ks) (k : Kept (fun _ => False) wr w1) : GP n0 w w1 s b D ts v v' f h h' cs l ks :=
  ⟨hG.hs.kept k (fun _ _ h => h), hG.hr.kept k (fun _ _ h => h), hG.rel, hG.f1, hG.f2, hG.dis, hG.bel.trans (k.below hG.size (fun _ h => h.elim))⟩
theorem GP.step {w1 wa w2 : World} {u u' : Value} {f1 : Nat} {h1 h2 : Int} {cs1 l1 : List Tx} {ks1 : List Nat} (hG : GP n0 w wr s b D ts v v' f h h' cs l ks) (hs1 : IsRing w1 s u D f1 h1 cs1 l1) (k1 : Kept (foot s v) wr w1) (g1 : ∀ i, foot s u i → foot s v i ∨ wr.heap.size ≤ i)
    (ka : Kept (fun _ => False) w1 wa) (hr2 : RR.IsRef w2 b u' true D h2 (ids ks1)) (k2 : Kept (fun i => i = b) wa w2) (g2 : ∀ i, RI.foot b u' i → RI.foot b v' i ∨ wa.heap.size ≤ i) (hrel : Rel ts l1 ks1) : GP n0 w w2 s b D ts u u' f1 h1 h2 cs1 l1 ks1 := by
  have hz := hG.size
  have z1 := k1.size
  have za := ka.size
  have hblt := hG.hr.lt
  have hslt := hs1.lt
  have e1 : ∀ i, foot s u i → RI.foot b v' i → False := fun i hi e => (g1 i hi).elim (fun h => hG.dis i h e) (fun h => by have := hblt i e; omega)
  have kk : Kept (fun i => foot s v i ∨ RI.foot b v' i) wr w2 := ((k1.mono (fun _ _ h => Or.inl h)).then ka (fun _ h => h.elim)).then k2 (fun _ h => Or.inl (Or.inr (Or.inl h)))
  refine ⟨(hs1.kept ka (fun _ _ h => h)).kept k2 (fun i hi e => e1 i hi (Or.inl e)), hr2, hrel, fun i hi => (g1 i hi).elim (hG.f1 i) (fun h => by omega), fun i hi => (g2 i hi).elim (hG.f2 i) (fun h => by omega), fun i hi e => ?_, hG.bel.trans (kk.below hz (fun i hi => hi.elim (hG.f1 i) (hG.f2 i)))⟩
  rcases g2 i e with e2 | e2
  · exact e1 i hi e2
  · have := hslt i hi; omega
end
theorem gp_new {w w2 : World} {s b D : Nat} (ts : List Tx) (hn : w.heap.size ≤ s) (hsb : s < b) (h1 : IsRing w2 s (.slice none 0 0) D 0 0 [] []) (h2 : RR.IsRef w2 b (.slice none 0 0) true D 0 []) (hb : Below w.heap.size w w2) : GPx w.heap.size w w2 s b D ts := by
  have f : ∀ {b i : Nat}, foot b (.slice none 0 0) i → i = b := by rintro b i (h | h); exact h; simp [Value.ownBlock] at h
  exact ⟨_, _, 0, 0, 0, [], [], [], h1, h2, Rel.nil ts, fun i e => by have := f e; omega, fun i e => by have := f e; omega, fun i e e' => by have := f e; have := f e'; omega, hb⟩
end Go.Proofs.Ytibgoipdaeaigaa.RX
