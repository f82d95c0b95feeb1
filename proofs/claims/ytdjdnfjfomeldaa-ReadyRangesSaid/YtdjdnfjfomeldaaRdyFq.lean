/- A queue of the law's own making beside a list of the law's own. -/
import Derived.Test.YtdjdnfjfomeldaaRdyLd
import Derived.Test.YtdjdnfjfomeldaaRdyFp
namespace Go.Proofs.Ytdjdnfjfomeldaa.RL
open Go.RowKit Go.Fr Go.Rq Go.Shelf
open Go.Proofs.Ytdjdnfjfomeldaa.QD (encQ)
attribute [local go_sem] Oper.semAt_some

theorem Fq.turn {w wr w1 : World} {X Y : Nat → Prop} {b : Nat} {st : List En} (h : Fq w wr X b st) (k : Kept X wr w1) (hl : ∀ i, X i → w.heap.size ≤ i) (hy : ∀ i, Y i → i < w1.heap.size ∧ (X i ∨ wr.heap.size ≤ i)) : Fq w w1 Y b st := by
  obtain ⟨cells, R, h1, h2, hx, h3⟩ := h
  refine ⟨cells, R, h1.kept k (fun i hi hX => (hx i hX).2 hi), h2, fun i hi => ⟨(hy i hi).1, fun hq => ?_⟩, h3.then k (fun i hi => Or.inr (hl i hi))⟩
  rcases (hy i hi).2 with h | h
  · exact (hx i h).2 hq
  · have := h1.lt i hq; omega

/-- a queue, and a slice with what was put in -/
structure Ls (w wr : World) (b : Nat) (st : List En) (ao : Option Addr) (c : Nat) (ins : List (Int × Int)) (Y : Nat → Prop) : Prop where
  q : Fq w wr (fun i => (Value.slice ao ins.length c).ownBlock = some i ∨ Y i) b st
  row : Row wr 40 2 (.slice ao ins.length c) ins.length (ins.flatMap encQ)
  own : ∀ g, (Value.slice ao ins.length c).ownBlock = some g → w.heap.size ≤ g

section
variable {w wr wf : World} {b : Nat} {st st' : List En} {ao : Option Addr} {c : Nat} {ins : List (Int × Int)} {Y Z : Nat → Prop}
theorem Ls.kept (h : Ls w wr b st ao c ins Y) : Kept (fun _ => False) w wr := h.q.kept
theorem Ls.same (h : Ls w wr b st ao c ins Y) (k : Kept (fun _ => False) wr wf) : Ls w wf b st ao c ins Y := ⟨h.q.same k, row_kept h.row k (fun _ _ x => x), h.own⟩
theorem Ls.less (h : Ls w wr b st ao c ins Y) (hy : ∀ i, Z i → Y i) : Ls w wr b st ao c ins Z := ⟨h.q.less (fun _ x => x.imp id (hy _)), h.row, h.own⟩
theorem Ls.more (h : Ls w wr b st ao c ins Y) (k : Kept (fun _ => False) wr wf) (hy : ∀ i, Z i → Y i ∨ (wr.heap.size ≤ i ∧ i < wf.heap.size)) : Ls w wf b st ao c ins Z :=
  ⟨h.q.more k (fun i hi => hi.elim (fun x => Or.inl (Or.inl x)) (fun x => (hy i x).imp Or.inr id)), row_kept h.row k (fun _ _ x => x), h.own⟩
theorem Ls.step (h : Ls w wr b st ao c ins Y) (q : Fq w wf (fun i => (Value.slice ao ins.length c).ownBlock = some i ∨ Y i) b st') (k : Kept (fun i => ¬ ((Value.slice ao ins.length c).ownBlock = some i ∨ Y i)) wr wf) : Ls w wf b st' ao c ins Y :=
  ⟨q, row_kept h.row k (fun _ hg hn => hn (Or.inl hg)), h.own⟩
theorem Ls.tail (p x : Int) (h : Ls w wr b st ao c ins Y) : Calls Try.prog 10 #[.pointer (some ⟨b, 0, none⟩), .int .i64 p, .int .i64 x] wr fun e w' => e = .returned (.int .i64 (putQ st p x false).2) ∧ Ls w w' b (putQ st p x false).1 ao c ins Y := by
  refine (h.q.tail p x).mono ?_
  rintro e w' ⟨rfl, q, k⟩
  exact ⟨rfl, h.step q k⟩
theorem Ls.head (p x : Int) (h : Ls w wr b st ao c ins Y) : Calls Try.prog 18 #[.pointer (some ⟨b, 0, none⟩), .int .i64 p, .int .i64 x] wr fun e w' => e = .returned (.int .i64 (putQ st p x true).2) ∧ Ls w w' b (putQ st p x true).1 ao c ins Y ∧ Kept (fun i => ¬ Y i) wr w' := by
  refine (h.q.head p x).mono ?_
  rintro e w' ⟨rfl, q, k⟩
  exact ⟨rfl, h.step q k, k.mono (fun _ _ hn hy => hn (Or.inr hy))⟩
theorem Ls.take_no (h : Ls w wr b st ao c ins Y) (h0 : allQ st = []) : Calls Try.prog 14 #[.pointer (some ⟨b, 0, none⟩)] wr fun e w' => e = .returned (.tuple #[.agg #[.int .i64 0, .int .i64 0], .int .i64 132]) ∧ Ls w w' b st ao c ins Y := by
  refine (h.q.take).mono ?_
  rcases take_all st with ⟨_, ht⟩ | ⟨_, _, h1, _⟩
  · rw [ht]
    rintro e w' ⟨rfl, q, k⟩
    exact ⟨rfl, h.step q k⟩
  · rw [h0] at h1; cases h1
theorem Ls.take (h : Ls w wr b st ao c ins Y) {x : Int × Int} {xs : List (Int × Int)} (h0 : allQ st = x :: xs) : Calls Try.prog 14 #[.pointer (some ⟨b, 0, none⟩)] wr fun e w' => e = .returned (.tuple #[.agg #[.int .i64 x.1, .int .i64 x.2], .int .i64 0]) ∧ Ls w w' b (takeQ st).1 ao c ins Y ∧ allQ (takeQ st).1 = xs ∧ Kept (fun i => ¬ Y i) wr w' := by
  refine (h.q.take).mono ?_
  rcases take_all st with ⟨h1, _⟩ | ⟨y, ys, h1, h2, h3⟩
  · rw [h0] at h1; cases h1
  · rw [h0] at h1
    cases h1
    rw [h2]
    rintro e w' ⟨rfl, q, k⟩
    exact ⟨rfl, h.step q k, h3, k.mono (fun _ _ hn hy => hn (Or.inr hy))⟩
theorem Ls.tk (h : Ls w wr b st ao c ins Y) : Calls Try.prog 14 #[.pointer (some ⟨b, 0, none⟩)] wr fun e w' => e = .returned (.tuple #[.agg #[.int .i64 (takeQ st).2.1.1, .int .i64 (takeQ st).2.1.2], .int .i64 (takeQ st).2.2]) ∧ Ls w w' b (takeQ st).1 ao c ins Y ∧ Kept (fun i => ¬ Y i) wr w' := by
  refine (h.q.take).mono ?_
  rintro e w' ⟨rfl, q, k⟩
  exact ⟨rfl, h.step q k, k.mono (fun _ _ hn hy => hn (Or.inr hy))⟩
theorem Ls.put {ao' : Option Addr} {c' : Nat} {ins' : List (Int × Int)} (h : Ls w wr b st ao c ins (fun _ => False)) (k : Kept (fun i => (Value.slice ao ins.length c).ownBlock = some i) wr wf) (hr : Row wf 40 2 (.slice ao' ins'.length c') ins'.length (ins'.flatMap encQ))
    (ho : ∀ g, (Value.slice ao' ins'.length c').ownBlock = some g → (Value.slice ao ins.length c).ownBlock = some g ∨ wr.heap.size ≤ g) : Ls w wf b st ao' c' ins' (fun _ => False) :=
  ⟨h.q.turn (k.mono (fun _ _ x => Or.inl x)) (fun i hi => hi.elim (h.own i) (fun x => x.elim)) (fun i hi => hi.elim (fun x => ⟨row_lt hr x, (ho i x).imp Or.inl id⟩) (fun x => x.elim)), hr, fun g hg => (ho g hg).elim (h.own g) (fun x => by have := h.kept.size; omega)⟩
theorem Ls.elem (h : Ls w wr b st ao c ins Y) {j : Nat} {x : Int × Int} (hx : ins[j]? = some x) : ∃ g, ao = some ⟨g, 0, none⟩ ∧ wr.cell? ⟨g, j * 2, none⟩ = some (.int .i64 x.1) ∧ wr.cell? ⟨g, j * 2 + 1, none⟩ = some (.int .i64 x.2) := by
  have hj := (List.getElem?_eq_some_iff.1 hx).1
  rcases row_forms h.row with ⟨_, h0⟩ | ⟨g, c', hv, _⟩
  · omega
  · cases hv
    exact ⟨g, rfl, rows_cell (enc := encQ) (fun _ => rfl) h.row (i := 0) hx rfl, rows_cell (enc := encQ) (fun _ => rfl) h.row (i := 1) hx rfl⟩
theorem Ls.elem' (h : Ls w wr b st ao c ins Y) {j : Nat} {x : Int × Int} {g : Nat} (hg : ao = some ⟨g, 0, none⟩) (hx : ins[j]? = some x) : wr.cell? ⟨g, j * 2, none⟩ = some (.int .i64 x.1) ∧ wr.cell? ⟨g, j * 2 + 1, none⟩ = some (.int .i64 x.2) := by
  obtain ⟨g', h1, h2⟩ := h.elem hx
  rw [h1] at hg; cases hg
  exact h2
end
theorem elem_tri {w wr : World} {ao : Option Addr} {rs : List (Int × Int × Int)} (hc : CameL w 3 (encKKK .i64 .i64 .i64) ao rs) (hb : Below w.heap.size w wr) {k : Nat} {x y z : Int} (hx : rs[k]? = some (x, y, z)) :
    ∃ ab off, ao = some ⟨ab, off, none⟩ ∧ ab < w.heap.size ∧ wr.cell? ⟨ab, off + k * 3, none⟩ = some (.int .i64 x) ∧ wr.cell? ⟨ab, off + k * 3 + 1, none⟩ = some (.int .i64 y) ∧ wr.cell? ⟨ab, off + k * 3 + 2, none⟩ = some (.int .i64 z) := by
  obtain ⟨ab, off, rfl, hab, hcl⟩ := hc (by rintro rfl; simp at hx)
  refine ⟨ab, off, rfl, hab, ?_, ?_, ?_⟩
  · rw [hb.cell (by exact hab)]; simpa using hcl k _ hx 0 _ rfl
  · rw [hb.cell (by exact hab)]; simpa using hcl k _ hx 1 _ rfl
  · rw [hb.cell (by exact hab)]; simpa using hcl k _ hx 2 _ rfl
theorem fq_of_pq {w wr : World} {b p : Nat} {st : List En} (h : Pq w wr (fun _ => False) b p st st) : Ls w wr b st none 0 [] (fun _ => False) :=
  ⟨h.fq.less (fun _ x => x.elim (fun e => by simp [Value.ownBlock] at e) id), World.ownsRow_nil _ _ _ _, by simp [Value.ownBlock]⟩
theorem rest_at {ins : List (Int × Int)} {q j : Nat} {x : Int × Int} (hx : ins[j]? = some x) : (ins.drop j).filter (fun y => decide (y.1 = (q : Int))) = (if x.1 = (q : Int) then [x] else []) ++ (ins.drop (j + 1)).filter (fun y => decide (y.1 = (q : Int))) := by
  have hj := (List.getElem?_eq_some_iff.1 hx).1
  have e : ins.drop j = x :: ins.drop (j + 1) := by
    rw [List.drop_eq_getElem_cons hj]
    rw [(List.getElem?_eq_some_iff.1 hx).2]
  rw [e, List.filter_cons]
  by_cases h : x.1 = (q : Int) <;> simp [h]
end Go.Proofs.Ytdjdnfjfomeldaa.RL
