/- A queue and the document's while a ranging over the queue goes on: what the rounds may write, and what stays. -/
import Derived.Test.YtdjdnfjfomeldaaRdyTf
import Derived.Test.YtdjdnfjfomeldaaRdyFq
import Derived.Test.YtdjdnfjfomeldaaInR
namespace Go.Proofs.Ytdjdnfjfomeldaa.RL
open Go.RowKit Go.Fr Go.Rq Go.Shelf
open Go.Proofs.Ytdjdnfjfomeldaa.QD (IsQ qfoot encQ)
open Go.Proofs.Ytdjdnfjfomeldaa.DQ (IsD dfoot Dd)

/-- the two queues lie below W0's end; K is a box of the law's own with a number; the blocks Bx stay as they were in W0 -/
structure RgAt (w W0 W : World) (Bx : Nat → Prop) (b p K : Nat) (n : Int) (st su : List En) (cells : List Value) (R : List QD.Rd) (d : Dd) : Prop where
  q : IsQ W b cells R st (bitsN st)
  dd : IsD W p d su
  qlow : ∀ i, qfoot b R i → w.heap.size ≤ i ∧ i < W0.heap.size
  dlow : ∀ i, dfoot p d i → w.heap.size ≤ i ∧ i < W0.heap.size
  dis : Dis (qfoot b R) (dfoot p d)
  nx : ∀ i, Bx i → i < W0.heap.size ∧ ¬ qfoot b R i ∧ ¬ dfoot p d i
  fix : ∀ i, Bx i → W.heap[i]? = W0.heap[i]?
  kb : Blk W K [.int .i64 n] 3
  kx : w.heap.size ≤ K ∧ K < W0.heap.size ∧ ¬ qfoot b R K ∧ ¬ dfoot p d K ∧ ¬ Bx K
  kept : Kept (fun _ => False) w W
  sz : W0.heap.size ≤ W.heap.size
def Rg (w W0 W : World) (Bx : Nat → Prop) (b p K : Nat) (n : Int) (st su : List En) : Prop := ∃ cells R d, RgAt w W0 W Bx b p K n st su cells R d

section
variable {w W0 W W' W1 wr : World} {Bx Bx' X : Nat → Prop} {b p K : Nat} {n n' : Int} {st su : List En} {cells : List Value} {R : List QD.Rd} {d : Dd}

theorem Rg.kept (h : Rg w W0 W Bx b p K n st su) : Kept (fun _ => False) w W := by obtain ⟨_, _, _, h⟩ := h; exact h.kept
theorem Rg.sz (h : Rg w W0 W Bx b p K n st su) : W0.heap.size ≤ W.heap.size := by obtain ⟨_, _, _, h⟩ := h; exact h.sz
theorem Rg.lowsz (h : Rg w W0 W Bx b p K n st su) : w.heap.size ≤ W0.heap.size := by obtain ⟨_, _, _, h⟩ := h; have := h.kx; omega
theorem Rg.falls (h : Rg w W0 W Bx b p K n st su) : Falls st := by obtain ⟨_, _, _, h⟩ := h; exact h.q.falls
theorem Rg.kb (h : Rg w W0 W Bx b p K n st su) : Blk W K [.int .i64 n] 3 := by obtain ⟨_, _, _, h⟩ := h; exact h.kb
theorem Rg.klt (h : Rg w W0 W Bx b p K n st su) : K < W0.heap.size := by obtain ⟨_, _, _, h⟩ := h; exact h.kx.2.1
theorem Rg.atq (h : Rg w W0 W Bx b p K n st su) : ∃ rpf, QD.AtQ W (some ⟨b, 0, none⟩) rpf st := by obtain ⟨_, _, _, h⟩ := h; exact ⟨_, h.q.atq⟩
theorem Rg.same (h : Rg w W0 W Bx b p K n st su) (k : Kept (fun _ => False) W W') : Rg w W0 W' Bx b p K n st su := by
  obtain ⟨cells, R, d, h⟩ := h
  exact ⟨cells, R, d, { h with q := h.q.same k, dd := h.dd.same k, fix := fun i hi => (k.block i (by have := (h.nx i hi).1; have := h.sz; omega) (fun x => x)).trans (h.fix i hi), kb := h.kb.kept k (fun x => x), kept := h.kept.then k (fun _ x => x.elim), sz := Nat.le_trans h.sz k.size }⟩
/-- the machine's own book-keeping turns nothing of it -/
theorem Rg.own (h : Rg w W0 W Bx b p K n st su) {row : Option Nat} (hg : W.grownBy W' row) (hr : ∀ r, row = some r → W0.heap.size ≤ r) : Rg w W0 W' Bx b p K n st su := by
  have k : Kept (fun i => row = some i) W W' := (Kept.refl _ _).grown hg (fun i e => Or.inl e)
  obtain ⟨cells, R, d, h⟩ := h
  exact ⟨cells, R, d, { h with q := h.q.kept k (fun i hi e => by have := h.qlow i hi; have := hr i e; omega), dd := h.dd.kept k (fun i hi e => by have := h.dlow i hi; have := hr i e; omega), fix := fun i hi => (k.block i (by have := (h.nx i hi).1; have := h.sz; omega) (fun e => by have := (h.nx i hi).1; have := hr i e; omega)).trans (h.fix i hi), kb := h.kb.kept k (fun e => by have := h.kx; have := hr K e; omega), kept := h.kept.then k (fun i e => Or.inr (by have := h.kx; have := hr i e; omega)), sz := Nat.le_trans h.sz k.size }⟩
theorem Rg.less (h : Rg w W0 W Bx b p K n st su) (hb : ∀ i, Bx' i → Bx i) : Rg w W0 W Bx' b p K n st su := by
  obtain ⟨cells, R, d, h⟩ := h
  exact ⟨cells, R, d, { h with nx := fun i hi => h.nx i (hb i hi), fix := fun i hi => h.fix i (hb i hi), kx := ⟨h.kx.1, h.kx.2.1, h.kx.2.2.1, h.kx.2.2.2.1, fun x => h.kx.2.2.2.2 (hb _ x)⟩ }⟩
theorem Rg.blk {k : Nat} {cs : List Value} {t : TypeId} (h : Rg w W0 W Bx b p K n st su) (hk : Bx k) (hb : Blk W0 k cs t) : Blk W k cs t := by
  obtain ⟨_, _, _, h⟩ := h
  exact Blk.heap hb (h.fix k hk)
theorem Rg.row {u : Value} {xs : List (Int × Int)} (h : Rg w W0 W Bx b p K n st su) (hk : ∀ g, u.ownBlock = some g → Bx g) (hr : Row W0 40 2 u xs.length (xs.flatMap encQ)) : Row W 40 2 u xs.length (xs.flatMap encQ) := by
  obtain ⟨_, _, _, h⟩ := h
  exact row_heap hr (fun g hg => h.fix g (hk g hg))
theorem Rg.putK (h : Rg w W0 W Bx b p K n st su) (n' : Int) : Rg w W0 (W.setCell ⟨K, 0, none⟩ (.int .i64 n')) Bx b p K n' st su ∧ Kept (fun i => i < W0.heap.size) W (W.setCell ⟨K, 0, none⟩ (.int .i64 n')) := by
  have k : Kept (fun i => i = K) W (W.setCell ⟨K, 0, none⟩ (.int .i64 n')) := (Kept.refl (fun i => i = K) W).setCell (p := ⟨K, 0, none⟩) (Or.inl rfl) _
  obtain ⟨cells, R, d, h⟩ := h
  refine ⟨⟨cells, R, d, { h with q := h.q.kept k (fun i hi e => h.kx.2.2.1 (e ▸ hi)), dd := h.dd.kept k (fun i hi e => h.kx.2.2.2.1 (e ▸ hi)), fix := fun i hi => (k.block i (by have := (h.nx i hi).1; have := h.sz; omega) (fun e => h.kx.2.2.2.2 (e ▸ hi))).trans (h.fix i hi), kb := h.kb.set 0 (.int .i64 n'), kept := h.kept.then k (fun i e => Or.inr (by have := h.kx; omega)), sz := Nat.le_trans h.sz k.size }⟩, k.mono (fun i _ e => by have := h.kx; omega)⟩
theorem Rg.take (h : Rg w W0 W Bx b p K n st su) : Calls Try.prog 14 #[.pointer (some ⟨b, 0, none⟩)] W fun e w' => e = .returned (.tuple #[.agg #[.int .i64 (takeQ st).2.1.1, .int .i64 (takeQ st).2.1.2], .int .i64 (takeQ st).2.2]) ∧ Rg w W0 w' Bx b p K n (takeQ st).1 su ∧ Kept (fun i => i < W0.heap.size) W w' := by
  obtain ⟨cells, R, d, h⟩ := h
  refine (QD.take_okF h.q).mono ?_
  rintro e w' ⟨R', rfl, s, hf⟩
  have k := s.kept
  exact ⟨rfl, ⟨cells, R', d, { q := s.q, dd := h.dd.kept k (fun i hi hq => h.dis i hq hi), qlow := fun i hi => h.qlow i (hf i hi), dlow := h.dlow, dis := fun i hi hd => h.dis i (hf i hi) hd, nx := fun i hi => ⟨(h.nx i hi).1, fun x => (h.nx i hi).2.1 (hf i x), (h.nx i hi).2.2⟩, fix := fun i hi => (k.block i (by have := (h.nx i hi).1; have := h.sz; omega) (h.nx i hi).2.1).trans (h.fix i hi), kb := h.kb.kept k h.kx.2.2.1, kx := ⟨h.kx.1, h.kx.2.1, fun x => h.kx.2.2.1 (hf _ x), h.kx.2.2.2⟩, kept := h.kept.then k (fun i hi => Or.inr (h.qlow i hi).1), sz := Nat.le_trans h.sz k.size }⟩, k.mono (fun i _ hi => (h.qlow i hi).2)⟩
theorem Rg.dtake (h : Rg w W0 W Bx b p K n st su) : Calls Try.prog 15 #[.pointer (some ⟨p, 0, none⟩)] W fun e w' => e = .returned (.tuple #[.agg #[.int .i64 (takeQ su).2.1.1, .int .i64 (takeQ su).2.1.2], .int .i64 (takeQ su).2.2]) ∧ Rg w W0 w' Bx b p K n st (takeQ su).1 ∧ Kept (fun i => i < W0.heap.size) W w' := by
  obtain ⟨cells, R, d, h⟩ := h
  refine (DQ.take_okF h.dd).mono ?_
  rintro e w' ⟨d', rfl, s, hf⟩
  have k := dstep_foot s
  exact ⟨rfl, ⟨cells, R, d', { q := h.q.kept k (fun i hi hq => h.dis i hi hq), dd := s.q, qlow := h.qlow, dlow := fun i hi => h.dlow i (hf i hi), dis := fun i hi hd => h.dis i hi (hf i hd), nx := fun i hi => ⟨(h.nx i hi).1, (h.nx i hi).2.1, fun x => (h.nx i hi).2.2 (hf i x)⟩, fix := fun i hi => (k.block i (by have := (h.nx i hi).1; have := h.sz; omega) (h.nx i hi).2.2).trans (h.fix i hi), kb := h.kb.kept k h.kx.2.2.2.1, kx := ⟨h.kx.1, h.kx.2.1, h.kx.2.2.1, fun x => h.kx.2.2.2.1 (hf _ x), h.kx.2.2.2.2⟩, kept := h.kept.then k (fun i hi => Or.inr (h.dlow i hi).1), sz := Nat.le_trans h.sz k.size }⟩, k.mono (fun i _ hi => (h.dlow i hi).2)⟩
theorem Rg.dall (h : Rg w W0 W Bx b p K n st su) : Calls Try.prog 12 #[.pointer (some ⟨p, 0, none⟩)] W fun e w' =>
    ∃ ao c, e = .returned (.slice ao (allQ su).length c) ∧ Row w' 40 2 (.slice ao (allQ su).length c) (allQ su).length ((allQ su).flatMap encQ) ∧ (∀ g, (Value.slice ao (allQ su).length c).ownBlock = some g → W.heap.size ≤ g) ∧ Kept (fun _ => False) W w' := by
  obtain ⟨_, _, _, h⟩ := h
  exact DQ.all_ok h.dd
theorem Rg.start (h : Pq w wr X b p st su) (k : Kept (fun _ => False) wr W1) (hB : ∀ i, Bx i → X i ∨ (wr.heap.size ≤ i ∧ i < W1.heap.size)) (hK : wr.heap.size ≤ K ∧ K < W1.heap.size) (hKB : ¬ Bx K) (kb : Blk W1 K [.int .i64 n] 3) : Rg w W1 W1 Bx b p K n st su := by
  obtain ⟨cells, R, d, h1, h2, h3, h4, h5, hx, h6⟩ := h
  have hz := h6.size
  have hz2 := k.size
  refine ⟨cells, R, d, { q := h1.same k, dd := h2.same k, qlow := fun i hi => ⟨h3 i hi, by have := h1.lt i hi; omega⟩, dlow := fun i hi => ⟨h4 i hi, by have := h2.lt i hi; omega⟩, dis := h5, nx := fun i hi => ?_, fix := fun _ _ => rfl, kb := kb, kx := ⟨by omega, hK.2, fun hq => by have := h1.lt K hq; omega, fun hq => by have := h2.lt K hq; omega, hKB⟩, kept := h6.then k (fun _ x => x.elim), sz := Nat.le_refl _ }⟩
  rcases hB i hi with h | h
  · have := hx i h; exact ⟨by omega, this.2⟩
  · exact ⟨h.2, fun hq => by have := h1.lt i hq; omega, fun hq => by have := h2.lt i hq; omega⟩
/-- one of the boxes that stayed and K are written: they begin anew -/
theorem Rg.again {Bw : Nat} (h : Rg w W0 W Bx b p K n st su) (k : Kept (fun i => i = Bw ∨ i = K) W W1) (hBw : Bx Bw) (hl : w.heap.size ≤ Bw) (hB : ∀ i, Bx' i → Bx i ∨ (W.heap.size ≤ i ∧ i < W1.heap.size)) (hKB : ¬ Bx' K) (kb : Blk W1 K [.int .i64 n'] 3) : Rg w W1 W1 Bx' b p K n' st su := by
  obtain ⟨cells, R, d, h⟩ := h
  have hz := h.sz
  have hz2 := k.size
  refine ⟨cells, R, d, { q := h.q.kept k (fun i hi e => e.elim (fun e => (h.nx Bw hBw).2.1 (e ▸ hi)) (fun e => h.kx.2.2.1 (e ▸ hi))), dd := h.dd.kept k (fun i hi e => e.elim (fun e => (h.nx Bw hBw).2.2 (e ▸ hi)) (fun e => h.kx.2.2.2.1 (e ▸ hi))), qlow := fun i hi => ⟨(h.qlow i hi).1, by have := h.qlow i hi; omega⟩, dlow := fun i hi => ⟨(h.dlow i hi).1, by have := h.dlow i hi; omega⟩, dis := h.dis, nx := fun i hi => ?_, fix := fun _ _ => rfl, kb := kb, kx := ⟨h.kx.1, by have := h.kx; omega, h.kx.2.2.1, h.kx.2.2.2.1, hKB⟩, kept := h.kept.then k (fun i e => Or.inr (by have := h.kx; omega)), sz := Nat.le_refl _ }⟩
  rcases hB i hi with h1 | h1
  · have := h.nx i h1; exact ⟨by omega, this.2⟩
  · exact ⟨h1.2, fun hq => by have := h.qlow i hq; omega, fun hq => by have := h.dlow i hq; omega⟩
end

/-- what lies below n0 is the caller's own -/
theorem keeps_low {n0 : Nat} {A B : World} (k : Kept (fun i => i < n0) A B) : KeepsFrom n0 A B ∧ Keeps (fun _ i => i < n0) A B :=
  ⟨⟨k.size, fun i o hi ho _ => (k.block i (Array.getElem?_eq_some_iff.1 ho).1 (by omega)).trans ho⟩, k.keeps (fun _ h => h) (fun _ h => Or.inl h)⟩
theorem low_hangs (n0 : Nat) : Hangs (fun _ i => i < n0) (fun _ => False) n0 := ⟨fun _ _ _ _ h => h, fun _ h => h.elim⟩
end Go.Proofs.Ytdjdnfjfomeldaa.RL
