/- tappetlaw13: a queue and the document's, both of the law's own making; what each call makes of the two. -/
import Derived.Test.YtdjdnfjfomeldaaRdyLb
import Derived.Test.YtdjdnfjfomeldaaRdyT
import Derived.Test.YtdjdnfjfomeldaaRdyV
namespace Go.Proofs.Ytdjdnfjfomeldaa.RL
open Go.RowKit Go.Fr Go.Rq Go.Shelf
open Go.Proofs.Ytdjdnfjfomeldaa.QD (IsQ qfoot encQ Stepped highQ highest)
open Go.Proofs.Ytdjdnfjfomeldaa.DQ (IsD dfoot Dd LV Dstep)
attribute [local go_sem] Oper.semAt_some

/-- a queue of the law's own making; the blocks X are not its own -/
def Fq (w wr : World) (X : Nat → Prop) (b : Nat) (st : List En) : Prop := ∃ cells R, IsQ wr b cells R st (bitsN st) ∧ (∀ i, qfoot b R i → w.heap.size ≤ i) ∧ (∀ i, X i → i < wr.heap.size ∧ ¬ qfoot b R i) ∧ Kept (fun _ => False) w wr
/-- a queue and the document's, both of the law's own making -/
def Pq (w wr : World) (X : Nat → Prop) (b p : Nat) (st su : List En) : Prop := ∃ cells R d, IsQ wr b cells R st (bitsN st) ∧ IsD wr p d su ∧ (∀ i, qfoot b R i → w.heap.size ≤ i) ∧ (∀ i, dfoot p d i → w.heap.size ≤ i) ∧ Dis (qfoot b R) (dfoot p d) ∧ (∀ i, X i → i < wr.heap.size ∧ ¬ qfoot b R i ∧ ¬ dfoot p d i) ∧ Kept (fun _ => False) w wr
/-- an old queue beside a new one and the document's -/
def Tq (w wr : World) (X : Nat → Prop) (o b p : Nat) (so st su : List En) : Prop := ∃ cO RO cells R d, IsQ wr o cO RO so (bitsN so) ∧ IsQ wr b cells R st (bitsN st) ∧ IsD wr p d su ∧ (∀ i, qfoot o RO i → w.heap.size ≤ i) ∧ (∀ i, qfoot b R i → w.heap.size ≤ i) ∧ (∀ i, dfoot p d i → w.heap.size ≤ i) ∧
  Dis (qfoot o RO) (qfoot b R) ∧ Dis (qfoot o RO) (dfoot p d) ∧ Dis (qfoot b R) (dfoot p d) ∧ (∀ i, X i → i < wr.heap.size ∧ ¬ qfoot o RO i ∧ ¬ qfoot b R i ∧ ¬ dfoot p d i) ∧ Kept (fun _ => False) w wr

section
variable {w wr wf : World} {X Y : Nat → Prop} {o b p : Nat} {so so' st su st' su' : List En} {cO cells : List Value} {RO RO' R R' : List QD.Rd} {d d' : Dd}
theorem Fq.kept (h : Fq w wr X b st) : Kept (fun _ => False) w wr := by obtain ⟨_, _, _, _, _, k⟩ := h; exact k
theorem Pq.kept (h : Pq w wr X b p st su) : Kept (fun _ => False) w wr := by obtain ⟨_, _, _, _, _, _, _, _, _, k⟩ := h; exact k
theorem Tq.kept (h : Tq w wr X o b p so st su) : Kept (fun _ => False) w wr := by obtain ⟨_, _, _, _, _, _, _, _, _, _, _, _, _, _, _, k⟩ := h; exact k
theorem Fq.falls (h : Fq w wr X b st) : Falls st := by obtain ⟨_, _, h, _⟩ := h; exact h.falls
theorem Pq.falls (h : Pq w wr X b p st su) : Falls st := by obtain ⟨_, _, _, h, _⟩ := h; exact h.falls
theorem Fq.same (h : Fq w wr X b st) (k : Kept (fun _ => False) wr wf) : Fq w wf X b st := by
  obtain ⟨cells, R, h1, h2, hx, h3⟩ := h
  exact ⟨cells, R, h1.same k, h2, fun i hi => ⟨Nat.lt_of_lt_of_le (hx i hi).1 k.size, (hx i hi).2⟩, h3.then k (fun _ x => x.elim)⟩
theorem Pq.same (h : Pq w wr X b p st su) (k : Kept (fun _ => False) wr wf) : Pq w wf X b p st su := by
  obtain ⟨cells, R, d, h1, h2, h3, h4, h5, hx, h6⟩ := h
  exact ⟨cells, R, d, h1.same k, h2.same k, h3, h4, h5, fun i hi => ⟨Nat.lt_of_lt_of_le (hx i hi).1 k.size, (hx i hi).2⟩, h6.then k (fun _ x => x.elim)⟩
theorem Tq.same (h : Tq w wr X o b p so st su) (k : Kept (fun _ => False) wr wf) : Tq w wf X o b p so st su := by
  obtain ⟨cO, RO, cells, R, d, h1, h2, h3, h4, h5, h6, h7, h8, h9, hx, h10⟩ := h
  exact ⟨cO, RO, cells, R, d, h1.same k, h2.same k, h3.same k, h4, h5, h6, h7, h8, h9, fun i hi => ⟨Nat.lt_of_lt_of_le (hx i hi).1 k.size, (hx i hi).2⟩, h10.then k (fun _ x => x.elim)⟩
theorem Fq.less (h : Fq w wr X b st) (hy : ∀ i, Y i → X i) : Fq w wr Y b st := by
  obtain ⟨cells, R, h1, h2, hx, h3⟩ := h
  exact ⟨cells, R, h1, h2, fun i hi => hx i (hy i hi), h3⟩
theorem Pq.less (h : Pq w wr X b p st su) (hy : ∀ i, Y i → X i) : Pq w wr Y b p st su := by
  obtain ⟨cells, R, d, h1, h2, h3, h4, h5, hx, h6⟩ := h
  exact ⟨cells, R, d, h1, h2, h3, h4, h5, fun i hi => hx i (hy i hi), h6⟩
/-- what is new is not the queue's -/
theorem Fq.more (h : Fq w wr X b st) (k : Kept (fun _ => False) wr wf) (hy : ∀ i, Y i → X i ∨ (wr.heap.size ≤ i ∧ i < wf.heap.size)) : Fq w wf Y b st := by
  obtain ⟨cells, R, h1, h2, hx, h3⟩ := h
  have hz := k.size
  refine ⟨cells, R, h1.same k, h2, fun i hi => ?_, h3.then k (fun _ x => x.elim)⟩
  rcases hy i hi with h | ⟨h, h'⟩
  · have := hx i h; exact ⟨by omega, this.2⟩
  · exact ⟨h', fun hq => by have := h1.lt i hq; omega⟩
theorem Pq.more (h : Pq w wr X b p st su) (k : Kept (fun _ => False) wr wf) (hy : ∀ i, Y i → X i ∨ (wr.heap.size ≤ i ∧ i < wf.heap.size)) : Pq w wf Y b p st su := by
  obtain ⟨cells, R, d, h1, h2, h3, h4, h5, hx, h6⟩ := h
  have hz := k.size
  refine ⟨cells, R, d, h1.same k, h2.same k, h3, h4, h5, fun i hi => ?_, h6.then k (fun _ x => x.elim)⟩
  rcases hy i hi with h | ⟨h, h'⟩
  · have := hx i h; exact ⟨by omega, this.2⟩
  · exact ⟨h', fun hq => by have := h1.lt i hq; omega, fun hq => by have := h2.lt i hq; omega⟩
theorem Pq.box (h : Pq w wr X b p st su) (ob : Obj) : Pq w (wr.alloc ob) (fun i => X i ∨ i = wr.heap.size) b p st su :=
  h.more ((Kept.refl _ wr).alloc ob) (fun i hi => hi.imp id (fun h => ⟨by omega, by rw [World.size_alloc]; omega⟩))
theorem Fq.box (h : Fq w wr X b st) (ob : Obj) : Fq w (wr.alloc ob) (fun i => X i ∨ i = wr.heap.size) b st :=
  h.more ((Kept.refl _ wr).alloc ob) (fun i hi => hi.imp id (fun h => ⟨by omega, by rw [World.size_alloc]; omega⟩))
theorem Pq.fq (h : Pq w wr X b p st su) : Fq w wr X b st := by
  obtain ⟨cells, R, d, h1, h2, h3, h4, h5, hx, h6⟩ := h
  exact ⟨cells, R, h1, h3, fun i hi => ⟨(hx i hi).1, (hx i hi).2.1⟩, h6⟩
theorem Tq.pq (h : Tq w wr X o b p so st su) : Pq w wr X b p st su := by
  obtain ⟨_, _, cells, R, d, _, h2, h3, _, h5, h6, _, _, h9, hx, h10⟩ := h
  exact ⟨cells, R, d, h2, h3, h5, h6, h9, fun i hi => ⟨(hx i hi).1, (hx i hi).2.2⟩, h10⟩

theorem Fq.step (h : ∀ i, qfoot b R i → w.heap.size ≤ i) (hx : ∀ i, X i → i < wr.heap.size ∧ ¬ qfoot b R i) (k : Kept (fun _ => False) w wr) (s : QD.Stepped wr wf b cells R R' st' (bitsN st')) : Fq w wf X b st' ∧ Kept (fun i => ¬ X i) wr wf :=
  ⟨⟨cells, R', s.q, fun i hi => (s.grow i hi).elim (h i) (fun x => by have := k.size; omega), fun i hi => ⟨Nat.lt_of_lt_of_le (hx i hi).1 s.kept.size, fun hq => (s.grow i hq).elim (hx i hi).2 (fun x => by have := (hx i hi).1; omega)⟩, k.then s.kept (fun i hi => Or.inr (h i hi))⟩,
    s.kept.mono (fun i _ hi hX => (hx i hX).2 hi)⟩
theorem Pq.qstep (h2 : IsD wr p d su) (h3 : ∀ i, qfoot b R i → w.heap.size ≤ i) (h4 : ∀ i, dfoot p d i → w.heap.size ≤ i) (h5 : Dis (qfoot b R) (dfoot p d)) (hx : ∀ i, X i → i < wr.heap.size ∧ ¬ qfoot b R i ∧ ¬ dfoot p d i) (k : Kept (fun _ => False) w wr)
    (s : QD.Stepped wr wf b cells R R' st' (bitsN st')) : Pq w wf X b p st' su ∧ Kept (fun i => ¬ X i) wr wf :=
  ⟨⟨cells, R', d, s.q, h2.kept s.kept (fun i hi hq => h5 i hq hi), fun i hi => (s.grow i hi).elim (h3 i) (fun x => by have := k.size; omega), h4,
    fun i hi hd => (s.grow i hi).elim (fun x => h5 i x hd) (fun x => by have := h2.lt i hd; omega), fun i hi => ⟨Nat.lt_of_lt_of_le (hx i hi).1 s.kept.size, fun hq => (s.grow i hq).elim (hx i hi).2.1 (fun x => by have := (hx i hi).1; omega), (hx i hi).2.2⟩, k.then s.kept (fun i hi => Or.inr (h3 i hi))⟩,
    s.kept.mono (fun i _ hi hX => (hx i hX).2.1 hi)⟩
theorem dstep_foot {w' : World} (s : Dstep wr w' p d d' su') : Kept (dfoot p d) wr w' := s.kept.mono (fun _ _ h => h.elim (fun x => Or.inr (Or.inr (Or.inl x))) (fun x => Or.inr (Or.inr (Or.inr (Or.inl x)))))
theorem Pq.dstep (h1 : IsQ wr b cells R st (bitsN st)) (h3 : ∀ i, qfoot b R i → w.heap.size ≤ i) (h4 : ∀ i, dfoot p d i → w.heap.size ≤ i) (h5 : Dis (qfoot b R) (dfoot p d)) (hx : ∀ i, X i → i < wr.heap.size ∧ ¬ qfoot b R i ∧ ¬ dfoot p d i) (k : Kept (fun _ => False) w wr)
    (s : Dstep wr wf p d d' su') : Pq w wf X b p st su' ∧ Kept (fun i => ¬ X i) wr wf :=
  ⟨⟨cells, R, d', h1.kept (dstep_foot s) (fun i hi hd => h5 i hi hd), s.q, h3, fun i hi => (s.foot i hi).elim (h4 i) (fun x => by have := k.size; omega),
    fun i hi hd => (s.foot i hd).elim (fun x => h5 i hi x) (fun x => by have := h1.lt i hi; omega), fun i hi => ⟨Nat.lt_of_lt_of_le (hx i hi).1 s.kept.size, (hx i hi).2.1, fun hq => (s.foot i hq).elim (hx i hi).2.2 (fun x => by have := (hx i hi).1; omega)⟩, k.then (dstep_foot s) (fun i hi => Or.inr (h4 i hi))⟩,
    (dstep_foot s).mono (fun i _ hi hX => (hx i hX).2.2 hi)⟩
theorem Tq.ostep (h2 : IsQ wr b cells R st (bitsN st)) (h3 : IsD wr p d su) (h4 : ∀ i, qfoot o RO i → w.heap.size ≤ i) (h5 : ∀ i, qfoot b R i → w.heap.size ≤ i) (h6 : ∀ i, dfoot p d i → w.heap.size ≤ i)
    (h7 : Dis (qfoot o RO) (qfoot b R)) (h8 : Dis (qfoot o RO) (dfoot p d)) (h9 : Dis (qfoot b R) (dfoot p d)) (hx : ∀ i, X i → i < wr.heap.size ∧ ¬ qfoot o RO i ∧ ¬ qfoot b R i ∧ ¬ dfoot p d i) (k : Kept (fun _ => False) w wr)
    (s : QD.Stepped wr wf o cO RO RO' so' (bitsN so')) : Tq w wf X o b p so' st su ∧ Kept (fun i => ¬ X i) wr wf :=
  ⟨⟨cO, RO', cells, R, d, s.q, h2.kept s.kept (fun i hi hq => h7 i hq hi), h3.kept s.kept (fun i hi hq => h8 i hq hi), fun i hi => (s.grow i hi).elim (h4 i) (fun x => by have := k.size; omega), h5, h6,
    fun i hi hd => (s.grow i hi).elim (fun x => h7 i x hd) (fun x => by have := h2.lt i hd; omega), fun i hi hd => (s.grow i hi).elim (fun x => h8 i x hd) (fun x => by have := h3.lt i hd; omega), h9,
    fun i hi => ⟨Nat.lt_of_lt_of_le (hx i hi).1 s.kept.size, fun hq => (s.grow i hq).elim (hx i hi).2.1 (fun x => by have := (hx i hi).1; omega), (hx i hi).2.2⟩, k.then s.kept (fun i hi => Or.inr (h4 i hi))⟩,
    s.kept.mono (fun i _ hi hX => (hx i hX).2.1 hi)⟩

theorem Fq.tail (q x : Int) (h : Fq w wr X b st) : Calls Try.prog 10 #[.pointer (some ⟨b, 0, none⟩), .int .i64 q, .int .i64 x] wr fun e w' => e = .returned (.int .i64 (putQ st q x false).2) ∧ Fq w w' X b (putQ st q x false).1 ∧ Kept (fun i => ¬ X i) wr w' := by
  obtain ⟨cells, R, h1, h2, hx, h3⟩ := h
  refine (QD.tail_ok q x h1).mono ?_
  rintro e w' ⟨R', rfl, s⟩
  exact ⟨rfl, Fq.step h2 hx h3 s⟩
theorem Pq.tail (q x : Int) (h : Pq w wr X b p st su) : Calls Try.prog 10 #[.pointer (some ⟨b, 0, none⟩), .int .i64 q, .int .i64 x] wr fun e w' => e = .returned (.int .i64 (putQ st q x false).2) ∧ Pq w w' X b p (putQ st q x false).1 su ∧ Kept (fun i => ¬ X i) wr w' := by
  obtain ⟨cells, R, d, h1, h2, h3, h4, h5, hx, h6⟩ := h
  refine (QD.tail_ok q x h1).mono ?_
  rintro e w' ⟨R', rfl, s⟩
  exact ⟨rfl, Pq.qstep h2 h3 h4 h5 hx h6 s⟩
theorem Pq.dtail (q x : Int) (h : Pq w wr X b p st su) : Calls Try.prog 11 #[.pointer (some ⟨p, 0, none⟩), .int .i64 q, .int .i64 x] wr fun e w' => e = .returned (.int .i64 (putQ su q x false).2) ∧ Pq w w' X b p st (putQ su q x false).1 ∧ Kept (fun i => ¬ X i) wr w' := by
  obtain ⟨cells, R, d, h1, h2, h3, h4, h5, hx, h6⟩ := h
  refine (DQ.tail_ok q x h2).mono ?_
  rintro e w' ⟨d', rfl, s⟩
  exact ⟨rfl, Pq.dstep h1 h3 h4 h5 hx h6 s⟩
theorem Tq.tail (q x : Int) (h : Tq w wr X o b p so st su) : Calls Try.prog 10 #[.pointer (some ⟨o, 0, none⟩), .int .i64 q, .int .i64 x] wr fun e w' => e = .returned (.int .i64 (putQ so q x false).2) ∧ Tq w w' X o b p (putQ so q x false).1 st su ∧ Kept (fun i => ¬ X i) wr w' := by
  obtain ⟨cO, RO, cells, R, d, h1, h2, h3, h4, h5, h6, h7, h8, h9, hx, h10⟩ := h
  refine (QD.tail_ok q x h1).mono ?_
  rintro e w' ⟨R', rfl, s⟩
  exact ⟨rfl, Tq.ostep h2 h3 h4 h5 h6 h7 h8 h9 hx h10 s⟩
theorem Fq.head (q x : Int) (h : Fq w wr X b st) : Calls Try.prog 18 #[.pointer (some ⟨b, 0, none⟩), .int .i64 q, .int .i64 x] wr fun e w' => e = .returned (.int .i64 (putQ st q x true).2) ∧ Fq w w' X b (putQ st q x true).1 ∧ Kept (fun i => ¬ X i) wr w' := by
  obtain ⟨cells, R, h1, h2, hx, h3⟩ := h
  refine (QD.head_ok q x h1).mono ?_
  rintro e w' ⟨R', rfl, s⟩
  exact ⟨rfl, Fq.step h2 hx h3 s⟩
theorem Pq.head (q x : Int) (h : Pq w wr X b p st su) : Calls Try.prog 18 #[.pointer (some ⟨b, 0, none⟩), .int .i64 q, .int .i64 x] wr fun e w' => e = .returned (.int .i64 (putQ st q x true).2) ∧ Pq w w' X b p (putQ st q x true).1 su ∧ Kept (fun i => ¬ X i) wr w' := by
  obtain ⟨cells, R, d, h1, h2, h3, h4, h5, hx, h6⟩ := h
  refine (QD.head_ok q x h1).mono ?_
  rintro e w' ⟨R', rfl, s⟩
  exact ⟨rfl, Pq.qstep h2 h3 h4 h5 hx h6 s⟩
theorem Pq.dhead (q x : Int) (h : Pq w wr X b p st su) : Calls Try.prog 22 #[.pointer (some ⟨p, 0, none⟩), .int .i64 q, .int .i64 x] wr fun e w' => e = .returned (.int .i64 (putQ su q x true).2) ∧ Pq w w' X b p st (putQ su q x true).1 ∧ Kept (fun i => ¬ X i) wr w' := by
  obtain ⟨cells, R, d, h1, h2, h3, h4, h5, hx, h6⟩ := h
  refine (DQ.head_ok q x h2).mono ?_
  rintro e w' ⟨d', rfl, s⟩
  exact ⟨rfl, Pq.dstep h1 h3 h4 h5 hx h6 s⟩
theorem Fq.take (h : Fq w wr X b st) : Calls Try.prog 14 #[.pointer (some ⟨b, 0, none⟩)] wr fun e w' => e = .returned (.tuple #[.agg #[.int .i64 (takeQ st).2.1.1, .int .i64 (takeQ st).2.1.2], .int .i64 (takeQ st).2.2]) ∧ Fq w w' X b (takeQ st).1 ∧ Kept (fun i => ¬ X i) wr w' := by
  obtain ⟨cells, R, h1, h2, hx, h3⟩ := h
  refine (QD.take_ok h1).mono ?_
  rintro e w' ⟨R', rfl, s⟩
  exact ⟨rfl, Fq.step h2 hx h3 s⟩
theorem Pq.take (h : Pq w wr X b p st su) : Calls Try.prog 14 #[.pointer (some ⟨b, 0, none⟩)] wr fun e w' => e = .returned (.tuple #[.agg #[.int .i64 (takeQ st).2.1.1, .int .i64 (takeQ st).2.1.2], .int .i64 (takeQ st).2.2]) ∧ Pq w w' X b p (takeQ st).1 su ∧ Kept (fun i => ¬ X i) wr w' := by
  obtain ⟨cells, R, d, h1, h2, h3, h4, h5, hx, h6⟩ := h
  refine (QD.take_ok h1).mono ?_
  rintro e w' ⟨R', rfl, s⟩
  exact ⟨rfl, Pq.qstep h2 h3 h4 h5 hx h6 s⟩
theorem Pq.dtake (h : Pq w wr X b p st su) : Calls Try.prog 15 #[.pointer (some ⟨p, 0, none⟩)] wr fun e w' => e = .returned (.tuple #[.agg #[.int .i64 (takeQ su).2.1.1, .int .i64 (takeQ su).2.1.2], .int .i64 (takeQ su).2.2]) ∧ Pq w w' X b p st (takeQ su).1 ∧ Kept (fun i => ¬ X i) wr w' := by
  obtain ⟨cells, R, d, h1, h2, h3, h4, h5, hx, h6⟩ := h
  refine (DQ.take_ok h2).mono ?_
  rintro e w' ⟨d', rfl, s⟩
  exact ⟨rfl, Pq.dstep h1 h3 h4 h5 hx h6 s⟩
theorem Fq.clear (h : Fq w wr X b st) : Calls Try.prog 23 #[.pointer (some ⟨b, 0, none⟩)] wr fun e w' => e = .returned (.int .i64 (allQ st).length) ∧ Fq w w' X b (clearQ st) ∧ Kept (fun i => ¬ X i) wr w' := by
  obtain ⟨cells, R, h1, h2, hx, h3⟩ := h
  refine (QD.clear_ok h1).mono ?_
  rintro e w' ⟨R', rfl, s⟩
  exact ⟨rfl, Fq.step h2 hx h3 (by rw [clearQ_bits]; exact s)⟩
theorem Pq.clear (h : Pq w wr X b p st su) : Calls Try.prog 23 #[.pointer (some ⟨b, 0, none⟩)] wr fun e w' => e = .returned (.int .i64 (allQ st).length) ∧ Pq w w' X b p (clearQ st) su ∧ Kept (fun i => ¬ X i) wr w' := by
  obtain ⟨cells, R, d, h1, h2, h3, h4, h5, hx, h6⟩ := h
  refine (QD.clear_ok h1).mono ?_
  rintro e w' ⟨R', rfl, s⟩
  exact ⟨rfl, Pq.qstep h2 h3 h4 h5 hx h6 (by rw [clearQ_bits]; exact s)⟩
theorem Pq.dclear (h : Pq w wr X b p st su) : Calls Try.prog 24 #[.pointer (some ⟨p, 0, none⟩)] wr fun e w' => e = .returned (.int .i64 (allQ su).length) ∧ Pq w w' X b p st (clearQ su) ∧ Kept (fun i => ¬ X i) wr w' := by
  obtain ⟨cells, R, d, h1, h2, h3, h4, h5, hx, h6⟩ := h
  refine (DQ.clear_ok h2).mono ?_
  rintro e w' ⟨d', rfl, s⟩
  exact ⟨rfl, Pq.dstep h1 h3 h4 h5 hx h6 s⟩
theorem Tq.clear (h : Tq w wr X o b p so st su) : Calls Try.prog 23 #[.pointer (some ⟨o, 0, none⟩)] wr fun e w' => e = .returned (.int .i64 (allQ so).length) ∧ Tq w w' X o b p (clearQ so) st su ∧ Kept (fun i => ¬ X i) wr w' := by
  obtain ⟨cO, RO, cells, R, d, h1, h2, h3, h4, h5, h6, h7, h8, h9, hx, h10⟩ := h
  refine (QD.clear_ok h1).mono ?_
  rintro e w' ⟨R', rfl, s⟩
  exact ⟨rfl, Tq.ostep h2 h3 h4 h5 h6 h7 h8 h9 hx h10 (by rw [clearQ_bits]; exact s)⟩
theorem Fq.highest (h : Fq w wr X b st) : Calls Try.prog 30 #[.pointer (some ⟨b, 0, none⟩)] wr fun e w' => e = .returned (.tuple #[.int .i64 (highest st).1, .bool (highest st).2]) ∧ wr = w' := by
  obtain ⟨cells, R, h1, _⟩ := h
  exact QD.highest_ok h1
theorem Fq.bits (h : Fq w wr X b st) : Calls Try.prog 21 #[.pointer (some ⟨b, 0, none⟩)] wr fun e w' => e = .returned (.int .u64 (bitsN st)) ∧ wr = w' := by
  obtain ⟨cells, R, h1, _⟩ := h
  exact QD.bits_ok h1
theorem Fq.len (h : Fq w wr X b st) : Calls Try.prog 20 #[.pointer (some ⟨b, 0, none⟩)] wr fun e w' => e = .returned (.int .i64 (allQ st).length) ∧ wr = w' := by
  obtain ⟨cells, R, h1, _⟩ := h
  exact QD.len_ok h1
theorem Fq.all (h : Fq w wr X b st) : Calls Try.prog 17 #[.pointer (some ⟨b, 0, none⟩)] wr fun e w' =>
    ∃ ao c, e = .returned (.slice ao (allQ st).length c) ∧ Row w' 40 2 (.slice ao (allQ st).length c) (allQ st).length ((allQ st).flatMap encQ) ∧ (∀ g, (Value.slice ao (allQ st).length c).ownBlock = some g → wr.heap.size ≤ g) ∧ Kept (fun _ => False) wr w' := by
  obtain ⟨cells, R, h1, _⟩ := h
  exact QD.qall_law h1
theorem Pq.dall (h : Pq w wr X b p st su) : Calls Try.prog 12 #[.pointer (some ⟨p, 0, none⟩)] wr fun e w' =>
    ∃ ao c, e = .returned (.slice ao (allQ su).length c) ∧ Row w' 40 2 (.slice ao (allQ su).length c) (allQ su).length ((allQ su).flatMap encQ) ∧ (∀ g, (Value.slice ao (allQ su).length c).ownBlock = some g → wr.heap.size ≤ g) ∧ Kept (fun _ => False) wr w' := by
  obtain ⟨cells, R, d, _, h2, _⟩ := h
  exact DQ.all_ok h2
theorem Pq.tells (x : Int) (h : Pq w wr X b p st st) : Calls Try.prog 16 #[.pointer (some ⟨b, 0, none⟩), .pointer (some ⟨p, 0, none⟩), .int .i64 x] wr fun e w' => e = .returned (.bool true) ∧ Kept (fun _ => False) wr w' := by
  obtain ⟨cells, R, d, h1, h2, _⟩ := h
  exact tells_ok x h1 h2
theorem Pq.copy (h : Pq w wr X b p st su) : Calls Try.prog 25 #[.pointer (some ⟨b, 0, none⟩)] wr fun e w' => e = .returned (.pointer (some ⟨wr.heap.size, 0, none⟩)) ∧ Kept (fun _ => False) wr w' ∧ Tq w w' X b wr.heap.size p st st su := by
  obtain ⟨cells, R, d, h1, h2, h3, h4, h5, hx, h6⟩ := h
  refine (QD.copy_ok h1).mono ?_
  rintro e w' ⟨cells', R', rfl, hc, hge, k⟩
  have hz := h6.size
  have hz2 := k.size
  exact ⟨rfl, k, cells, R, cells', R', d, h1.same k, hc, h2.same k, h3, fun i hi => Nat.le_trans hz (hge i hi), h4, fun i hi hd => by have := h1.lt i hi; have := hge i hd; omega, h5, fun i hi hd => by have := h2.lt i hd; have := hge i hi; omega,
    fun i hi => ⟨by have := (hx i hi).1; omega, (hx i hi).2.1, fun hq => by have := hge i hq; have := (hx i hi).1; omega, (hx i hi).2.2⟩, h6.then k (fun _ x => x.elim)⟩
theorem Tq.dcopy (h : Tq w wr X o b p so st su) : Calls Try.prog 26 #[.pointer (some ⟨p, 0, none⟩)] wr fun e w' => ∃ p', e = .returned (.pointer (some ⟨p', 0, none⟩)) ∧ Kept (fun _ => False) wr w' ∧ Tq w w' X o b p' so st su := by
  obtain ⟨cO, RO, cells, R, d, h1, h2, h3, h4, h5, h6, h7, h8, h9, hx, h10⟩ := h
  refine (DQ.copy_ok h3).mono ?_
  rintro e w' ⟨d', rfl, hd, hge, k⟩
  have hz := h10.size
  have hz2 := k.size
  exact ⟨_, rfl, k, cO, RO, cells, R, d', h1.same k, h2.same k, hd, h4, h5, fun i hi => Nat.le_trans hz (hge i hi), h7, fun i hi hd' => by have := h1.lt i hi; have := hge i hd'; omega, fun i hi hd' => by have := h2.lt i hi; have := hge i hd'; omega,
    fun i hi => ⟨by have := (hx i hi).1; omega, (hx i hi).2.1, (hx i hi).2.2.1, fun hq => by have := hge i hq; have := (hx i hi).1; omega⟩, h10.then k (fun _ x => x.elim)⟩
end
end Go.Proofs.Ytdjdnfjfomeldaa.RL
