/- tappetlaw14: a stack and the document's while a ranging over the stack goes on: what the rounds may write, and what stays. -/
import Derived.Test.YtpbjmkdpeadjeaaGot
import Derived.Test.YtpbjmkdpeadjeaaInR
namespace Go.Proofs.Ytpbjmkdpeadjeaa.L
open Go.RowKit Go.Fr Go.Proofs.Ytpbjmkdpeadjeaa.SI Go.Proofs.Ytpbjmkdpeadjeaa.RS

/-- the pair, the boxes Bx that nobody writes, the boxes Cx that the law alone writes -/
structure SeAt (w W0 W : World) (Bx Cx : Nat → Prop) (s b D : Nat) (v v' : Value) (h : Int) (l : List Int) : Prop where
  both : Both W s b D v v' h l
  low : ∀ i, foot s v i ∨ foot b v' i → w.heap.size ≤ i
  dis1 : ∀ i, foot s v i ∨ foot b v' i → ¬ Bx i
  dis2 : ∀ i, foot s v i ∨ foot b v' i → ¬ Cx i
  lt : ∀ i, Bx i ∨ Cx i → i < W0.heap.size
  fix : ∀ k, Bx k → W.heap[k]? = W0.heap[k]?
  below : Below w.heap.size w W
  sz : W0.heap.size ≤ W.heap.size
  z : w.heap.size ≤ W0.heap.size

def Se (w W0 W : World) (Bx Cx : Nat → Prop) (s b D : Nat) : Prop := ∃ v v' h l, SeAt w W0 W Bx Cx s b D v v' h l

section
variable {w W0 W W' : World} {Bx Cx : Nat → Prop} {s b D : Nat} {v v' : Value} {h : Int} {l : List Int}

/-- what the pair owns, read out of its cells -/
def ftS (s b : Nat) (Cx : Nat → Prop) (W : World) (k : Nat) : Prop := k = s ∨ k = b ∨ Cx k ∨ (∃ v, W.cell? ⟨s, 2, none⟩ = some v ∧ v.ownBlock = some k) ∨ ∃ v, W.cell? ⟨b, 2, none⟩ = some v ∧ v.ownBlock = some k

theorem ftS_hangs {n : Nat} (hs : s < n) (hb : b < n) : Hangs (ftS s b Cx) (fun i => i = s ∨ i = b) n := by
  refine ⟨fun W W' hd k hk => ?_, fun i hi => by omega⟩
  have e1 : W'.cell? ⟨s, 2, none⟩ = W.cell? ⟨s, 2, none⟩ := World.cell?_of_block (hd s (Or.inl rfl))
  have e2 : W'.cell? ⟨b, 2, none⟩ = W.cell? ⟨b, 2, none⟩ := World.cell?_of_block (hd b (Or.inr rfl))
  unfold ftS at hk ⊢
  rwa [e1, e2] at hk

theorem SeAt.cells (hS : SeAt w W0 W Bx Cx s b D v v' h l) : W.cell? ⟨s, 2, none⟩ = some v ∧ W.cell? ⟨b, 2, none⟩ = some v' := by
  have hs := hS.both.hs
  exact ⟨hs.1.cell 2 rfl, hS.both.hr.1.cell 2 rfl⟩
theorem SeAt.ft (hS : SeAt w W0 W Bx Cx s b D v v' h l) (k : Nat) : ftS s b Cx W k ↔ foot s v k ∨ foot b v' k ∨ Cx k := by
  obtain ⟨e1, e2⟩ := hS.cells
  unfold ftS foot
  rw [e1, e2]
  constructor
  · rintro (h | h | h | ⟨_, e, h⟩ | ⟨_, e, h⟩) <;> (try (obtain rfl := Option.some.inj e))
    · exact Or.inl (Or.inl h)
    · exact Or.inr (Or.inl (Or.inl h))
    · exact Or.inr (Or.inr h)
    · exact Or.inl (Or.inr h)
    · exact Or.inr (Or.inl (Or.inr h))
  · rintro ((h | h) | (h | h) | h)
    · exact Or.inl h
    · exact Or.inr (Or.inr (Or.inr (Or.inl ⟨_, rfl, h⟩)))
    · exact Or.inr (Or.inl h)
    · exact Or.inr (Or.inr (Or.inr (Or.inr ⟨_, rfl, h⟩)))
    · exact Or.inr (Or.inr (Or.inl h))

theorem SeAt.lts (hS : SeAt w W0 W Bx Cx s b D v v' h l) : ∀ i, foot s v i ∨ foot b v' i → i < W.heap.size := fun i hi => hi.elim (stk_lt hS.both.hs i) (hS.both.hr.lt i)

/-- a step that turns nothing of it -/
theorem SeAt.kept (hS : SeAt w W0 W Bx Cx s b D v v' h l) (k : Kept (fun _ => False) W W') : SeAt w W0 W' Bx Cx s b D v v' h l :=
  ⟨hS.both.kept k (fun _ _ h => h) (fun _ _ h => h), hS.low, hS.dis1, hS.dis2, hS.lt, fun i hi => (k.block i (by have := hS.lt i (Or.inl hi); have := hS.sz; omega) (fun h => h)).trans (hS.fix i hi),
    hS.below.trans (k.below (Nat.le_trans hS.z hS.sz) (fun _ h => h.elim)), Nat.le_trans hS.sz k.size, hS.z⟩

/-- the law writes a box of its own -/
theorem SeAt.write (hS : SeAt w W0 W Bx Cx s b D v v' h l) {c : Nat} (hc : Cx c) (hn : ¬ Bx c) (hl : w.heap.size ≤ c) (k : Kept (fun i => i = c) W W') : SeAt w W0 W' Bx Cx s b D v v' h l :=
  ⟨hS.both.kept k (fun i hi e => hS.dis2 i (Or.inl hi) (by rw [e]; exact hc)) (fun i hi e => hS.dis2 i (Or.inr hi) (by rw [e]; exact hc)), hS.low, hS.dis1, hS.dis2, hS.lt, fun i hi => (k.block i (by have := hS.lt i (Or.inl hi); have := hS.sz; omega) (fun e => hn (by rw [← e]; exact hi))).trans (hS.fix i hi),
    hS.below.trans (k.below (Nat.le_trans hS.z hS.sz) (fun _ e => by rw [e]; exact hl)), Nat.le_trans hS.sz k.size, hS.z⟩

/-- a call of play -/
theorem SeAt.play (hS : SeAt w W0 W Bx Cx s b D v v' h l) (k x : Int) : Calls Try.prog 27 #[.pointer (some ⟨s, 0, none⟩), .pointer (some ⟨b, 0, none⟩), .agg #[.int .i64 k, .int .i64 x]] W fun e W' =>
    e = .returned (.bool true) ∧ ∃ u u' h' l', SeAt w W0 W' Bx Cx s b D u u' h' l' ∧ Kept (fun i => foot s v i ∨ foot b v' i) W W' ∧ ∀ i, foot s u i ∨ foot b u' i → (foot s v i ∨ foot b v' i) ∨ W.heap.size ≤ i := by
  refine (play_ok k x hS.both).mono ?_
  rintro e W' ⟨rfl, u, u', h', l', hB, hk, f1, f2⟩
  have z1 := hS.sz
  have z0 := hS.z
  have hf : ∀ i, foot s u i ∨ foot b u' i → (foot s v i ∨ foot b v' i) ∨ W.heap.size ≤ i := fun i hi => hi.elim (fun e => (f1 i e).imp Or.inl id) (fun e => (f2 i e).imp Or.inr id)
  have hk2 : Kept (fun i => foot s v i ∨ foot b v' i) W W' := hk
  refine ⟨rfl, u, u', h', l', ⟨hB, fun i hi => (hf i hi).elim (hS.low i) (fun e => by omega), fun i hi e => ?_, fun i hi e => ?_, hS.lt, fun i hi => ?_, hS.below.trans (hk2.below (by omega) hS.low), Nat.le_trans z1 hk.size, z0⟩, hk2, hf⟩
  · have := hS.lt i (Or.inl e)
    exact (hf i hi).elim (fun e1 => hS.dis1 i e1 e) (fun e1 => by omega)
  · have := hS.lt i (Or.inr e)
    exact (hf i hi).elim (fun e1 => hS.dis2 i e1 e) (fun e1 => by omega)
  · have := hS.lt i (Or.inl hi)
    exact (hk.block i (by omega) (fun e => hS.dis1 i e hi)).trans (hS.fix i hi)

theorem both_isCells (hB : Both W s b D v v' h l) : ∀ i, foot s v i ∨ foot b v' i → ∃ c t f, W.heap[i]? = some (.cells c t f) := by
  have hs := hB.hs
  rintro i ((rfl | hi) | (rfl | hi))
  · exact hs.1.isCells
  · exact row_isCells hs.2.1 hi
  · exact hB.hr.1.isCells
  · exact row_isCells hB.hr.2.1 hi

/-- the machine's own book-keeping turns nothing of it -/
theorem SeAt.own (hS : SeAt w W0 W Bx Cx s b D v v' h l) {row : Option Nat} (hg : W.grownBy W' row) (hr : ∀ r, row = some r → W0.heap.size ≤ r ∧ ∃ o : Obj, W.heap[r]? = some o ∧ o.isCells = false) : SeAt w W0 W' Bx Cx s b D v v' h l := by
  have k : Kept (fun i => row = some i) W W' := (Kept.refl _ _).grown hg (fun i e => Or.inl e)
  have hne : ∀ i, foot s v i ∨ foot b v' i → ¬ row = some i := fun i hi e => by
    obtain ⟨c, t, f, hc⟩ := both_isCells hS.both i hi
    obtain ⟨_, o, ho, h2⟩ := hr i e
    rw [hc] at ho; cases ho; cases h2
  exact ⟨hS.both.kept k (fun i hi => hne i (Or.inl hi)) (fun i hi => hne i (Or.inr hi)), hS.low, hS.dis1, hS.dis2, hS.lt, fun i hi => (k.block i (by have := hS.lt i (Or.inl hi); have := hS.sz; omega) (fun e => by have := (hr i e).1; have := hS.lt i (Or.inl hi); omega)).trans (hS.fix i hi),
    hS.below.trans (k.below (Nat.le_trans hS.z hS.sz) (fun i e => Nat.le_trans hS.z (hr i e).1)), Nat.le_trans hS.sz k.size, hS.z⟩

theorem SeAt.blk {k : Nat} {cs : List Value} {t : TypeId} (hS : SeAt w W0 W Bx Cx s b D v v' h l) (hk : Bx k) (hb : Blk W0 k cs t) : Blk W k cs t := Blk.heap hb (hS.fix k hk)
theorem SeAt.row {u : Value} {xs : List Int} (hS : SeAt w W0 W Bx Cx s b D v v' h l) (hk : ∀ g, u.ownBlock = some g → Bx g) (hr : Row W0 3 1 u xs.length (xs.map (Value.int .i64))) : Row W 3 1 u xs.length (xs.map (Value.int .i64)) :=
  row_heap hr (fun g hg => hS.fix g (hk g hg))

/-- new boxes are made: the pair begins anew, with more boxes that stay -/
theorem SeAt.again {W1 : World} {Bx' Cx' : Nat → Prop} {M : Nat} (hS : SeAt w W0 W Bx Cx s b D v v' h l) (k : Kept (fun _ => False) W W1) (hM : W.heap.size = M)
    (hB : ∀ i, Bx' i → (Bx i ∨ M ≤ i) ∧ i < W1.heap.size) (hC : ∀ i, Cx' i → M ≤ i ∧ i < W1.heap.size) : SeAt w W1 W1 Bx' Cx' s b D v v' h l := by
  have z := hS.sz
  have z0 := hS.z
  refine ⟨hS.both.kept k (fun _ _ h => h) (fun _ _ h => h), hS.low, fun i hi e => ?_, fun i hi e => ?_, fun i hi => ?_, fun _ _ => rfl, hS.below.trans (k.below (by omega) (fun _ h => h.elim)), Nat.le_refl _, by have := k.size; omega⟩
  · rcases (hB i e).1 with e | e
    · exact hS.dis1 i hi e
    · have := hS.lts i hi; omega
  · have := hC i e
    have := hS.lts i hi
    omega
  · exact hi.elim (fun e => (hB i e).2) (fun e => (hC i e).2)

/-- what a round keeps -/
theorem SeAt.round {u u' : Value} {h' : Int} {l' : List Int} (hS : SeAt w W0 W Bx Cx s b D v v' h l) (hS' : SeAt w W0 W' Bx Cx s b D u u' h' l') (hk : Kept (fun i => (foot s v i ∨ foot b v' i) ∨ Cx i) W W')
    (hf : ∀ i, foot s u i ∨ foot b u' i → (foot s v i ∨ foot b v' i) ∨ W.heap.size ≤ i) (hc : ∀ i, Cx i → ∃ c t f, W.heap[i]? = some (.cells c t f)) (N : Nat) : KeepsFrom N W W' ∧ Keeps (ftS s b Cx) W W' := by
  refine ⟨hk.others (fun i _ hi => hi.elim (both_isCells hS.both i) (hc i)) N, hk.keeps (fun i hi => (hS.ft i).2 (hi.elim (fun e => e.elim Or.inl (fun e => Or.inr (Or.inl e))) (fun e => Or.inr (Or.inr e)))) (fun i hi => ?_)⟩
  rcases (hS'.ft i).1 hi with h | h | h
  · exact (hf i (Or.inl h)).imp (fun e => (hS.ft i).2 (e.elim Or.inl (fun e => Or.inr (Or.inl e)))) id
  · exact (hf i (Or.inr h)).imp (fun e => (hS.ft i).2 (e.elim Or.inl (fun e => Or.inr (Or.inl e)))) id
  · exact Or.inl ((hS.ft i).2 (Or.inr (Or.inr h)))
end
end Go.Proofs.Ytpbjmkdpeadjeaa.L
