/- Iterators in whose loops other objects are written: what a round must keep, said by the blocks that the caller owns (they may turn from round to round). No program is in sight here. -/
import Derived.Test.YtnfpiocjdhipcaaArgs
import Derived.RangeFuncNested
import Derived.RangeFuncBound
import Derived.RangeFuncCalls
import Derived.RangeFuncLeaves
import Derived.RangeFuncBox
import Derived.Shelf.Abstract
import Derived.OwnWalkIn
import Derived.TacticsInMore
import Derived.LoopNIn
import Derived.LoopIn
import Derived.Maps.AppendAt
namespace Go.Fr
open Go.RowKit

/-- blocks of cells that the caller does not own are as they were; what it owns behind was its own, or is new -/
structure Keeps (ft : World → Nat → Prop) (A B : World) : Prop where
  size : A.heap.size ≤ B.heap.size
  block : ∀ k c t f, A.heap[k]? = some (.cells c t f) → ¬ ft A k → B.heap[k]? = A.heap[k]?
  own : ∀ k, ft B k → ft A k ∨ A.heap.size ≤ k

/-- what the caller owns hangs on the blocks Bx alone, and these lie below n -/
structure Hangs (ft : World → Nat → Prop) (Bx : Nat → Prop) (n : Nat) : Prop where
  dep : ∀ (W W' : World), (∀ b, Bx b → W'.heap[b]? = W.heap[b]?) → ∀ k, ft W' k → ft W k
  low : ∀ b, Bx b → b < n

theorem Keeps.trans {ft : World → Nat → Prop} {A B C : World} (h : Keeps ft A B) (k : Keeps ft B C) : Keeps ft A C := by
  refine ⟨Nat.le_trans h.size k.size, fun i c t f hi hn => ?_, fun i hi => ?_⟩
  · have h1 := h.block i c t f hi hn
    have hlt := (Array.getElem?_eq_some_iff.1 hi).1
    have h2 : ¬ ft B i := fun hb => by rcases h.own i hb with h3 | h3; exact hn h3; omega
    rw [k.block i c t f (h1.trans hi) h2, h1]
  · rcases k.own i hi with h1 | h1
    · exact h.own i h1
    · exact Or.inr (Nat.le_trans h.size h1)

theorem keeps_putObj {ft : World → Nat → Prop} {Bx : Nat → Prop} {n : Nat} (hd : Hangs ft Bx n) (W : World) (l : Nat) (o o' : Obj) (hn : n ≤ l) (hl : W.heap[l]? = some o) (hc : o.isCells = false) : Keeps ft W (W.putObj l o') := by
  refine ⟨by simp, fun k c t f hk _ => ?_, fun k hk => Or.inl ?_⟩
  · exact World.putObj_heap_other (fun e => by subst e; rw [hl] at hk; cases hk; cases hc)
  · exact hd.dep W _ (fun b hb => World.putObj_heap_other (fun e => by have := hd.low b hb; omega)) k hk

/-- what a step keeps by blocks, it keeps so -/
theorem Kept.keeps {ft : World → Nat → Prop} {S : Nat → Prop} {A B : World} (h : Kept S A B) (hs : ∀ k, S k → ft A k) (ho : ∀ k, ft B k → ft A k ∨ A.heap.size ≤ k) : Keeps ft A B :=
  ⟨h.size, fun k _ _ _ hk hn => h.block k (Array.getElem?_eq_some_iff.1 hk).1 (fun hi => hn (hs k hi)), ho⟩

/-- a step that writes blocks of cells alone keeps whatever is none -/
theorem Kept.others {S : Nat → Prop} {A B : World} (h : Kept S A B) (hs : ∀ k, k < A.heap.size → S k → ∃ c t f, A.heap[k]? = some (.cells c t f)) (n : Nat) : KeepsFrom n A B := by
  refine ⟨h.size, fun k o _ hk ho => ?_⟩
  have hlt := (Array.getElem?_eq_some_iff.1 hk).1
  rw [h.block k hlt (fun hi => by
    obtain ⟨c, t, f, hc⟩ := hs k hlt hi
    rw [hk] at hc; cases hc; cases ho)]
  exact hk

/-- an owned row, a block known whole: they abide the turn of a block that is no cells -/
theorem Blk.cells {w w' : World} {row : Option Nat} {b : Nat} {cs : List Value} {t : TypeId} (h : Blk w b cs t) (hg : w.grownBy w' row) (hr : ∀ r, row = some r → ∃ o : Obj, w.heap[r]? = some o ∧ o.isCells = false) : Blk w' b cs t :=
  h.grown hg (fun e => by
    obtain ⟨o, ho, hc⟩ := hr b e.symm
    unfold Blk at h
    rw [h] at ho; cases ho; cases hc)
theorem row_cells {w w' : World} {row : Option Nat} {e : TypeId} {sz n : Nat} {v : Value} {xs : List Value} (h : Row w e sz v n xs) (hg : w.grownBy w' row) (hr : ∀ r, row = some r → ∃ o : Obj, w.heap[r]? = some o ∧ o.isCells = false) : Row w' e sz v n xs := by
  refine row_heap h (fun g hgg => ?_)
  rcases h.2 with ⟨rfl, _⟩ | ⟨g', cap, cur, rfl, _, hh, _⟩
  · simp [Value.ownBlock] at hgg
  · simp [Value.ownBlock] at hgg
    subst hgg
    refine hg.block g' (Array.getElem?_eq_some_iff.1 hh).1 (fun e => ?_)
    obtain ⟨o, ho, hc⟩ := hr g' e.symm
    rw [hh] at ho; cases ho; cases hc

/-- APPEND, WHATEVER IS APPENDED, in a fenced walk -/
theorem wpListIn_append_any {F : Fence} {N : Nat} {P : Program} {ops : Array Oper} {rest : List Oper} {o : Oper} {a : Act} {w : World} {Q : Exit → Act → World → Prop}
    (hg : o.guard = none) (s x : Operand) (t : TypeId) (hop : o.op = Op.call { callee := Callee.builtin Builtin.append, args := #[s, x], argTypes := #[t, t] })
    (e : TypeId) (i : TypeInfo) (z : Value) (size bytes : Nat) (h1 : P.underlying t = some (.slice e)) (h2 : P.info? e = some i) (h3 : i.zero = some z) (h4 : i.size = size) (h5 : i.bytes = bytes) (h6 : z.cells.size = size) (h7 : 0 < size)
    (ao : Option Addr) (n c : Nat) (xs : List Value) (hs : a.eval s = .slice ao n c) (hown : Row w e size (.slice ao n c) n xs)
    (so : Option Addr) (m sc : Nat) (news : List Value) (hx : a.eval x = .slice so m sc) (hsrc : Shows w size so m news) (h1c : ∀ u ∈ news, u.oneCell' = true)
    (b1 : n + m ≤ maxLen) (b2 : (n + m) * bytes ≤ 140737488355328)
    (hK : ∀ ao' c' w', Row w' e size (.slice ao' (n + m) c') (n + m) (xs ++ news) → w.grownBy w' (Value.slice ao n c).ownBlock → (∀ g, (Value.slice ao' (n + m) c').ownBlock = some g → (Value.slice ao n c).ownBlock = some g ∨ w.heap.size ≤ g) → wpListIn F N P ops Q rest (a.put o.dst (.slice ao' (n + m) c')) w') :
    wpListIn F N P ops Q (o :: rest) a w := by
  refine wpListIn_plain hg fun K hK' => ?_
  obtain ⟨ao', c', w', hrun, r1, r2, r3⟩ := run_append_any (P := P) w t o.type e i z size bytes h1 h2 h3 h4 h5 h6 h7 ao n c xs hown so m sc news hsrc h1c b1 b2
  unfold Oper.wpIn
  refine ⟨by simp [Oper.about, hop, resolve, Target.leads, Sem.run_pure], ?_⟩
  rw [Oper.semAt_plain F _ _ (by rw [hop]; intro c hc'; cases hc')]
  simp [execOp, hop, resolve, invoke, builtin, hs, hx, hrun, Result.andThen]
  exact hK' _ _ (hK ao' c' w' r1 r2 r3)

/-- a box, and what the slice in it owns -/
def ftBox (B : Nat) (W : World) (k : Nat) : Prop := k = B ∨ ∃ v, W.cell? ⟨B, 0, none⟩ = some v ∧ v.ownBlock = some k

theorem ftBox_hangs {B n : Nat} (hB : B < n) : Hangs (ftBox B) (fun b => b = B) n := by
  refine ⟨fun W W' hd k hk => ?_, fun b hb => by omega⟩
  rcases hk with rfl | ⟨v, hv, ho⟩
  · exact Or.inl rfl
  · exact Or.inr ⟨v, by rw [← hv]; exact (World.cell?_of_block (w := W) (w' := W') (a := ⟨B, 0, none⟩) (hd B rfl)).symm, ho⟩

theorem grownBy_of_kept {w w' : World} (h : Kept (fun _ => False) w w') : w.grownBy w' none := ⟨h.os, h.tape, h.output, h.size, fun k hk _ => h.block k hk (fun h => h)⟩
theorem Kept.of_grown {S : Nat → Prop} {a w w' : World} {row : Option Nat} {n : Nat} (h : Kept S a w) (hg : w.grownBy w' row) (hn : a.heap.size ≤ n) (hr : ∀ r, row = some r → n ≤ r) : Kept S a w' :=
  h.grown hg (fun k hk => Or.inr (by have := hr k hk; omega))

theorem row_isCells {w : World} {e : TypeId} {sz n : Nat} {v : Value} {xs : List Value} (h : Row w e sz v n xs) {k : Nat} (hk : v.ownBlock = some k) : ∃ c t f, w.heap[k]? = some (.cells c t f) := by
  rcases h.2 with ⟨rfl, _⟩ | ⟨g, cap, cur, rfl, _, hh, _⟩
  · simp [Value.ownBlock] at hk
  · simp [Value.ownBlock] at hk
    subst hk
    exact ⟨_, _, _, hh⟩
theorem Blk.isCells {w : World} {b : Nat} {cs : List Value} {t : TypeId} (h : Blk w b cs t) : ∃ c t f, w.heap[b]? = some (.cells c t f) := ⟨_, _, _, h⟩

/-- ONE ROUND 'out = append(out, x)', out A BOXED SLICE: what the round keeps, and what it leaves. -/
theorem box_round {W w1 : World} {B n c c' : Nat} {ao ao' : Option Addr} {t e te : TypeId} {xs : List Value} {x : Value} (h1 : Blk W B [.slice ao n c] t) (h2 : Row W e 1 (.slice ao n c) n xs) (hown : (Value.slice ao n c).ownBlock ≠ some B)
    (r1 : Row w1 e 1 (.slice ao' (n + 1) c') (n + 1) (xs ++ [x])) (r2 : (W.alloc (.cells #[x] te)).grownBy w1 (Value.slice ao n c).ownBlock)
    (r3 : ∀ g, (Value.slice ao' (n + 1) c').ownBlock = some g → (Value.slice ao n c).ownBlock = some g ∨ W.heap.size + 1 ≤ g) :
    Blk (w1.setCell ⟨B, 0, none⟩ (.slice ao' (n + 1) c')) B [.slice ao' (n + 1) c'] t ∧ Row (w1.setCell ⟨B, 0, none⟩ (.slice ao' (n + 1) c')) e 1 (.slice ao' (n + 1) c') (n + 1) (xs ++ [x]) ∧
    Kept (ftBox B W) W (w1.setCell ⟨B, 0, none⟩ (.slice ao' (n + 1) c')) ∧ Keeps (ftBox B) W (w1.setCell ⟨B, 0, none⟩ (.slice ao' (n + 1) c')) ∧ (∀ N, KeepsFrom N W (w1.setCell ⟨B, 0, none⟩ (.slice ao' (n + 1) c'))) := by
  have hb1 := blk_after r2 (h1.alloc (.cells #[x] te)) rfl hown
  have hlt := h1.lt
  have hne : (Value.slice ao' (n + 1) c').ownBlock ≠ some B := fun e => (r3 B e).elim hown (fun h => by omega)
  have hb2 := hb1.set 0 (.slice ao' (n + 1) c')
  have K1 : Kept (ftBox B W) W (w1.setCell ⟨B, 0, none⟩ (.slice ao' (n + 1) c')) :=
    (((Kept.refl (ftBox B W) W).alloc _).grown r2 (fun k hk => Or.inl (Or.inr ⟨_, h1.cell 0 rfl, hk⟩))).set (b := B) 0 (Or.inl (Or.inl rfl)) _
  refine ⟨hb2, row_setCell_other r1 (a := ⟨B, 0, none⟩) hne _, K1, K1.keeps (fun _ h => h) ?_, K1.others ?_⟩
  · rintro k (rfl | ⟨v, hv, hk⟩)
    · exact Or.inl (Or.inl rfl)
    · have hc := hb2.cell 0 rfl
      rw [hc] at hv
      cases hv
      rcases r3 k hk with h | h
      · exact Or.inl (Or.inr ⟨_, h1.cell 0 rfl, h⟩)
      · exact Or.inr (by omega)
  · rintro k _ (rfl | ⟨v, hv, hk⟩)
    · exact h1.isCells
    · have hc := h1.cell 0 rfl
      rw [hc] at hv
      cases hv
      exact row_isCells h2 hk

end Go.Fr
