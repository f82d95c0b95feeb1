/- lock.New: a lock under way. -/
import Derived.Test.YtnfpiocjdhipcaaLkD
import Derived.Test.YtnfpiocjdhipcaaLkB
namespace Go.Proofs.Ytnfpiocjdhipcaa.LK
open Go.RowKit Go.Fr Go.Tb

def pcells (rb : Nat) (vi vc : Value) : List Value := [.map (some rb), vi, vc, .map none, .map none, .map none, .bool false, .int .i64 0, .int .i64 0]
/-- the rows of the first k tasks, of the first j ISRs -/
def rowK (T : Tb) (k j : Nat) (o : Ow) : Option RowR :=
  if o.2 < 0 then none else if o.1 then (if o.2.toNat < j then rowT T o else none) else (if o.2.toNat < k then rowT T o else none)
theorem rowK_all (T : Tb) (o : Ow) : rowK T T.tasks.length T.isrs.length o = rowT T o := by
  unfold rowK
  by_cases h0 : o.2 < 0
  · rw [if_pos h0]; unfold rowT; rw [if_pos h0]
  · rw [if_neg h0]
    obtain ⟨oi, id⟩ := o
    cases oi with
    | true =>
      simp only [if_true]
      by_cases h : id.toNat < T.isrs.length
      · rw [if_pos h]
      · rw [if_neg h]
        unfold rowT
        rw [if_neg h0]
        simp only [if_true]
        rw [List.getElem?_eq_none (by omega)]
        rfl
    | false =>
      simp only [Bool.false_eq_true, if_false]
      by_cases h : id.toNat < T.tasks.length
      · rw [if_pos h]
      · rw [if_neg h]
        unfold rowT
        rw [if_neg h0]
        simp only [Bool.false_eq_true, if_false]
        rw [List.getElem?_eq_none (by omega)]
        rfl
theorem rowK_0 (T : Tb) (o : Ow) : rowK T 0 0 o = none := by
  unfold rowK
  simp
theorem rowK_task {T : Tb} {k : Nat} {x : TaskR} (hx : T.tasks[k]? = some x) (o : Ow) : rowK T (k + 1) 0 o = if ((false, (k : Int)) : Ow) = o then some ⟨x.pr, x.own, x.inl, 0⟩ else rowK T k 0 o := by
  obtain ⟨oi, id⟩ := o
  by_cases e : ((false, (k : Int)) : Ow) = (oi, id)
  · rw [if_pos e]
    cases e
    unfold rowK rowT
    simp [hx]
  · rw [if_neg e]
    unfold rowK
    cases oi with
    | true => rfl
    | false =>
      simp only [Bool.false_eq_true, if_false]
      by_cases h0 : id < 0
      · simp [h0]
      · have : id.toNat ≠ k := fun h => e (by rw [← h]; simp; omega)
        by_cases h1 : id.toNat < k
        · simp [h0, h1, show id.toNat < k + 1 by omega]
        · simp [h0, h1, show ¬ id.toNat < k + 1 by omega]
theorem rowK_isr {T : Tb} {k n : Nat} {x : IsrR} (hx : T.isrs[k]? = some x) (o : Ow) : rowK T n (k + 1) o = if ((true, (k : Int)) : Ow) = o then some ⟨x.pr, x.own, -1, x.cat⟩ else rowK T n k o := by
  obtain ⟨oi, id⟩ := o
  by_cases e : ((true, (k : Int)) : Ow) = (oi, id)
  · rw [if_pos e]
    cases e
    unfold rowK rowT
    simp [hx]
  · rw [if_neg e]
    unfold rowK
    cases oi with
    | false => rfl
    | true =>
      simp only [if_true]
      by_cases h0 : id < 0
      · simp [h0]
      · have : id.toNat ≠ k := fun h => e (by rw [← h]; simp; omega)
        by_cases h1 : id.toNat < k
        · simp [h0, h1, show id.toNat < k + 1 by omega]
        · simp [h0, h1, show ¬ id.toNat < k + 1 by omega]

structure Pw (w0 w : World) (b rb : Nat) (T : Tb) (k j : Nat) (rows : List (Ow × RowV)) (vi vc : Value) (m m2 : Nat) : Prop where
  blk : Blk w b (pcells rb vi vc) 74
  map : IsMap w ekO evR rb rows
  rok : ∀ p ∈ rows, okO p.1
  rat : ∀ o, (getA rows o).map RowV.r = rowK T k j o
  own : ∀ p ∈ rows, CameL w 1 (encK .i64) p.2.oa p.2.own ∧ ∀ a, p.2.oa = some a → (w0.heap.size ≤ a.block ∧ a.block < w.heap.size ∧ a.block ≠ b ∧ a.block ≠ rb) ∧ vi.ownBlock ≠ some a.block ∧ vc.ownBlock ≠ some a.block
  kept : Kept (fun _ => False) w0 w
  new : w0.heap.size ≤ b ∧ w0.heap.size ≤ rb
  inl : Row w 4 1 vi m ((T.ress.take m).map (fun x => Value.bool x.1))
  cei : Row w 3 1 vc m2 ((T.ress.take m2).map (fun x => Value.int .i64 x.2))
  li : ∀ g, vi.ownBlock = some g → w0.heap.size ≤ g ∧ g ≠ b ∧ g ≠ rb ∧ vc.ownBlock ≠ some g
  lc : ∀ g, vc.ownBlock = some g → w0.heap.size ≤ g ∧ g ≠ b ∧ g ≠ rb
section
variable {w0 w w' w1 w2 : World} {b rb : Nat} {T : Tb} {k j k' j' : Nat} {rows : List (Ow × RowV)} {vi vc : Value} {m m2 : Nat}
theorem Pw.same (h : Pw w0 w b rb T k j rows vi vc m m2) (q : Kept (fun _ => False) w w') : Pw w0 w' b rb T k j rows vi vc m m2 :=
  ⟨h.blk.kept q (fun x => x), h.map.kept q (fun x => x), h.rok, h.rat, fun p hp => ⟨camel_kept (h.own p hp).1 q (fun _ _ x => x), fun a ha => ⟨⟨((h.own p hp).2 a ha).1.1, Nat.lt_of_lt_of_le ((h.own p hp).2 a ha).1.2.1 q.size, ((h.own p hp).2 a ha).1.2.2⟩, ((h.own p hp).2 a ha).2⟩⟩, h.kept.then q (fun _ x => x.elim), h.new, row_kept h.inl q (fun _ _ x => x), row_kept h.cei q (fun _ _ x => x), h.li, h.lc⟩
/-- one owner more -/
theorem Pw.row {o : Ow} {rv : RowV} (h : Pw w0 w b rb T k j rows vi vc m m2) (ho : okO o) (hr : ∀ p, rowK T k' j' p = if o = p then some rv.r else rowK T k j p) (q1 : Kept (fun _ => False) w w1) (hc : CameL w1 1 (encK .i64) rv.oa rv.own) (hb : ∀ a, rv.oa = some a → w.heap.size ≤ a.block ∧ a.block < w1.heap.size)
    (hm : IsMap w2 ekO evR rb (putA rows o rv)) (q2 : Kept (fun g => g = rb) w1 w2) : Pw w0 w2 b rb T k' j' (putA rows o rv) vi vc m m2 := by
  have h1 := h.same q1
  have hlt := h.blk.lt
  have hlt2 := h.map.lt
  have hs0 := h.kept.size
  refine ⟨h1.blk.kept q2 (blk_ne_map h1.blk h1.map), hm, put_ok h.rok ho, fun p => ?_, fun p hp => ?_, h1.kept.then q2 (fun i e => Or.inr (by rw [e]; exact h.new.2)), h.new, row_kept h1.inl q2 (fun g hg e => (h.li g hg).2.2.1 e), row_kept h1.cei q2 (fun g hg e => (h.lc g hg).2.2 e), h.li, h.lc⟩
  · rw [getA_put, hr]
    by_cases e : o = p
    · rw [if_pos e, if_pos e]; rfl
    · rw [if_neg e, if_neg e]; exact h.rat p
  · rcases mem_put hp with rfl | hp
    · refine ⟨camel_kept hc q2 (fun a ha e => by have := hb a ha; omega), fun a ha => ?_⟩
      have h2 := hb a ha
      have h3 := q2.size
      refine ⟨⟨by omega, by omega, by omega, by omega⟩, fun e => ?_, fun e => ?_⟩
      · have := row_lt h.inl e; omega
      · have := row_lt h.cei e; omega
    · obtain ⟨g1, g2⟩ := h1.own p hp
      refine ⟨camel_kept g1 q2 (fun a ha e => (g2 a ha).1.2.2.2 e), fun a ha => ?_⟩
      obtain ⟨⟨e1, e2, e3⟩, e4⟩ := g2 a ha
      exact ⟨⟨e1, Nat.lt_of_lt_of_le e2 q2.size, e3⟩, e4⟩
/-- a resource's flag more -/
theorem Pw.flag {wd xw wf : World} {ao : Option Addr} {c : Nat} {x : Bool × Int} (h : Pw w0 w b rb T k j rows vi vc m m2) (hx : T.ress[m]? = some x) (kd : Kept (fun _ => False) w wd) (r2 : wd.grownBy xw vi.ownBlock) (r1 : Row xw 4 1 (.slice ao (m + 1) c) (m + 1) ((T.ress.take m).map (fun x => Value.bool x.1) ++ [.bool x.1]))
    (r3 : ∀ g, (Value.slice ao (m + 1) c).ownBlock = some g → vi.ownBlock = some g ∨ wd.heap.size ≤ g) (kf : Kept (fun _ => False) (xw.setCell ⟨b, 1, none⟩ (.slice ao (m + 1) c)) wf) : Pw w0 wf b rb T k j rows (.slice ao (m + 1) c) vc (m + 1) m2 := by
  have hlt := h.blk.lt
  have hlt2 := h.map.lt
  have hs0 := h.kept.size
  have hwd := kd.size
  have k1 : Kept (fun g => g = b ∨ vi.ownBlock = some g) w xw := (kd.mono (fun _ _ x => x.elim)).grown r2 (fun g e => Or.inl (Or.inr e))
  have k2 : Kept (fun g => g = b ∨ vi.ownBlock = some g) w (xw.setCell ⟨b, 1, none⟩ (.slice ao (m + 1) c)) := k1.setCell (p := ⟨b, 1, none⟩) (Or.inl (Or.inl rfl)) _
  have k3 : Kept (fun g => g = b ∨ vi.ownBlock = some g) w wf := k2.then kf (fun _ x => x.elim)
  have nb : ¬ vi.ownBlock = some b := fun e => (h.li b e).2.1 rfl
  have nr : ¬ (rb = b ∨ vi.ownBlock = some rb) := fun e => by
    rcases e with e | e
    · exact blk_ne_map h.blk h.map e.symm
    · exact (h.li rb e).2.2.1 rfl
  have hnew : ∀ g, (Value.slice ao (m + 1) c).ownBlock = some g → vi.ownBlock = some g ∨ w.heap.size ≤ g := fun g hg => (r3 g hg).imp id (fun e => Nat.le_trans hwd e)
  have e1 : (T.ress.take (m + 1)).map (fun x => Value.bool x.1) = (T.ress.take m).map (fun x => Value.bool x.1) ++ [.bool x.1] := by
    rw [List.take_add_one, hx]; simp
  refine ⟨?_, h.map.kept k3 nr, h.rok, h.rat, fun p hp => ?_, h.kept.then k3 (fun i e => Or.inr (by rcases e with e | e; rw [e]; exact h.new.1; exact (h.li i e).1)), h.new, ?_, row_kept h.cei k3 (fun g hg e => by rcases e with e | e; exact (h.lc g hg).2.1 e; exact (h.li g e).2.2.2 hg), fun g hg => ?_, h.lc⟩
  · have kx : Kept (fun g => vi.ownBlock = some g) w xw := (kd.mono (fun _ _ x => x.elim)).grown r2 (fun g e => Or.inl e)
    exact ((h.blk.kept kx nb).set 1 (.slice ao (m + 1) c)).kept kf (fun x => x)
  · obtain ⟨g1, g2⟩ := h.own p hp
    refine ⟨camel_kept g1 k3 (fun a ha e => by
      rcases e with e | e
      · exact (g2 a ha).1.2.2.1 e
      · exact (g2 a ha).2.1 e), fun a ha => ?_⟩
    obtain ⟨⟨q1, q2, q3⟩, q4, q5⟩ := g2 a ha
    exact ⟨⟨q1, Nat.lt_of_lt_of_le q2 k3.size, q3⟩, fun e => by
      rcases hnew _ e with e2 | e2
      · exact q4 e2
      · omega, q5⟩
  · rw [e1]
    exact row_kept (row_setCell_other r1 (a := ⟨b, 1, none⟩) (fun e => by
      rcases hnew b e with e2 | e2
      · exact nb e2
      · omega) _) kf (fun _ _ x => x)
  · rcases hnew g hg with e | e
    · exact h.li g e
    · exact ⟨by omega, by omega, by omega, fun e2 => by have := row_lt h.cei e2; omega⟩
/-- a resource's ceiling more -/
theorem Pw.ceil {wd xw wf : World} {ao : Option Addr} {c : Nat} {x : Bool × Int} (h : Pw w0 w b rb T k j rows vi vc m m2) (hx : T.ress[m2]? = some x) (kd : Kept (fun _ => False) w wd) (r2 : wd.grownBy xw vc.ownBlock) (r1 : Row xw 3 1 (.slice ao (m2 + 1) c) (m2 + 1) ((T.ress.take m2).map (fun x => Value.int .i64 x.2) ++ [.int .i64 x.2]))
    (r3 : ∀ g, (Value.slice ao (m2 + 1) c).ownBlock = some g → vc.ownBlock = some g ∨ wd.heap.size ≤ g) (kf : Kept (fun _ => False) (xw.setCell ⟨b, 2, none⟩ (.slice ao (m2 + 1) c)) wf) : Pw w0 wf b rb T k j rows vi (.slice ao (m2 + 1) c) m (m2 + 1) := by
  have hlt := h.blk.lt
  have hlt2 := h.map.lt
  have hs0 := h.kept.size
  have hwd := kd.size
  have k1 : Kept (fun g => g = b ∨ vc.ownBlock = some g) w xw := (kd.mono (fun _ _ x => x.elim)).grown r2 (fun g e => Or.inl (Or.inr e))
  have k2 : Kept (fun g => g = b ∨ vc.ownBlock = some g) w (xw.setCell ⟨b, 2, none⟩ (.slice ao (m2 + 1) c)) := k1.setCell (p := ⟨b, 2, none⟩) (Or.inl (Or.inl rfl)) _
  have k3 : Kept (fun g => g = b ∨ vc.ownBlock = some g) w wf := k2.then kf (fun _ x => x.elim)
  have nb : ¬ vc.ownBlock = some b := fun e => (h.lc b e).2.1 rfl
  have nr : ¬ (rb = b ∨ vc.ownBlock = some rb) := fun e => by
    rcases e with e | e
    · exact blk_ne_map h.blk h.map e.symm
    · exact (h.lc rb e).2.2 rfl
  have hnew : ∀ g, (Value.slice ao (m2 + 1) c).ownBlock = some g → vc.ownBlock = some g ∨ w.heap.size ≤ g := fun g hg => (r3 g hg).imp id (fun e => Nat.le_trans hwd e)
  have e1 : (T.ress.take (m2 + 1)).map (fun x => Value.int .i64 x.2) = (T.ress.take m2).map (fun x => Value.int .i64 x.2) ++ [.int .i64 x.2] := by
    rw [List.take_add_one, hx]; simp
  refine ⟨?_, h.map.kept k3 nr, h.rok, h.rat, fun p hp => ?_, h.kept.then k3 (fun i e => Or.inr (by rcases e with e | e; rw [e]; exact h.new.1; exact (h.lc i e).1)), h.new, row_kept h.inl k3 (fun g hg e => by rcases e with e | e; exact (h.li g hg).2.1 e; exact (h.li g hg).2.2.2 e), ?_, fun g hg => ?_, fun g hg => ?_⟩
  · have kx : Kept (fun g => vc.ownBlock = some g) w xw := (kd.mono (fun _ _ x => x.elim)).grown r2 (fun g e => Or.inl e)
    exact ((h.blk.kept kx nb).set 2 (.slice ao (m2 + 1) c)).kept kf (fun x => x)
  · obtain ⟨g1, g2⟩ := h.own p hp
    refine ⟨camel_kept g1 k3 (fun a ha e => by
      rcases e with e | e
      · exact (g2 a ha).1.2.2.1 e
      · exact (g2 a ha).2.2 e), fun a ha => ?_⟩
    obtain ⟨⟨q1, q2, q3⟩, q4, q5⟩ := g2 a ha
    exact ⟨⟨q1, Nat.lt_of_lt_of_le q2 k3.size, q3⟩, q4, fun e => by
      rcases hnew _ e with e2 | e2
      · exact q5 e2
      · omega⟩
  · rw [e1]
    exact row_kept (row_setCell_other r1 (a := ⟨b, 2, none⟩) (fun e => by
      rcases hnew b e with e2 | e2
      · exact nb e2
      · omega) _) kf (fun _ _ x => x)
  · obtain ⟨q1, q2, q3, q4⟩ := h.li g hg
    refine ⟨q1, q2, q3, fun e => ?_⟩
    rcases hnew g e with e2 | e2
    · exact q4 e2
    · have := row_lt h.inl hg; omega
  · rcases hnew g hg with e | e
    · exact h.lc g e
    · exact ⟨by omega, by omega, by omega⟩
end
end Go.Proofs.Ytnfpiocjdhipcaa.LK
