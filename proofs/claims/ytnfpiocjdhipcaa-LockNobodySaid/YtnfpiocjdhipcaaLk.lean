/- lock.Lock: where its parts lie, and what they say. -/
import Derived.Test.YtnfpiocjdhipcaaLkS
namespace Go.Proofs.Ytnfpiocjdhipcaa.LK
open Go.RowKit Go.Fr Go.Tb

/-- a list that lies in memory as a slice -/
def Lv {α : Type} (w : World) (v : Value) (sz : Nat) (enc : α → List Value) (l : List α) : Prop := ∃ ao c, v = .slice ao l.length c ∧ CameL w sz enc ao l
theorem camel_kept {α : Type} {w w' : World} {ao : Option Addr} {sz : Nat} {enc : α → List Value} {l : List α} {S : Nat → Prop} (hc : CameL w sz enc ao l) (k : Kept S w w') (hn : ∀ a, ao = some a → ¬ S a.block) : CameL w' sz enc ao l := by
  intro hl
  obtain ⟨g, off, rfl, hg, hcc⟩ := hc hl
  refine ⟨g, off, rfl, Nat.lt_of_lt_of_le hg k.size, fun i x hx j u hu => ?_⟩
  rw [k.cell (p := ⟨g, off + i * sz + j, none⟩) hg (hn ⟨g, off, none⟩ rfl)]
  exact hcc i x hx j u hu
theorem Lv.kept {α : Type} {w w' : World} {v : Value} {sz : Nat} {enc : α → List Value} {l : List α} {S : Nat → Prop} (h : Lv w v sz enc l) (k : Kept S w w') (hn : ∀ g, v.ownBlock = some g → ¬ S g) : Lv w' v sz enc l := by
  obtain ⟨ao, c, rfl, hc⟩ := h
  exact ⟨ao, c, rfl, camel_kept hc k (fun a ha => hn a.block (by rw [ha]; rfl))⟩

structure RowV where
  pr : Int
  own : List Int
  oa : Option Addr
  oc : Nat
  inl : Int
  cat : Int
def evR (x : RowV) : Value := .agg #[.int .i64 x.pr, .slice x.oa x.own.length x.oc, .int .i64 x.inl, .int .i64 x.cat]
def RowV.r (x : RowV) : RowR := ⟨x.pr, x.own, x.inl, x.cat⟩
structure StkP where
  b : Nat
  v : Value
  d : Int
  h : Int
def evP (x : StkP) : Value := .pointer (some ⟨x.b, 0, none⟩)
def encB1 (x : Bool) : List Value := [.bool x]
/-- where a lock's parts lie; its maps' pairs -/
structure Lm where
  rb : Nat
  vi : Value
  vc : Value
  rows : List (Ow × RowV)
  hb : Nat
  ob : Nat
  eb : Nat
  H : List (Ow × StkP)
  O : List (Int × Ow)
  E : List (Int × Bool)
abbrev Gt := Bool × Int × Int
def lcells (M : Lm) (G : Gt) : List Value := [.map (some M.rb), M.vi, M.vc, .map (some M.hb), .map (some M.ob), .map (some M.eb), .bool G.1, .int .i64 G.2.1, .int .i64 G.2.2]
/-- the blocks that a call may turn -/
def lmut (b : Nat) (M : Lm) (g : Nat) : Prop := g = b ∨ g = M.hb ∨ g = M.ob ∨ g = M.eb ∨ ∃ p ∈ M.H, SI.foot p.2.b p.2.v g
/-- the blocks that never turn -/
def lfix (M : Lm) (g : Nat) : Prop := g = M.rb ∨ M.vi.ownBlock = some g ∨ M.vc.ownBlock = some g ∨ ∃ p ∈ M.rows, ∃ a, p.2.oa = some a ∧ a.block = g
/-- what an owner's stack holds -/
def StkAt (w : World) (T : Tb) (L : List Take) (o : Ow) : Option StkP → Prop
  | some s => (∃ x, rowT T o = some x ∧ s.d = x.own.length) ∧ SI.IsStk w s.b s.v s.d s.h (heldL L o)
  | none => heldL L o = []
def inAt (In : List Bool) (i : Int) : Bool := decide (0 ≤ i) && (In[i.toNat]?).getD false

/-- what is never turned -/
structure Fx (w : World) (M : Lm) (T : Tb) : Prop where
  rows : IsMap w ekO evR M.rb M.rows
  rok : ∀ p ∈ M.rows, okO p.1
  rat : ∀ o, (getA M.rows o).map RowV.r = rowT T o
  own : ∀ p ∈ M.rows, CameL w 1 (encK .i64) p.2.oa p.2.own
  inl : Lv w M.vi 1 encB1 (T.ress.map (·.1))
  cei : Lv w M.vc 1 (encK .i64) (T.ress.map (·.2))
  lt : ∀ g, lfix M g → g < w.heap.size
  sm : ∀ o x, rowT T o = some x → x.own.length ≤ 1024
structure IsLk (w : World) (b : Nat) (M : Lm) (T : Tb) (L : List Take) (In : List Bool) (G : Gt) : Prop where
  blk : Blk w b (lcells M G) 74
  fx : Fx w M T
  hm : IsMap w ekO evP M.hb M.H
  om : IsMap w ekI ekO M.ob M.O
  em : IsMap w ekI evB M.eb M.E
  hok : ∀ p ∈ M.H, okO p.1
  ook : ∀ p ∈ M.O, I64 p.1
  eok : ∀ p ∈ M.E, I64 p.1
  hat : ∀ o, StkAt w T L o (getA M.H o)
  oat : ∀ r, getA M.O r = holdL L r
  eat : ∀ i : Int, getA M.E i = if inAt In i = true then some true else none
  inv : LInv T L
  li : In.length = T.tasks.length
  ap : ∀ o s o' s', getA M.H o = some s → getA M.H o' = some s' → o ≠ o' → ∀ g, SI.foot s.b s.v g → ¬ SI.foot s'.b s'.v g
  hd : ∀ o s, getA M.H o = some s → ∀ g, SI.foot s.b s.v g → g ≠ b ∧ g ≠ M.hb ∧ g ≠ M.ob ∧ g ≠ M.eb
  nb : M.hb ≠ M.ob ∧ M.hb ≠ M.eb ∧ M.ob ≠ M.eb
  sep : ∀ g, lfix M g → ¬ lmut b M g

section
variable {w w' : World} {b : Nat} {M : Lm} {T : Tb} {L : List Take} {In : List Bool} {G : Gt} {S : Nat → Prop} {o : Ow}
theorem Fx.kept (h : Fx w M T) (k : Kept S w w') (hn : ∀ g, lfix M g → ¬ S g) : Fx w' M T :=
  ⟨h.rows.kept k (hn _ (Or.inl rfl)), h.rok, h.rat, fun p hp => camel_kept (h.own p hp) k (fun a ha => hn _ (Or.inr (Or.inr (Or.inr ⟨p, hp, a, ha, rfl⟩)))), h.inl.kept k (fun g hg => hn g (Or.inr (Or.inl hg))), h.cei.kept k (fun g hg => hn g (Or.inr (Or.inr (Or.inl hg)))), fun g hg => Nat.lt_of_lt_of_le (h.lt g hg) k.size, h.sm⟩
theorem blk_ne_map {w : World} {b g : Nat} {cs : List Value} {t : TypeId} {κ ν : Type} {ek : κ → Value} {ev : ν → Value} {l : List (κ × ν)} (h : Blk w b cs t) (m : IsMap w ek ev g l) : b ≠ g := by
  rintro rfl
  obtain ⟨es, c, hb, _⟩ := m
  rw [show w.heap[b]? = some (.cells cs.toArray t (0, 0)) from h] at hb
  cases hb
theorem IsLk.stk (h : IsLk w b M T L In G) {s : StkP} (hs : getA M.H o = some s) : SI.IsStk w s.b s.v s.d s.h (heldL L o) := by
  have := h.hat o
  rw [hs] at this
  exact this.2
theorem stk_lt {s : StkP} {l : List Int} (h : SI.IsStk w s.b s.v s.d s.h l) : ∀ g, SI.foot s.b s.v g → g < w.heap.size := by
  rintro g (rfl | hg)
  · exact h.1.lt
  · exact row_lt h.2.1 hg
theorem IsLk.foot (_ : IsLk w b M T L In G) {s : StkP} (hs : getA M.H o = some s) : ∀ g, SI.foot s.b s.v g → lmut b M g := fun _ hg => Or.inr (Or.inr (Or.inr (Or.inr ⟨(o, s), mem_getA hs, hg⟩)))
theorem IsLk.mlt (h : IsLk w b M T L In G) : ∀ g, lmut b M g → g < w.heap.size := by
  rintro g (rfl | rfl | rfl | rfl | ⟨p, hp, hg⟩)
  · exact h.blk.lt
  · exact h.hm.lt
  · exact h.om.lt
  · exact h.em.lt
  · exact stk_lt (h.stk (getA_mem h.hm.apart hp)) g hg
theorem IsLk.kept (h : IsLk w b M T L In G) (k : Kept S w w') (hn : ∀ g, lmut b M g → ¬ S g) (hf : ∀ g, lfix M g → ¬ S g) : IsLk w' b M T L In G :=
  { h with
    blk := h.blk.kept k (hn _ (Or.inl rfl))
    fx := h.fx.kept k hf
    hm := h.hm.kept k (hn _ (Or.inr (Or.inl rfl)))
    om := h.om.kept k (hn _ (Or.inr (Or.inr (Or.inl rfl))))
    em := h.em.kept k (hn _ (Or.inr (Or.inr (Or.inr (Or.inl rfl)))))
    hat := fun o => by
      have h1 := h.hat o
      cases hs : getA M.H o with
      | none => rw [hs] at h1; exact h1
      | some s =>
        rw [hs] at h1
        exact ⟨h1.1, h1.2.kept k (fun g hg => hn g (h.foot hs g hg))⟩ }
theorem IsLk.same (h : IsLk w b M T L In G) (k : Kept (fun _ => False) w w') : IsLk w' b M T L In G := h.kept k (fun _ _ x => x) (fun _ _ x => x)
/-- the cells -/
theorem IsLk.cells (h : IsLk w b M T L In G) : w.cell? ⟨b, 0, none⟩ = some (.map (some M.rb)) ∧ w.cell? ⟨b, 1, none⟩ = some M.vi ∧ w.cell? ⟨b, 2, none⟩ = some M.vc ∧ w.cell? ⟨b, 3, none⟩ = some (.map (some M.hb)) ∧ w.cell? ⟨b, 4, none⟩ = some (.map (some M.ob)) ∧ w.cell? ⟨b, 5, none⟩ = some (.map (some M.eb)) ∧
    w.cell? ⟨b, 6, none⟩ = some (.bool G.1) ∧ w.cell? ⟨b, 7, none⟩ = some (.int .i64 G.2.1) ∧ w.cell? ⟨b, 8, none⟩ = some (.int .i64 G.2.2) :=
  ⟨h.blk.cell 0 rfl, h.blk.cell 1 rfl, h.blk.cell 2 rfl, h.blk.cell 3 rfl, h.blk.cell 4 rfl, h.blk.cell 5 rfl, h.blk.cell 6 rfl, h.blk.cell 7 rfl, h.blk.cell 8 rfl⟩

/-- what a row's look-up gives -/
def noRow : Value := .agg #[.int .i64 0, .slice none 0 0, .int .i64 0, .int .i64 0]
theorem zeroR (w : World) : (zeroValue 79).run Try.prog w = .ok noRow w := by kernel_rfl
theorem zeroP (w : World) : (zeroValue 84).run Try.prog w = .ok (.pointer none) w := by kernel_rfl
theorem zeroO (w : World) : (zeroValue 38).run Try.prog w = .ok (ekO (false, 0)) w := by kernel_rfl
theorem zeroB (w : World) : (zeroValue 4).run Try.prog w = .ok (.bool false) w := by kernel_rfl
theorem Fx.look (h : Fx w M T) (ho : okO o) (c : Bool) : (∃ x, getA M.rows o = some x ∧ rowT T o = some x.r ∧ CameL w 1 (encK .i64) x.oa x.own ∧ (Instr.lookup 68 (.map (some M.rb)) (ekO o) c).run Try.prog w = .ok (if c then .tuple #[evR x, .bool true] else evR x) w) ∨
    (rowT T o = none ∧ (Instr.lookup 68 (.map (some M.rb)) (ekO o) c).run Try.prog w = .ok (if c then .tuple #[noRow, .bool false] else noRow) w) := by
  have hl := h.rows.look keyO h.rok Try.underlying68 ho (zeroR w) c
  have hr := h.rat o
  cases hx : getA M.rows o with
  | none =>
    rw [hx] at hl hr
    exact Or.inr ⟨hr.symm, hl⟩
  | some x =>
    rw [hx] at hl hr
    exact Or.inl ⟨x, rfl, hr.symm, h.own (o, x) (mem_getA hx), hl⟩
/-- a row's look-up, in whatever world -/
theorem Fx.rowAt (h : Fx w M T) (ho : okO o) : (∃ x, getA M.rows o = some x ∧ rowT T o = some x.r ∧ CameL w 1 (encK .i64) x.oa x.own ∧ (∀ wz, Kept (fun _ => False) w wz → (Instr.lookup 68 (.map (some M.rb)) (ekO o) true).run Try.prog wz = .ok (.tuple #[.agg #[.int .i64 x.pr, .slice x.oa x.own.length x.oc, .int .i64 x.inl, .int .i64 x.cat], .bool true]) wz) ∧
      ∀ wz, Kept (fun _ => False) w wz → (Instr.lookup 68 (.map (some M.rb)) (ekO o) false).run Try.prog wz = .ok (.agg #[.int .i64 x.pr, .slice x.oa x.own.length x.oc, .int .i64 x.inl, .int .i64 x.cat]) wz) ∨
    (rowT T o = none ∧ (∀ wz, Kept (fun _ => False) w wz → (Instr.lookup 68 (.map (some M.rb)) (ekO o) true).run Try.prog wz = .ok (.tuple #[.agg #[.int .i64 0, .slice none 0 0, .int .i64 0, .int .i64 0], .bool false]) wz) ∧
      ∀ wz, Kept (fun _ => False) w wz → (Instr.lookup 68 (.map (some M.rb)) (ekO o) false).run Try.prog wz = .ok (.agg #[.int .i64 0, .slice none 0 0, .int .i64 0, .int .i64 0]) wz) := by
  have hl : ∀ c wz, Kept (fun _ => False) w wz → (Instr.lookup 68 (.map (some M.rb)) (ekO o) c).run Try.prog wz = .ok (if c then .tuple #[((getA M.rows o).map evR).getD noRow, .bool (getA M.rows o).isSome] else ((getA M.rows o).map evR).getD noRow) wz := fun c wz k => (h.kept k (fun _ _ x => x)).rows.look keyO h.rok Try.underlying68 ho (zeroR wz) c
  have hr := h.rat o
  cases hx : getA M.rows o with
  | none =>
    rw [hx] at hl hr
    exact Or.inr ⟨hr.symm, hl true, hl false⟩
  | some x =>
    rw [hx] at hl hr
    exact Or.inl ⟨x, rfl, hr.symm, h.own (o, x) (mem_getA hx), hl true, hl false⟩
end
end Go.Proofs.Ytnfpiocjdhipcaa.LK
