/- What comes in: a slice of calls on a board; each has seven cells (a struct in a struct). -/
import Derived.Test.YtemhfonneggneaaArgs
import Derived.Test.YtemhfonneggneaaRows
namespace Go.Proofs.Ytemhfonneggneaa.BD
open Go.RowKit Go.Fr Go.ChangeShapes Go.WideShapes Go.Deep

/-- a call on a board -/
structure CallR where
  kd : Int
  n : Int
  a : Int
  b : Int
  s : Bool
  al : Int
  os : Int
def encCall (x : CallR) : List Value := [.int .i64 x.kd, .int .i64 x.n, .int .u32 x.a, .int .u32 x.b, .bool x.s, .int .i64 x.al, .int .i64 x.os]
def CallR.wf (x : CallR) : Prop := (Lit.int .i64 x.kd).wf = true ∧ (Lit.int .i64 x.n).wf = true ∧ (Lit.int .u32 x.a).wf = true ∧ (Lit.int .u32 x.b).wf = true ∧ (Lit.int .i64 x.al).wf = true ∧ (Lit.int .i64 x.os).wf = true

theorem list7 {α : Type} {l : List α} (h : l.length = 7) : ∃ a b c d e f g, l = [a, b, c, d, e, f, g] := by
  match l, h with
  | [a, b, c, d, e, f, g], _ => exact ⟨a, b, c, d, e, f, g, rfl⟩

theorem list5 {α : Type} {l : List α} (h : l.length = 5) : ∃ a b c d e, l = [a, b, c, d, e] := by
  match l, h with
  | [a, b, c, d, e], _ => exact ⟨a, b, c, d, e, rfl⟩
theorem list3 {α : Type} {l : List α} (h : l.length = 3) : ∃ a b c, l = [a, b, c] := by
  match l, h with
  | [a, b, c], _ => exact ⟨a, b, c, rfl⟩

theorem elem_call {H : Type} {enc : TypeId × Value → H} {w : World} {base : Nat} {spare : Nat → Bool} {held : Bool} :
    ∀ n cs y, DataW.trod enc Try.prog w base spare held n 48 cs = some y → ∃ x : CallR, cs = encCall x ∧ x.wf := by
  intro n cs y h
  obtain ⟨xs, m, _, _, hl, hx, hf⟩ := DataW.trod_struct Try.underlying48 h
  have ci : Try.prog.cellsOf 3 = 1 := by kernel_rfl
  have cu : Try.prog.cellsOf 22 = 1 := by kernel_rfl
  have cb : Try.prog.cellsOf 4 = 1 := by kernel_rfl
  have cg : Try.prog.cellsOf 46 = 3 := by kernel_rfl
  have cc : Try.prog.cellsOf 48 = 7 := by kernel_rfl
  obtain ⟨z0, z1, z2, z3, z4, rfl⟩ := list5 hx
  have g0 : DataW.trod enc Try.prog w base spare held m 3 ((cs.drop 0).take (Try.prog.cellsOf 3)) = some z0 := hf 0 _ rfl
  have g1 : DataW.trod enc Try.prog w base spare held m 3 ((cs.drop 1).take (Try.prog.cellsOf 3)) = some z1 := hf 1 _ rfl
  have g2 : DataW.trod enc Try.prog w base spare held m 22 ((cs.drop 2).take (Try.prog.cellsOf 22)) = some z2 := hf 2 _ rfl
  have g3 : DataW.trod enc Try.prog w base spare held m 22 ((cs.drop 3).take (Try.prog.cellsOf 22)) = some z3 := hf 3 _ rfl
  have g4 : DataW.trod enc Try.prog w base spare held m 46 ((cs.drop 4).take (Try.prog.cellsOf 46)) = some z4 := hf 4 _ rfl
  rw [ci] at g0 g1
  rw [cu] at g2 g3
  rw [cg] at g4
  rw [cc] at hl
  clear hf
  obtain ⟨c0, c1, c2, c3, c4, c5, c6, rfl⟩ := list7 hl
  simp only [List.drop_succ_cons, List.drop_zero, List.take_succ_cons, List.take_zero] at g0 g1 g2 g3 g4
  obtain ⟨x0, e0, _, w0⟩ := DataW.trod_int Try.underlying3 g0
  obtain ⟨x1, e1, _, w1⟩ := DataW.trod_int Try.underlying3 g1
  obtain ⟨x2, e2, _, w2⟩ := DataW.trod_int Try.underlying22 g2
  obtain ⟨x3, e3, _, w3⟩ := DataW.trod_int Try.underlying22 g3
  obtain ⟨ys, k, _, _, hl4, hy, hg⟩ := DataW.trod_struct Try.underlying46 g4
  obtain ⟨u0, u1, u2, rfl⟩ := list3 hy
  have h0 : DataW.trod enc Try.prog w base spare held k 4 (([c4, c5, c6].drop 0).take (Try.prog.cellsOf 4)) = some u0 := hg 0 _ rfl
  have h1 : DataW.trod enc Try.prog w base spare held k 3 (([c4, c5, c6].drop 1).take (Try.prog.cellsOf 3)) = some u1 := hg 1 _ rfl
  have h2 : DataW.trod enc Try.prog w base spare held k 3 (([c4, c5, c6].drop 2).take (Try.prog.cellsOf 3)) = some u2 := hg 2 _ rfl
  rw [cb] at h0
  rw [ci] at h1 h2
  simp only [List.drop_succ_cons, List.drop_zero, List.take_succ_cons, List.take_zero] at h0 h1 h2
  obtain ⟨x4, e4, _⟩ := DataW.trod_bool Try.underlying4 h0
  obtain ⟨x5, e5, _, w5⟩ := DataW.trod_int Try.underlying3 h1
  obtain ⟨x6, e6, _, w6⟩ := DataW.trod_int Try.underlying3 h2
  simp only [List.cons.injEq, and_true] at e0 e1 e2 e3 e4 e5 e6
  subst e0 e1 e2 e3 e4 e5 e6
  exact ⟨⟨x0, x1, x2, x3, x4, x5, x6⟩, rfl, w0, w1, w2, w3, w5, w6⟩
end Go.Proofs.Ytemhfonneggneaa.BD
