/- lock.Lock: its maps' keys; where its parts lie. -/
import Derived.Test.YtnfpiocjdhipcaaLkP
import Derived.Test.YtnfpiocjdhipcaaLks
import Derived.DeepKeys5
namespace Go.Proofs.Ytnfpiocjdhipcaa.LK
open Go.RowKit Go.Fr Go.Tb

def ekO (o : Ow) : Value := .agg #[.bool o.1, .int .i64 o.2]
def ekI (r : Int) : Value := .int .i64 r
def evB (x : Bool) : Value := .bool x
def okO (o : Ow) : Prop := I64 o.2
theorem ow_cells : Try.prog.cellsOf 38 = 2 := by kernel_rfl
theorem ow_wide : (match Try.prog.underlying 38 with | some (.array _ _) | some (.struct _) => true | _ => false) = true := by kernel_rfl
theorem ow_key : Try.prog.keyType 38 = true := by kernel_rfl
theorem wf_of {x : Int} (h : I64 x) : (Lit.int .i64 x).wf = true := by
  simpa [I64, Lit.wf, IntKind.min, IntKind.max, IntKind.signed, IntKind.bits] using h
theorem ow_size : Try.prog.types.size = (Try.prog.types.size - 1) + 1 := by kernel_rfl
theorem ow_bool : Try.prog.cellsOf 4 = 1 := by kernel_rfl
theorem ow_int : Try.prog.cellsOf 3 = 1 := by kernel_rfl
theorem ow_formed {c0 c1 : Value} : (Value.agg #[c0, c1]).formed Try.prog 38 = true := by simp [Value.formed, Try.underlying38, ow_cells]
theorem ow_lits {o : Ow} (h : okO o) : Try.prog.keyLits (Try.prog.types.size + 1) 38 [.bool o.1, .int .i64 o.2] = some [.bool o.1, .int .i64 o.2] := by
  have hw := wf_of h
  obtain ⟨n, hn⟩ : ∃ n, Try.prog.types.size = n + 1 := ⟨_, ow_size⟩
  rw [hn]
  clear hn
  simp [Program.keyLits, Try.underlying38, Try.underlying4, Try.underlying3, ow_cells, ow_bool, ow_int, hw]
set_option maxRecDepth 100000 in
theorem ow_law : Go.Maps.Keyed Try.prog 38 :=
  Go.Maps.Keyed.of_law (deep_law_laid (m := Try.prog.types.size + 1) (by kernel_rfl) (of_decide_eq_true (by kernel_rfl)) (of_decide_eq_true (by kernel_rfl)) ow_key ow_wide)
theorem keyO : KeyOk Ow Try.prog 38 ekO okO := by
  refine ⟨ow_law, fun o ho => ⟨.string (keyBytes [.bool o.1, .int .i64 o.2]), ?_⟩, fun x y h => ?_⟩
  · unfold keyOf
    have hl := ow_lits ho
    have hf : (ekO o).formed Try.prog 38 = true := ow_formed
    simp only [Try.underlying38, ow_key, hf, Bool.and_self, if_true]
    rw [show (ekO o).cells.toList = [.bool o.1, .int .i64 o.2] from rfl, hl]
    rfl
  · obtain ⟨a, b⟩ := x
    obtain ⟨c, d⟩ := y
    simp only [ekO, Value.agg.injEq, Array.mk.injEq, List.cons.injEq, Value.bool.injEq, Value.int.injEq, true_and, and_true] at h
    rw [h.1, h.2]
theorem keyI : KeyOk Int Try.prog 3 ekI I64 :=
  ⟨Go.Maps.int_keyed Try.underlying3, fun x hx => ⟨_, Go.Maps.keyOf_int_mk Try.underlying3 (wf_of hx)⟩, fun x y h => by simpa [ekI] using h⟩
end Go.Proofs.Ytnfpiocjdhipcaa.LK
