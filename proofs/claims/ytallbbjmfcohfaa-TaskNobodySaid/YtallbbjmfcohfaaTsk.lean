/- Package task: a table that New made, its tasks a list of (limit, extended, state, activations), and the running one. -/
import Derived.Test.YtallbbjmfcohfaaMem
import Derived.Test.YtallbbjmfcohfaaArgs
import Derived.Test.YtallbbjmfcohfaaRows
namespace Go.Proofs.Ytallbbjmfcohfaa.TK
open Go.RowKit Go.Fr

abbrev Tk := Int × Bool × Int × Int
def encT (a : Tk) : List Value := [.int .i64 a.1, .bool a.2.1, .int .i64 a.2.2.1, .int .i64 a.2.2.2]
theorem encT_len (a : Tk) : (encT a).length = 4 := rfl

structure IsTk (w : World) (b : Nat) (v : Value) (run : Int) (l : List Tk) : Prop where
  blk : Blk w b [.bool true, v, .int .i64 run] 64
  row : Row w 67 4 v l.length (l.flatMap encT)
  own : v.ownBlock ≠ some b
  n256 : l.length ≤ 256

def foot (b : Nat) (v : Value) : Nat → Prop := fun k => k = b ∨ v.ownBlock = some k

set_option maxRecDepth 100000 in
theorem moves_ok (w : World) : Calls Try.prog 44 #[] w fun e w' =>
    e = .returned (.agg #[.int .i64 3, .int .i64 2, .int .i64 2, .int .i64 0, .int .i64 0, .int .i64 2, .int .i64 0, .int .i64 1, .int .i64 1, .int .i64 2, .int .i64 0, .int .i64 3]) ∧ Kept (fun _ => False) w w' := by
  go_enter Try.func44, Try.ntmps44
  go_wp2
  refine bodyPost_ret (results_cell_row rfl _ _ w.heap.size _ _ (0, 0) _ rfl (heap_alloc_new w _) Try.underlying79 rfl (by kernel_rfl)) rfl ⟨rfl, (Kept.refl _ w).alloc _⟩

theorem idx0 : ∀ w, (Instr.index 79 (.agg #[.int .i64 3, .int .i64 2, .int .i64 2, .int .i64 0, .int .i64 0, .int .i64 2, .int .i64 0, .int .i64 1, .int .i64 1, .int .i64 2, .int .i64 0, .int .i64 3]) (.int .i64 0)).run Try.prog w = .ok (.agg #[.int .i64 3, .int .i64 2]) w := fun _ => by kernel_rfl
theorem idx1 : ∀ w, (Instr.index 79 (.agg #[.int .i64 3, .int .i64 2, .int .i64 2, .int .i64 0, .int .i64 0, .int .i64 2, .int .i64 0, .int .i64 1, .int .i64 1, .int .i64 2, .int .i64 0, .int .i64 3]) (.int .i64 1)).run Try.prog w = .ok (.agg #[.int .i64 2, .int .i64 0]) w := fun _ => by kernel_rfl
theorem idx2 : ∀ w, (Instr.index 79 (.agg #[.int .i64 3, .int .i64 2, .int .i64 2, .int .i64 0, .int .i64 0, .int .i64 2, .int .i64 0, .int .i64 1, .int .i64 1, .int .i64 2, .int .i64 0, .int .i64 3]) (.int .i64 2)).run Try.prog w = .ok (.agg #[.int .i64 0, .int .i64 2]) w := fun _ => by kernel_rfl
theorem idx3 : ∀ w, (Instr.index 79 (.agg #[.int .i64 3, .int .i64 2, .int .i64 2, .int .i64 0, .int .i64 0, .int .i64 2, .int .i64 0, .int .i64 1, .int .i64 1, .int .i64 2, .int .i64 0, .int .i64 3]) (.int .i64 3)).run Try.prog w = .ok (.agg #[.int .i64 0, .int .i64 1]) w := fun _ => by kernel_rfl
theorem idx4 : ∀ w, (Instr.index 79 (.agg #[.int .i64 3, .int .i64 2, .int .i64 2, .int .i64 0, .int .i64 0, .int .i64 2, .int .i64 0, .int .i64 1, .int .i64 1, .int .i64 2, .int .i64 0, .int .i64 3]) (.int .i64 4)).run Try.prog w = .ok (.agg #[.int .i64 1, .int .i64 2]) w := fun _ => by kernel_rfl
theorem idx5 : ∀ w, (Instr.index 79 (.agg #[.int .i64 3, .int .i64 2, .int .i64 2, .int .i64 0, .int .i64 0, .int .i64 2, .int .i64 0, .int .i64 1, .int .i64 1, .int .i64 2, .int .i64 0, .int .i64 3]) (.int .i64 5)).run Try.prog w = .ok (.agg #[.int .i64 0, .int .i64 3]) w := fun _ => by kernel_rfl

set_option maxRecDepth 100000 in
set_option maxHeartbeats 2000000 in
theorem may_32 (w : World) : Calls Try.prog 42 #[.agg #[.int .i64 3, .int .i64 2]] w fun e w' => e = .returned (.bool true) ∧ Kept (fun _ => False) w w' := by
  have i0 := idx0
  have k0 := (Kept.refl (fun _ => False) w).alloc (.cells #[.int .i64 3, .int .i64 2] 78)
  have b0 := Blk.new w [.int .i64 3, .int .i64 2] 78
  go_enter Try.func42, Try.ntmps42
  go_wp2_with (go_at_call 44; refine (moves_ok _).mono ?_; rintro e w1 ⟨rfl, k1⟩)
  have b1 := b0.kept k1 (fun h => h)
  have e1 : ∀ o0 : Obj, (w1.alloc o0).cell? ⟨w.heap.size, 0, none⟩ = some (.int .i64 3) := fun o0 => (b1.alloc o0).cell 0 rfl
  have g1 : ∀ o0 : Obj, (w1.alloc o0).cell? ⟨w.heap.size, 1, none⟩ = some (.int .i64 2) := fun o0 => (b1.alloc o0).cell 1 rfl
  have kk := k0.then k1 (fun _ h => Or.inl h)
  clear b0 b1 k0 k1
  refine wp_loop_rounds 1 ?_
  rw [rounds_succ]
  go_wp2
  go_ret
  exact ⟨rfl, (kk.alloc _)⟩

set_option maxRecDepth 100000 in
set_option maxHeartbeats 2000000 in
theorem may_20 (w : World) : Calls Try.prog 42 #[.agg #[.int .i64 2, .int .i64 0]] w fun e w' => e = .returned (.bool true) ∧ Kept (fun _ => False) w w' := by
  have i0 := idx0
  have i1 := idx1
  have k0 := (Kept.refl (fun _ => False) w).alloc (.cells #[.int .i64 2, .int .i64 0] 78)
  have b0 := Blk.new w [.int .i64 2, .int .i64 0] 78
  go_enter Try.func42, Try.ntmps42
  go_wp2_with (go_at_call 44; refine (moves_ok _).mono ?_; rintro e w1 ⟨rfl, k1⟩)
  have b1 := b0.kept k1 (fun h => h)
  have e1 : ∀ o0 : Obj, (w1.alloc o0).cell? ⟨w.heap.size, 0, none⟩ = some (.int .i64 2) := fun o0 => (b1.alloc o0).cell 0 rfl
  have g1 : ∀ o0 : Obj, (w1.alloc o0).cell? ⟨w.heap.size, 1, none⟩ = some (.int .i64 0) := fun o0 => (b1.alloc o0).cell 1 rfl
  have e2 : ∀ o0 o1 : Obj, ((w1.alloc o0).alloc o1).cell? ⟨w.heap.size, 0, none⟩ = some (.int .i64 2) := fun o0 o1 => ((b1.alloc o0).alloc o1).cell 0 rfl
  have g2 : ∀ o0 o1 : Obj, ((w1.alloc o0).alloc o1).cell? ⟨w.heap.size, 1, none⟩ = some (.int .i64 0) := fun o0 o1 => ((b1.alloc o0).alloc o1).cell 1 rfl
  have kk := k0.then k1 (fun _ h => Or.inl h)
  clear b0 b1 k0 k1
  refine wp_loop_rounds 2 ?_
  rw [rounds_succ]
  go_wp2
  rw [rounds_succ]
  go_wp2
  go_ret
  exact ⟨rfl, ((kk.alloc _).alloc _)⟩

set_option maxRecDepth 100000 in
set_option maxHeartbeats 2000000 in
theorem may_02 (w : World) : Calls Try.prog 42 #[.agg #[.int .i64 0, .int .i64 2]] w fun e w' => e = .returned (.bool true) ∧ Kept (fun _ => False) w w' := by
  have i0 := idx0
  have i1 := idx1
  have i2 := idx2
  have k0 := (Kept.refl (fun _ => False) w).alloc (.cells #[.int .i64 0, .int .i64 2] 78)
  have b0 := Blk.new w [.int .i64 0, .int .i64 2] 78
  go_enter Try.func42, Try.ntmps42
  go_wp2_with (go_at_call 44; refine (moves_ok _).mono ?_; rintro e w1 ⟨rfl, k1⟩)
  have b1 := b0.kept k1 (fun h => h)
  have e1 : ∀ o0 : Obj, (w1.alloc o0).cell? ⟨w.heap.size, 0, none⟩ = some (.int .i64 0) := fun o0 => (b1.alloc o0).cell 0 rfl
  have g1 : ∀ o0 : Obj, (w1.alloc o0).cell? ⟨w.heap.size, 1, none⟩ = some (.int .i64 2) := fun o0 => (b1.alloc o0).cell 1 rfl
  have e2 : ∀ o0 o1 : Obj, ((w1.alloc o0).alloc o1).cell? ⟨w.heap.size, 0, none⟩ = some (.int .i64 0) := fun o0 o1 => ((b1.alloc o0).alloc o1).cell 0 rfl
  have g2 : ∀ o0 o1 : Obj, ((w1.alloc o0).alloc o1).cell? ⟨w.heap.size, 1, none⟩ = some (.int .i64 2) := fun o0 o1 => ((b1.alloc o0).alloc o1).cell 1 rfl
  have e3 : ∀ o0 o1 o2 : Obj, (((w1.alloc o0).alloc o1).alloc o2).cell? ⟨w.heap.size, 0, none⟩ = some (.int .i64 0) := fun o0 o1 o2 => (((b1.alloc o0).alloc o1).alloc o2).cell 0 rfl
  have g3 : ∀ o0 o1 o2 : Obj, (((w1.alloc o0).alloc o1).alloc o2).cell? ⟨w.heap.size, 1, none⟩ = some (.int .i64 2) := fun o0 o1 o2 => (((b1.alloc o0).alloc o1).alloc o2).cell 1 rfl
  have kk := k0.then k1 (fun _ h => Or.inl h)
  clear b0 b1 k0 k1
  refine wp_loop_rounds 3 ?_
  rw [rounds_succ]
  go_wp2
  rw [rounds_succ]
  go_wp2
  rw [rounds_succ]
  go_wp2
  go_ret
  exact ⟨rfl, (((kk.alloc _).alloc _).alloc _)⟩

set_option maxRecDepth 100000 in
set_option maxHeartbeats 2000000 in
theorem may_01 (w : World) : Calls Try.prog 42 #[.agg #[.int .i64 0, .int .i64 1]] w fun e w' => e = .returned (.bool true) ∧ Kept (fun _ => False) w w' := by
  have i0 := idx0
  have i1 := idx1
  have i2 := idx2
  have i3 := idx3
  have k0 := (Kept.refl (fun _ => False) w).alloc (.cells #[.int .i64 0, .int .i64 1] 78)
  have b0 := Blk.new w [.int .i64 0, .int .i64 1] 78
  go_enter Try.func42, Try.ntmps42
  go_wp2_with (go_at_call 44; refine (moves_ok _).mono ?_; rintro e w1 ⟨rfl, k1⟩)
  have b1 := b0.kept k1 (fun h => h)
  have e1 : ∀ o0 : Obj, (w1.alloc o0).cell? ⟨w.heap.size, 0, none⟩ = some (.int .i64 0) := fun o0 => (b1.alloc o0).cell 0 rfl
  have g1 : ∀ o0 : Obj, (w1.alloc o0).cell? ⟨w.heap.size, 1, none⟩ = some (.int .i64 1) := fun o0 => (b1.alloc o0).cell 1 rfl
  have e2 : ∀ o0 o1 : Obj, ((w1.alloc o0).alloc o1).cell? ⟨w.heap.size, 0, none⟩ = some (.int .i64 0) := fun o0 o1 => ((b1.alloc o0).alloc o1).cell 0 rfl
  have g2 : ∀ o0 o1 : Obj, ((w1.alloc o0).alloc o1).cell? ⟨w.heap.size, 1, none⟩ = some (.int .i64 1) := fun o0 o1 => ((b1.alloc o0).alloc o1).cell 1 rfl
  have e3 : ∀ o0 o1 o2 : Obj, (((w1.alloc o0).alloc o1).alloc o2).cell? ⟨w.heap.size, 0, none⟩ = some (.int .i64 0) := fun o0 o1 o2 => (((b1.alloc o0).alloc o1).alloc o2).cell 0 rfl
  have g3 : ∀ o0 o1 o2 : Obj, (((w1.alloc o0).alloc o1).alloc o2).cell? ⟨w.heap.size, 1, none⟩ = some (.int .i64 1) := fun o0 o1 o2 => (((b1.alloc o0).alloc o1).alloc o2).cell 1 rfl
  have e4 : ∀ o0 o1 o2 o3 : Obj, ((((w1.alloc o0).alloc o1).alloc o2).alloc o3).cell? ⟨w.heap.size, 0, none⟩ = some (.int .i64 0) := fun o0 o1 o2 o3 => ((((b1.alloc o0).alloc o1).alloc o2).alloc o3).cell 0 rfl
  have g4 : ∀ o0 o1 o2 o3 : Obj, ((((w1.alloc o0).alloc o1).alloc o2).alloc o3).cell? ⟨w.heap.size, 1, none⟩ = some (.int .i64 1) := fun o0 o1 o2 o3 => ((((b1.alloc o0).alloc o1).alloc o2).alloc o3).cell 1 rfl
  have kk := k0.then k1 (fun _ h => Or.inl h)
  clear b0 b1 k0 k1
  refine wp_loop_rounds 4 ?_
  rw [rounds_succ]
  go_wp2
  rw [rounds_succ]
  go_wp2
  rw [rounds_succ]
  go_wp2
  rw [rounds_succ]
  go_wp2
  go_ret
  exact ⟨rfl, ((((kk.alloc _).alloc _).alloc _).alloc _)⟩

set_option maxRecDepth 100000 in
set_option maxHeartbeats 2000000 in
theorem may_12 (w : World) : Calls Try.prog 42 #[.agg #[.int .i64 1, .int .i64 2]] w fun e w' => e = .returned (.bool true) ∧ Kept (fun _ => False) w w' := by
  have i0 := idx0
  have i1 := idx1
  have i2 := idx2
  have i3 := idx3
  have i4 := idx4
  have k0 := (Kept.refl (fun _ => False) w).alloc (.cells #[.int .i64 1, .int .i64 2] 78)
  have b0 := Blk.new w [.int .i64 1, .int .i64 2] 78
  go_enter Try.func42, Try.ntmps42
  go_wp2_with (go_at_call 44; refine (moves_ok _).mono ?_; rintro e w1 ⟨rfl, k1⟩)
  have b1 := b0.kept k1 (fun h => h)
  have e1 : ∀ o0 : Obj, (w1.alloc o0).cell? ⟨w.heap.size, 0, none⟩ = some (.int .i64 1) := fun o0 => (b1.alloc o0).cell 0 rfl
  have g1 : ∀ o0 : Obj, (w1.alloc o0).cell? ⟨w.heap.size, 1, none⟩ = some (.int .i64 2) := fun o0 => (b1.alloc o0).cell 1 rfl
  have e2 : ∀ o0 o1 : Obj, ((w1.alloc o0).alloc o1).cell? ⟨w.heap.size, 0, none⟩ = some (.int .i64 1) := fun o0 o1 => ((b1.alloc o0).alloc o1).cell 0 rfl
  have g2 : ∀ o0 o1 : Obj, ((w1.alloc o0).alloc o1).cell? ⟨w.heap.size, 1, none⟩ = some (.int .i64 2) := fun o0 o1 => ((b1.alloc o0).alloc o1).cell 1 rfl
  have e3 : ∀ o0 o1 o2 : Obj, (((w1.alloc o0).alloc o1).alloc o2).cell? ⟨w.heap.size, 0, none⟩ = some (.int .i64 1) := fun o0 o1 o2 => (((b1.alloc o0).alloc o1).alloc o2).cell 0 rfl
  have g3 : ∀ o0 o1 o2 : Obj, (((w1.alloc o0).alloc o1).alloc o2).cell? ⟨w.heap.size, 1, none⟩ = some (.int .i64 2) := fun o0 o1 o2 => (((b1.alloc o0).alloc o1).alloc o2).cell 1 rfl
  have e4 : ∀ o0 o1 o2 o3 : Obj, ((((w1.alloc o0).alloc o1).alloc o2).alloc o3).cell? ⟨w.heap.size, 0, none⟩ = some (.int .i64 1) := fun o0 o1 o2 o3 => ((((b1.alloc o0).alloc o1).alloc o2).alloc o3).cell 0 rfl
  have g4 : ∀ o0 o1 o2 o3 : Obj, ((((w1.alloc o0).alloc o1).alloc o2).alloc o3).cell? ⟨w.heap.size, 1, none⟩ = some (.int .i64 2) := fun o0 o1 o2 o3 => ((((b1.alloc o0).alloc o1).alloc o2).alloc o3).cell 1 rfl
  have e5 : ∀ o0 o1 o2 o3 o4 : Obj, (((((w1.alloc o0).alloc o1).alloc o2).alloc o3).alloc o4).cell? ⟨w.heap.size, 0, none⟩ = some (.int .i64 1) := fun o0 o1 o2 o3 o4 => (((((b1.alloc o0).alloc o1).alloc o2).alloc o3).alloc o4).cell 0 rfl
  have g5 : ∀ o0 o1 o2 o3 o4 : Obj, (((((w1.alloc o0).alloc o1).alloc o2).alloc o3).alloc o4).cell? ⟨w.heap.size, 1, none⟩ = some (.int .i64 2) := fun o0 o1 o2 o3 o4 => (((((b1.alloc o0).alloc o1).alloc o2).alloc o3).alloc o4).cell 1 rfl
  have kk := k0.then k1 (fun _ h => Or.inl h)
  clear b0 b1 k0 k1
  refine wp_loop_rounds 5 ?_
  rw [rounds_succ]
  go_wp2
  rw [rounds_succ]
  go_wp2
  rw [rounds_succ]
  go_wp2
  rw [rounds_succ]
  go_wp2
  rw [rounds_succ]
  go_wp2
  go_ret
  exact ⟨rfl, (((((kk.alloc _).alloc _).alloc _).alloc _).alloc _)⟩

set_option maxRecDepth 100000 in
set_option maxHeartbeats 2000000 in
theorem may_03 (w : World) : Calls Try.prog 42 #[.agg #[.int .i64 0, .int .i64 3]] w fun e w' => e = .returned (.bool true) ∧ Kept (fun _ => False) w w' := by
  have i0 := idx0
  have i1 := idx1
  have i2 := idx2
  have i3 := idx3
  have i4 := idx4
  have i5 := idx5
  have k0 := (Kept.refl (fun _ => False) w).alloc (.cells #[.int .i64 0, .int .i64 3] 78)
  have b0 := Blk.new w [.int .i64 0, .int .i64 3] 78
  go_enter Try.func42, Try.ntmps42
  go_wp2_with (go_at_call 44; refine (moves_ok _).mono ?_; rintro e w1 ⟨rfl, k1⟩)
  have b1 := b0.kept k1 (fun h => h)
  have e1 : ∀ o0 : Obj, (w1.alloc o0).cell? ⟨w.heap.size, 0, none⟩ = some (.int .i64 0) := fun o0 => (b1.alloc o0).cell 0 rfl
  have g1 : ∀ o0 : Obj, (w1.alloc o0).cell? ⟨w.heap.size, 1, none⟩ = some (.int .i64 3) := fun o0 => (b1.alloc o0).cell 1 rfl
  have e2 : ∀ o0 o1 : Obj, ((w1.alloc o0).alloc o1).cell? ⟨w.heap.size, 0, none⟩ = some (.int .i64 0) := fun o0 o1 => ((b1.alloc o0).alloc o1).cell 0 rfl
  have g2 : ∀ o0 o1 : Obj, ((w1.alloc o0).alloc o1).cell? ⟨w.heap.size, 1, none⟩ = some (.int .i64 3) := fun o0 o1 => ((b1.alloc o0).alloc o1).cell 1 rfl
  have e3 : ∀ o0 o1 o2 : Obj, (((w1.alloc o0).alloc o1).alloc o2).cell? ⟨w.heap.size, 0, none⟩ = some (.int .i64 0) := fun o0 o1 o2 => (((b1.alloc o0).alloc o1).alloc o2).cell 0 rfl
  have g3 : ∀ o0 o1 o2 : Obj, (((w1.alloc o0).alloc o1).alloc o2).cell? ⟨w.heap.size, 1, none⟩ = some (.int .i64 3) := fun o0 o1 o2 => (((b1.alloc o0).alloc o1).alloc o2).cell 1 rfl
  have e4 : ∀ o0 o1 o2 o3 : Obj, ((((w1.alloc o0).alloc o1).alloc o2).alloc o3).cell? ⟨w.heap.size, 0, none⟩ = some (.int .i64 0) := fun o0 o1 o2 o3 => ((((b1.alloc o0).alloc o1).alloc o2).alloc o3).cell 0 rfl
  have g4 : ∀ o0 o1 o2 o3 : Obj, ((((w1.alloc o0).alloc o1).alloc o2).alloc o3).cell? ⟨w.heap.size, 1, none⟩ = some (.int .i64 3) := fun o0 o1 o2 o3 => ((((b1.alloc o0).alloc o1).alloc o2).alloc o3).cell 1 rfl
  have e5 : ∀ o0 o1 o2 o3 o4 : Obj, (((((w1.alloc o0).alloc o1).alloc o2).alloc o3).alloc o4).cell? ⟨w.heap.size, 0, none⟩ = some (.int .i64 0) := fun o0 o1 o2 o3 o4 => (((((b1.alloc o0).alloc o1).alloc o2).alloc o3).alloc o4).cell 0 rfl
  have g5 : ∀ o0 o1 o2 o3 o4 : Obj, (((((w1.alloc o0).alloc o1).alloc o2).alloc o3).alloc o4).cell? ⟨w.heap.size, 1, none⟩ = some (.int .i64 3) := fun o0 o1 o2 o3 o4 => (((((b1.alloc o0).alloc o1).alloc o2).alloc o3).alloc o4).cell 1 rfl
  have e6 : ∀ o0 o1 o2 o3 o4 o5 : Obj, ((((((w1.alloc o0).alloc o1).alloc o2).alloc o3).alloc o4).alloc o5).cell? ⟨w.heap.size, 0, none⟩ = some (.int .i64 0) := fun o0 o1 o2 o3 o4 o5 => ((((((b1.alloc o0).alloc o1).alloc o2).alloc o3).alloc o4).alloc o5).cell 0 rfl
  have g6 : ∀ o0 o1 o2 o3 o4 o5 : Obj, ((((((w1.alloc o0).alloc o1).alloc o2).alloc o3).alloc o4).alloc o5).cell? ⟨w.heap.size, 1, none⟩ = some (.int .i64 3) := fun o0 o1 o2 o3 o4 o5 => ((((((b1.alloc o0).alloc o1).alloc o2).alloc o3).alloc o4).alloc o5).cell 1 rfl
  have kk := k0.then k1 (fun _ h => Or.inl h)
  clear b0 b1 k0 k1
  refine wp_loop_rounds 6 ?_
  rw [rounds_succ]
  go_wp2
  rw [rounds_succ]
  go_wp2
  rw [rounds_succ]
  go_wp2
  rw [rounds_succ]
  go_wp2
  rw [rounds_succ]
  go_wp2
  rw [rounds_succ]
  go_wp2
  go_ret
  exact ⟨rfl, ((((((kk.alloc _).alloc _).alloc _).alloc _).alloc _).alloc _)⟩

section
variable {w : World} {b : Nat} {v : Value} {run : Int} {l : List Tk}
theorem IsTk.kept {w' : World} {S : Nat → Prop} (hs : IsTk w b v run l) (k : Kept S w w') (hn : ∀ i, foot b v i → ¬ S i) : IsTk w' b v run l :=
  ⟨hs.blk.kept k (hn _ (Or.inl rfl)), row_kept hs.row k (fun _ hg => hn _ (Or.inr hg)), hs.own, hs.n256⟩
theorem IsTk.lt (hs : IsTk w b v run l) : ∀ i, foot b v i → i < w.heap.size := by
  rintro i (rfl | hi)
  · exact hs.blk.lt
  · exact row_lt hs.row hi
theorem IsTk.same {w' : World} (hs : IsTk w b v run l) (k : Kept (fun _ => False) w w') : IsTk w' b v run l ∧ Kept (foot b v) w w' := ⟨hs.kept k (fun _ _ h => h), k.mono (fun _ _ h => False.elim h)⟩
theorem IsTk.cells (hs : IsTk w b v run l) {k : Nat} {lm st ac : Int} {ex : Bool} (h : l[k]? = some (lm, ex, st, ac)) : ∃ g c, v = .slice (some ⟨g, 0, none⟩) l.length c ∧ g ≠ b ∧
    w.cell? ⟨g, k * 4, none⟩ = some (.int .i64 lm) ∧ w.cell? ⟨g, k * 4 + 1, none⟩ = some (.bool ex) ∧ w.cell? ⟨g, k * 4 + 2, none⟩ = some (.int .i64 st) ∧ w.cell? ⟨g, k * 4 + 3, none⟩ = some (.int .i64 ac) ∧
    w.frozen? ⟨g, k * 4 + 2, none⟩ = false ∧ w.frozen? ⟨g, k * 4 + 3, none⟩ = false := by
  have hk := (List.getElem?_eq_some_iff.1 h).1
  have hr := hs.row
  rcases row_forms hr with ⟨_, h0⟩ | ⟨g, c, rfl, _, _, hg⟩
  · omega
  · refine ⟨g, c, rfl, fun e => hs.own (by rw [← e]; rfl), ?_, ?_, ?_, ?_, row_frozen hr _, row_frozen hr _⟩
    · exact rows_cell (i := 0) encT_len hr h rfl
    · exact rows_cell (i := 1) encT_len hr h rfl
    · exact rows_cell (i := 2) encT_len hr h rfl
    · exact rows_cell (i := 3) encT_len hr h rfl
theorem IsTk.put {g c k i N : Nat} {a : Tk} (a' : Tk) {u : Value} (hN : l.length = N) (hs : IsTk w b (.slice (some ⟨g, 0, none⟩) N c) run l) (h : l[k]? = some a) (hi : i < 4) (e : encT a' = (encT a).set i u) :
    IsTk (w.setCell ⟨g, k * 4 + i, none⟩ u) b (.slice (some ⟨g, 0, none⟩) N c) run (l.set k a') := by
  subst hN
  have hg : g ≠ b := fun e => hs.own (by rw [← e]; rfl)
  exact ⟨hs.blk.other hg _, by rw [List.length_set]; exact rows_set encT_len hs.row a' h hi e, hs.own, by rw [List.length_set]; exact hs.n256⟩
theorem IsTk.setRun (r' : Int) (hs : IsTk w b v run l) : IsTk (w.setCell ⟨b, 2, none⟩ (.int .i64 r')) b v r' l :=
  ⟨hs.blk.set 2 _, row_setCell_other hs.row hs.own _, hs.own, hs.n256⟩

def hasT (l : List Tk) (i : Int) : Bool := decide (0 ≤ i) && decide (i < l.length)
theorem hasT_at {i : Int} (h : hasT l i = true) : ∃ (k : Nat) (lm st ac : Int) (ex : Bool), i = k ∧ k < l.length ∧ l[k]? = some (lm, ex, st, ac) := by
  unfold hasT at h; simp at h
  obtain ⟨k, rfl⟩ := Int.eq_ofNat_of_zero_le h.1
  exact ⟨k, _, _, _, _, rfl, by omega, List.getElem?_eq_getElem (by omega)⟩
theorem hasT_of {k : Nat} {a : Tk} (h : l[k]? = some a) : hasT l k = true := by
  have := (List.getElem?_eq_some_iff.1 h).1
  unfold hasT; simp; omega

theorem alive_ok (hs : IsTk w b v run l) : Calls Try.prog 31 #[.pointer (some ⟨b, 0, none⟩)] w fun e w' => e = .returned (.bool true) ∧ w = w' := by
  have c0 := hs.blk.cell 0 rfl
  go_enter Try.func31, Try.ntmps31
  go_wp2
  go_ret
  exact ⟨rfl, rfl⟩
theorem busy_ok (hs : IsTk w b v run l) : Calls Try.prog 32 #[.pointer (some ⟨b, 0, none⟩)] w fun e w' => e = .returned (.bool (decide (0 ≤ run))) ∧ w = w' := by
  have c0 := hs.blk.cell 2 rfl
  go_enter Try.func32, Try.ntmps32
  go_wp2
  go_ret
  exact ⟨rfl, rfl⟩
theorem running_ok (hs : IsTk w b v run l) : Calls Try.prog 14 #[.pointer (some ⟨b, 0, none⟩)] w fun e w' => e = .returned (.int .i64 run) ∧ w = w' := by
  have c0 := hs.blk.cell 0 rfl
  have c2 := hs.blk.cell 2 rfl
  go_enter Try.func14, Try.ntmps14
  go_wp2
  go_ret
  exact ⟨rfl, rfl⟩
theorem has_ok (i : Int) (hs : IsTk w b v run l) : Calls Try.prog 29 #[.pointer (some ⟨b, 0, none⟩), .int .i64 i] w fun e w' => e = .returned (.bool (hasT l i)) ∧ w = w' := by
  unfold hasT
  have c0 := hs.blk.cell 0 rfl
  have c1 := hs.blk.cell 1 rfl
  obtain ⟨ao, c, rfl, hc⟩ := row_any hs.row
  by_cases h : 0 ≤ i
  · have d0 : decide (0 ≤ i) = true := by simpa using h
    go_enter Try.func29, Try.ntmps29
    go_wp2
    go_ret
    exact ⟨by simp [h], rfl⟩
  · have d0 : decide (0 ≤ i) = false := by simpa using h
    go_enter Try.func29, Try.ntmps29
    go_wp2
    go_ret
    exact ⟨by simp, rfl⟩
theorem state_no (i : Int) (hs : IsTk w b v run l) (h : hasT l i = false) : Calls Try.prog 16 #[.pointer (some ⟨b, 0, none⟩), .int .i64 i] w fun e w' => e = .returned (.tuple #[.int .i64 0, .int .i64 3]) ∧ w = w' := by
  have hh := has_ok i hs
  rw [h] at hh
  go_enter Try.func16, Try.ntmps16
  go_wp2_with (go_at_call 29; refine hh.mono ?_; rintro e w' ⟨rfl, rfl⟩)
  go_ret2
  exact ⟨rfl, rfl⟩
theorem state_ok {k : Nat} {lm st ac : Int} {ex : Bool} (hs : IsTk w b v run l) (hx : l[k]? = some (lm, ex, st, ac)) : Calls Try.prog 16 #[.pointer (some ⟨b, 0, none⟩), .int .i64 k] w fun e w' => e = .returned (.tuple #[.int .i64 st, .int .i64 0]) ∧ w = w' := by
  have hh := has_ok k hs
  rw [hasT_of hx] at hh
  have hk := (List.getElem?_eq_some_iff.1 hx).1
  have c1 := hs.blk.cell 1 rfl
  obtain ⟨g, c, rfl, hg, e0, e1, e2, e3, f2, f3⟩ := hs.cells hx
  have hk0 : (0 : Int) ≤ (k : Int) := by omega
  have hk1 : (k : Int) < (l.length : Int) := by omega
  go_enter Try.func16, Try.ntmps16
  go_wp2_with (go_at_call 29; refine hh.mono ?_; rintro e w' ⟨rfl, rfl⟩)
  go_ret2
  exact ⟨rfl, rfl⟩
theorem active_no (i : Int) (hs : IsTk w b v run l) (h : hasT l i = false) : Calls Try.prog 20 #[.pointer (some ⟨b, 0, none⟩), .int .i64 i] w fun e w' => e = .returned (.int .i64 0) ∧ w = w' := by
  have hh := has_ok i hs
  rw [h] at hh
  go_enter Try.func20, Try.ntmps20
  go_wp2_with (go_at_call 29; refine hh.mono ?_; rintro e w' ⟨rfl, rfl⟩)
  go_ret
  exact ⟨rfl, rfl⟩
theorem active_ok {k : Nat} {lm st ac : Int} {ex : Bool} (hs : IsTk w b v run l) (hx : l[k]? = some (lm, ex, st, ac)) : Calls Try.prog 20 #[.pointer (some ⟨b, 0, none⟩), .int .i64 k] w fun e w' => e = .returned (.int .i64 ac) ∧ w = w' := by
  have hh := has_ok k hs
  rw [hasT_of hx] at hh
  have hk := (List.getElem?_eq_some_iff.1 hx).1
  have c1 := hs.blk.cell 1 rfl
  obtain ⟨g, c, rfl, hg, e0, e1, e2, e3, f2, f3⟩ := hs.cells hx
  have hk0 : (0 : Int) ≤ (k : Int) := by omega
  have hk1 : (k : Int) < (l.length : Int) := by omega
  go_enter Try.func20, Try.ntmps20
  go_wp2_with (go_at_call 29; refine hh.mono ?_; rintro e w' ⟨rfl, rfl⟩)
  go_ret
  exact ⟨rfl, rfl⟩

set_option maxRecDepth 100000 in
set_option maxHeartbeats 1000000 in
theorem turn_ok {k : Nat} {lm st ac : Int} {ex : Bool} (s2 : Int) (hmay : ∀ w : World, Calls Try.prog 42 #[.agg #[.int .i64 st, .int .i64 s2]] w fun e w' => e = .returned (.bool true) ∧ Kept (fun _ => False) w w') (hs : IsTk w b v run l) (hx : l[k]? = some (lm, ex, st, ac)) :
    Calls Try.prog 30 #[.pointer (some ⟨b, 0, none⟩), .int .i64 k, .int .i64 s2] w fun e w' => e = .returned (.bool true) ∧ IsTk w' b v run (l.set k (lm, ex, s2, ac)) ∧ Kept (foot b v) w w' := by
  have hk := (List.getElem?_eq_some_iff.1 hx).1
  have c1 := hs.blk.cell 1 rfl
  obtain ⟨g, c, rfl, hg, e0, e1, e2, e3, f2, f3⟩ := hs.cells hx
  have hk0 : (0 : Int) ≤ (k : Int) := by omega
  have hk1 : (k : Int) < (l.length : Int) := by omega
  go_enter Try.func30, Try.ntmps30
  go_wp2_with fail
  refine (hmay _).mono ?_
  rintro e w1 ⟨rfl, k1⟩
  have hs1 := hs.kept k1 (fun _ _ h => h)
  have q1 := hs1.blk.cell 1 rfl
  obtain ⟨g', c', hv, hg', y0, y1, y2, y3, z2, z3⟩ := hs1.cells hx
  cases hv
  have hp := hs1.put (i := 2) (lm, ex, s2, ac) rfl hx (by decide) (u := .int .i64 s2) rfl
  have kp := (k1.mono (S' := foot b (.slice (some ⟨g, 0, none⟩) l.length c)) (fun _ _ h => False.elim h)).setCell (p := ⟨g, k * 4 + 2, none⟩) (Or.inl (Or.inr rfl)) (.int .i64 s2)
  have HP := Lib.hid hp
  have KP := Lib.hid kp
  clear hp kp hs1 hs k1
  go_wp2
  go_ret
  exact ⟨rfl, HP.out, KP.out⟩
end
end Go.Proofs.Ytallbbjmfcohfaa.TK
