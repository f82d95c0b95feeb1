/- A clock that New did not give (no pointer, or one to a struct of zeros): its methods. -/
import Derived.Test.YtialldmepphloaaClkB
namespace Go.Proofs.Ytialldmepphloaa.CK
open Go.RowKit Go.Fr

def DeadC (w : World) (p : Option Addr) : Prop := p = none ∨ ∃ b, p = some ⟨b, 0, none⟩ ∧ w.cell? ⟨b, 0, none⟩ = some (.bool false)

theorem DeadC.kept {w w' : World} {p : Option Addr} (h : DeadC w p) (k : Kept (fun _ => False) w w') : DeadC w' p := by
  rcases h with h | ⟨b, h, hb⟩
  · exact Or.inl h
  · exact Or.inr ⟨b, h, (k.cell (p := ⟨b, 0, none⟩) (World.block_lt_of_cell? w _ hb) (fun h => h)).trans hb⟩

theorem dead_alive {w : World} {p : Option Addr} (h : DeadC w p) : Calls Try.prog 36 #[.pointer p] w fun e w' => e = .returned (.bool false) ∧ w = w' := by
  rcases h with rfl | ⟨b, rfl, hb⟩
  · go_enter Try.func36, Try.ntmps36
    go_wp2
    go_ret
    exact ⟨rfl, rfl⟩
  · go_enter Try.func36, Try.ntmps36
    go_wp2
    go_ret
    exact ⟨rfl, rfl⟩

section
variable {w : World} {p : Option Addr}

theorem dead_value (h : DeadC w p) : Calls Try.prog 21 #[.pointer p] w fun e w' => e = .returned (.int .u32 0) ∧ w = w' := by
  go_enter Try.func21, Try.ntmps21
  go_wp2_with (go_at_call 36; refine (dead_alive h).mono ?_; rintro e w' ⟨rfl, rfl⟩)
  go_ret
  exact ⟨rfl, rfl⟩
theorem dead_has (i : Int) (h : DeadC w p) : Calls Try.prog 57 #[.pointer p, .int .i64 i] w fun e w' => e = .returned (.bool false) ∧ w = w' := by
  go_enter Try.func57, Try.ntmps57
  go_wp2_with (go_at_call 36; refine (dead_alive h).mono ?_; rintro e w' ⟨rfl, rfl⟩)
  go_ret
  exact ⟨rfl, rfl⟩
theorem dead_tick (h : DeadC w p) : Calls Try.prog 20 #[.pointer p] w fun e w' => e = .returned (.slice none 0 0) ∧ w = w' := by
  go_enter Try.func20, Try.ntmps20
  go_wp2_with (go_at_call 36; refine (dead_alive h).mono ?_; rintro e w' ⟨rfl, rfl⟩)
  go_ret
  exact ⟨rfl, rfl⟩
theorem dead_coming (i : Int) (h : DeadC w p) : Calls Try.prog 26 #[.pointer p, .int .i64 i] w fun e w' => e = .returned (.slice none 0 0) ∧ w = w' := by
  go_enter Try.func26, Try.ntmps26
  go_wp2_with (go_at_call 36; refine (dead_alive h).mono ?_; rintro e w' ⟨rfl, rfl⟩)
  go_ret
  exact ⟨rfl, rfl⟩
theorem dead_copy (h : DeadC w p) : Calls Try.prog 28 #[.pointer p] w fun e w' => e = .returned (.pointer none) ∧ w = w' := by
  go_enter Try.func28, Try.ntmps28
  go_wp2_with (go_at_call 36; refine (dead_alive h).mono ?_; rintro e w' ⟨rfl, rfl⟩)
  go_ret
  exact ⟨rfl, rfl⟩
theorem dead_reset (h : DeadC w p) : Calls Try.prog 29 #[.pointer p] w fun e w' => e = .returned (.tuple #[]) ∧ w = w' := by
  go_enter Try.func29, Try.ntmps29
  go_wp2_with (go_at_call 36; refine (dead_alive h).mono ?_; rintro e w' ⟨rfl, rfl⟩)
  go_end0
  exact ⟨rfl, rfl⟩

theorem dead_of (i : Int) (h : DeadC w p) : Calls Try.prog 43 #[.pointer p, .int .i64 i] w fun e w' =>
    e = .returned (.tuple #[.agg #[.bool false, .int .u64 0, .int .u32 0], .int .i64 3]) ∧ Kept (fun _ => False) w w' := by
  have k0 := (Kept.refl (fun _ => False) w).alloc (.cells #[.bool false, .int .u64 0, .int .u32 0] 76)
  have h0 := h.kept k0
  go_enter Try.func43, Try.ntmps43
  go_wp2_with (go_at_call 57; refine (dead_has i h0).mono ?_; rintro e w' ⟨rfl, rfl⟩)
  refine bodyPost_ret (v := .tuple #[.agg #[.bool false, .int .u64 0, .int .u32 0], .int .i64 3]) (by rw [results_cell_tmp rfl]; go_simp) rfl ⟨rfl, k0⟩

theorem dead_left (i : Int) (h : DeadC w p) : Calls Try.prog 24 #[.pointer p, .int .i64 i] w fun e w' => e = .returned (.tuple #[.int .u64 0, .int .i64 3]) ∧ Kept (fun _ => False) w w' := by
  go_enter Try.func24, Try.ntmps24
  go_wp2_with fail
  refine (dead_of i h).mono ?_
  rintro e w1 ⟨rfl, k1⟩
  go_wp2_with fail
  go_ret2
  exact ⟨rfl, k1.alloc _⟩

theorem dead_cycle (i : Int) (h : DeadC w p) : Calls Try.prog 33 #[.pointer p, .int .i64 i] w fun e w' => e = .returned (.tuple #[.int .u32 0, .int .i64 3]) ∧ Kept (fun _ => False) w w' := by
  go_enter Try.func33, Try.ntmps33
  go_wp2_with fail
  refine (dead_of i h).mono ?_
  rintro e w1 ⟨rfl, k1⟩
  go_wp2_with fail
  go_ret2
  exact ⟨rfl, k1.alloc _⟩

theorem dead_cancel (i : Int) (h : DeadC w p) : Calls Try.prog 25 #[.pointer p, .int .i64 i] w fun e w' => e = .returned (.int .i64 3) ∧ Kept (fun _ => False) w w' := by
  go_enter Try.func25, Try.ntmps25
  go_wp2_with fail
  refine (dead_of i h).mono ?_
  rintro e w1 ⟨rfl, k1⟩
  go_wp2_with fail
  go_ret
  exact ⟨rfl, k1.alloc _⟩

theorem dead_put (i : Int) (cy : Int) {fr fl : Value} (h : DeadC w p) : Calls Try.prog 37 #[.pointer p, .int .i64 i, fr, fl, .int .u32 cy] w fun e w' => e = .returned (.int .i64 3) ∧ w' = w := by
  go_enter Try.func37, Try.ntmps37
  go_wp2_with (go_at_call 57; refine (dead_has i h).mono ?_; rintro e w' ⟨rfl, rfl⟩)
  go_ret
  exact ⟨rfl, rfl⟩

set_option maxRecDepth 100000 in
set_option maxHeartbeats 2000000 in
theorem dead_rel (i : Int) (t cy : Int) (h : DeadC w p) : Calls Try.prog 23 #[.pointer p, .int .i64 i, .int .u32 t, .int .u32 cy] w fun e w' => e = .returned (.int .i64 3) ∧ Kept (fun _ => False) w w' := by
  have hmf : ∀ (fn : Fn) (first cap : Array Value) (w : World), (Instr.makeFunc fn first cap).run Try.prog w = .ok (.func fn first cap) w := fun _ _ _ _ => rfl
  have k0 := (((Kept.refl (fun _ => False) w).alloc (.cells #[.pointer p] 36)).alloc (.cells #[.int .u32 t] 25)).alloc (.cells #[.int .u32 cy] 25)
  have h0 := h.kept k0
  have dc : (((w.alloc (.cells #[.pointer p] 36)).alloc (.cells #[.int .u32 t] 25)).alloc (.cells #[.int .u32 cy] 25)).cell? ⟨w.heap.size, 0, none⟩ = some (.pointer p) :=
    (((Blk.new w [.pointer p] 36).alloc _).alloc _).cell 0 rfl
  have dy : (((w.alloc (.cells #[.pointer p] 36)).alloc (.cells #[.int .u32 t] 25)).alloc (.cells #[.int .u32 cy] 25)).cell? ⟨w.heap.size + 1 + 1, 0, none⟩ = some (.int .u32 cy) := by
    have h := Blk.new ((w.alloc (.cells #[.pointer p] 36)).alloc (.cells #[.int .u32 t] 25)) [.int .u32 cy] 25
    rw [World.size_alloc, World.size_alloc] at h
    exact h.cell 0 rfl
  go_enter Try.func23, Try.ntmps23
  go_wp2_with fail
  refine (dead_put i cy h0).mono ?_
  rintro e w1 ⟨rfl, rfl⟩
  go_wp2
  go_ret
  exact ⟨rfl, k0⟩

set_option maxRecDepth 100000 in
set_option maxHeartbeats 2000000 in
theorem dead_abs (i : Int) (t cy : Int) (h : DeadC w p) : Calls Try.prog 22 #[.pointer p, .int .i64 i, .int .u32 t, .int .u32 cy] w fun e w' => e = .returned (.int .i64 3) ∧ Kept (fun _ => False) w w' := by
  have hmf : ∀ (fn : Fn) (first cap : Array Value) (w : World), (Instr.makeFunc fn first cap).run Try.prog w = .ok (.func fn first cap) w := fun _ _ _ _ => rfl
  have k0 := (((Kept.refl (fun _ => False) w).alloc (.cells #[.pointer p] 36)).alloc (.cells #[.int .u32 t] 25)).alloc (.cells #[.int .u32 cy] 25)
  have h0 := h.kept k0
  have dc : (((w.alloc (.cells #[.pointer p] 36)).alloc (.cells #[.int .u32 t] 25)).alloc (.cells #[.int .u32 cy] 25)).cell? ⟨w.heap.size, 0, none⟩ = some (.pointer p) :=
    (((Blk.new w [.pointer p] 36).alloc _).alloc _).cell 0 rfl
  have dy : (((w.alloc (.cells #[.pointer p] 36)).alloc (.cells #[.int .u32 t] 25)).alloc (.cells #[.int .u32 cy] 25)).cell? ⟨w.heap.size + 1 + 1, 0, none⟩ = some (.int .u32 cy) := by
    have h := Blk.new ((w.alloc (.cells #[.pointer p] 36)).alloc (.cells #[.int .u32 t] 25)) [.int .u32 cy] 25
    rw [World.size_alloc, World.size_alloc] at h
    exact h.cell 0 rfl
  go_enter Try.func22, Try.ntmps22
  go_wp2_with fail
  refine (dead_put i cy h0).mono ?_
  rintro e w1 ⟨rfl, rfl⟩
  go_wp2
  go_ret
  exact ⟨rfl, k0⟩

set_option maxRecDepth 100000 in
set_option maxHeartbeats 2000000 in
theorem dead_set (i : Int) (t cy : Int) (h : DeadC w p) : Calls Try.prog 34 #[.pointer p, .int .i64 i, .int .u32 t, .int .u32 cy] w fun e w' => e = .returned (.int .i64 3) ∧ Kept (fun _ => False) w w' := by
  have hmf : ∀ (fn : Fn) (first cap : Array Value) (w : World), (Instr.makeFunc fn first cap).run Try.prog w = .ok (.func fn first cap) w := fun _ _ _ _ => rfl
  have k0 := (((Kept.refl (fun _ => False) w).alloc (.cells #[.pointer p] 36)).alloc (.cells #[.int .u32 t] 25)).alloc (.cells #[.int .u32 cy] 25)
  have h0 := h.kept k0
  have dc : (((w.alloc (.cells #[.pointer p] 36)).alloc (.cells #[.int .u32 t] 25)).alloc (.cells #[.int .u32 cy] 25)).cell? ⟨w.heap.size, 0, none⟩ = some (.pointer p) :=
    (((Blk.new w [.pointer p] 36).alloc _).alloc _).cell 0 rfl
  have dy : (((w.alloc (.cells #[.pointer p] 36)).alloc (.cells #[.int .u32 t] 25)).alloc (.cells #[.int .u32 cy] 25)).cell? ⟨w.heap.size + 1 + 1, 0, none⟩ = some (.int .u32 cy) := by
    have h := Blk.new ((w.alloc (.cells #[.pointer p] 36)).alloc (.cells #[.int .u32 t] 25)) [.int .u32 cy] 25
    rw [World.size_alloc, World.size_alloc] at h
    exact h.cell 0 rfl
  go_enter Try.func34, Try.ntmps34
  go_wp2_with fail
  refine (dead_put i cy h0).mono ?_
  rintro e w1 ⟨rfl, rfl⟩
  go_wp2
  go_ret
  exact ⟨rfl, k0⟩

end
end Go.Proofs.Ytialldmepphloaa.CK
