/- A board that New did not give (no pointer, or one to a struct of zeros): its methods. -/
import Derived.Test.YtemhfonneggneaaBdO
import Derived.Laws.ResultCell
namespace Go.Proofs.Ytemhfonneggneaa.BD
open Go.RowKit Go.Fr

def DeadB (w : World) (p : Option Addr) : Prop := p = none ∨ ∃ b, p = some ⟨b, 0, none⟩ ∧ w.cell? ⟨b, 38, none⟩ = some (.bool false)

theorem DeadB.kept {w w' : World} {p : Option Addr} (h : DeadB w p) (k : Kept (fun _ => False) w w') : DeadB w' p := by
  rcases h with h | ⟨b, h, hb⟩
  · exact Or.inl h
  · exact Or.inr ⟨b, h, (k.cell (p := ⟨b, 38, none⟩) (World.block_lt_of_cell? w _ hb) (fun h => h)).trans hb⟩

set_option maxRecDepth 100000 in
theorem dead_alive {w : World} {p : Option Addr} (h : DeadB w p) : Calls Try.prog 29 #[.pointer p] w fun e w' => e = .returned (.bool false) ∧ w = w' := by
  rcases h with rfl | ⟨b, rfl, hb⟩
  · go_enter Try.func29, Try.ntmps29
    go_wp2
    go_ret
    exact ⟨rfl, rfl⟩
  · go_enter Try.func29, Try.ntmps29
    go_wp2
    go_ret
    exact ⟨rfl, rfl⟩

section
variable {w : World} {p : Option Addr}

set_option maxRecDepth 100000 in
theorem dead_of (n : Int) (h : DeadB w p) : Calls Try.prog 31 #[.pointer p, .int .i64 n] w fun e w' => e = .returned (.tuple #[.pointer none, .int .i64 0]) ∧ w = w' := by
  go_enter Try.func31, Try.ntmps31
  go_wp2_with (go_at_call 29; refine (dead_alive h).mono ?_; rintro e w' ⟨rfl, rfl⟩)
  go_ret2
  exact ⟨rfl, rfl⟩

set_option maxRecDepth 100000 in
theorem dead_tick (n : Int) (h : DeadB w p) : Calls Try.prog 9 #[.pointer p, .int .i64 n] w fun e w' => e = .returned (.tuple #[.slice none 0 0, .int .i64 1]) ∧ w = w' := by
  go_enter Try.func9, Try.ntmps9
  go_wp2_with (go_at_call 29; refine (dead_alive h).mono ?_; rintro e w' ⟨rfl, rfl⟩)
  go_ret2
  exact ⟨rfl, rfl⟩

set_option maxRecDepth 100000 in
theorem dead_base (n : Int) (h : DeadB w p) : Calls Try.prog 40 #[.pointer p, .int .i64 n] w fun e w' => e = .returned (.tuple #[.agg #[.int .u32 0, .int .u32 0, .int .u32 0], .int .i64 3]) ∧ Kept (fun _ => False) w w' := by
  have h1 : ∀ o : Obj, DeadB (w.alloc o) p := fun o => h.kept ((Kept.refl _ w).alloc o)
  go_enter Try.func40, Try.ntmps40
  go_wp2_with (go_at_call 31; refine (dead_of n (h1 _)).mono ?_; rintro e w' ⟨rfl, rfl⟩)
  refine bodyPost_ret (v := .tuple #[.agg #[.int .u32 0, .int .u32 0, .int .u32 0], .int .i64 3]) (by rw [results_cell_tmp rfl]; go_simp) rfl ⟨rfl, (Kept.refl _ w).alloc _⟩

set_option maxRecDepth 100000 in
theorem dead_left (n : Int) (h : DeadB w p) : Calls Try.prog 15 #[.pointer p, .int .i64 n] w fun e w' => e = .returned (.tuple #[.int .u32 0, .int .i64 3]) ∧ w = w' := by
  go_enter Try.func15, Try.ntmps15
  go_wp2_with (go_at_call 31; refine (dead_of n h).mono ?_; rintro e w' ⟨rfl, rfl⟩)
  go_ret2
  exact ⟨rfl, rfl⟩

set_option maxRecDepth 100000 in
theorem dead_auto (n : Int) (h : DeadB w p) : Calls Try.prog 46 #[.pointer p, .int .i64 n] w fun e w' => e = .returned (.tuple #[.int .i64 0, .int .i64 1]) ∧ w = w' := by
  go_enter Try.func46, Try.ntmps46
  go_wp2_with (go_at_call 29; refine (dead_alive h).mono ?_; rintro e w' ⟨rfl, rfl⟩)
  go_ret2
  exact ⟨rfl, rfl⟩

set_option maxRecDepth 100000 in
theorem dead_rel (n : Int) (t cy : Int) (h : DeadB w p) : Calls Try.prog 11 #[.pointer p, .int .i64 n, .int .u32 t, .int .u32 cy] w fun e w' => e = .returned (.int .i64 3) ∧ w = w' := by
  go_enter Try.func11, Try.ntmps11
  go_wp2_with (go_at_call 31; refine (dead_of n h).mono ?_; rintro e w' ⟨rfl, rfl⟩)
  go_ret
  exact ⟨rfl, rfl⟩

set_option maxRecDepth 100000 in
theorem dead_abs (n : Int) (t cy : Int) (h : DeadB w p) : Calls Try.prog 10 #[.pointer p, .int .i64 n, .int .u32 t, .int .u32 cy] w fun e w' => e = .returned (.int .i64 3) ∧ w = w' := by
  go_enter Try.func10, Try.ntmps10
  go_wp2_with (go_at_call 31; refine (dead_of n h).mono ?_; rintro e w' ⟨rfl, rfl⟩)
  go_ret
  exact ⟨rfl, rfl⟩

set_option maxRecDepth 100000 in
theorem dead_cancel (n : Int) (h : DeadB w p) : Calls Try.prog 12 #[.pointer p, .int .i64 n] w fun e w' => e = .returned (.int .i64 3) ∧ w = w' := by
  go_enter Try.func12, Try.ntmps12
  go_wp2_with (go_at_call 31; refine (dead_of n h).mono ?_; rintro e w' ⟨rfl, rfl⟩)
  go_ret
  exact ⟨rfl, rfl⟩

set_option maxRecDepth 100000 in
theorem dead_counters (h : DeadB w p) : Calls Try.prog 24 #[.pointer p] w fun e w' => e = .returned (.slice none 0 0) ∧ w = w' := by
  go_enter Try.func24, Try.ntmps24
  go_wp2_with (go_at_call 29; refine (dead_alive h).mono ?_; rintro e w' ⟨rfl, rfl⟩)
  go_ret
  exact ⟨rfl, rfl⟩

set_option maxRecDepth 100000 in
theorem dead_alarms (h : DeadB w p) : Calls Try.prog 52 #[.pointer p] w fun e w' => e = .returned (.slice none 0 0) ∧ w = w' := by
  go_enter Try.func52, Try.ntmps52
  go_wp2_with (go_at_call 29; refine (dead_alive h).mono ?_; rintro e w' ⟨rfl, rfl⟩)
  go_ret
  exact ⟨rfl, rfl⟩

set_option maxRecDepth 100000 in
theorem dead_request (n : Int) (h : DeadB w p) : Calls Try.prog 13 #[.pointer p, .int .i64 n] w fun e w' => e = .returned (.int .i64 3) ∧ w = w' := by
  go_enter Try.func13, Try.ntmps13
  go_wp2_with (go_at_call 29; refine (dead_alive h).mono ?_; rintro e w' ⟨rfl, rfl⟩)
  go_ret
  exact ⟨rfl, rfl⟩

set_option maxRecDepth 100000 in
theorem dead_requested (h : DeadB w p) : Calls Try.prog 53 #[.pointer p] w fun e w' => e = .returned (.slice none 0 0) ∧ w = w' := by
  go_enter Try.func53, Try.ntmps53
  go_wp2_with (go_at_call 29; refine (dead_alive h).mono ?_; rintro e w' ⟨rfl, rfl⟩)
  go_ret
  exact ⟨rfl, rfl⟩

set_option maxRecDepth 100000 in
theorem dead_serve (n : Int) (h : DeadB w p) : Calls Try.prog 14 #[.pointer p, .int .i64 n] w fun e w' => e = .returned (.int .i64 1) ∧ w = w' := by
  go_enter Try.func14, Try.ntmps14
  go_wp2_with (go_at_call 29; refine (dead_alive h).mono ?_; rintro e w' ⟨rfl, rfl⟩)
  go_ret
  exact ⟨rfl, rfl⟩

set_option maxRecDepth 100000 in
theorem dead_calm (h : DeadB w p) : Calls Try.prog 19 #[.pointer p] w fun e w' => e = .returned (.int .i64 1) ∧ w = w' := by
  go_enter Try.func19, Try.ntmps19
  go_wp2_with (go_at_call 29; refine (dead_alive h).mono ?_; rintro e w' ⟨rfl, rfl⟩)
  go_ret
  exact ⟨rfl, rfl⟩

set_option maxRecDepth 100000 in
theorem dead_copy (h : DeadB w p) : Calls Try.prog 17 #[.pointer p] w fun e w' => e = .returned (.pointer none) ∧ w = w' := by
  go_enter Try.func17, Try.ntmps17
  go_wp2_with (go_at_call 29; refine (dead_alive h).mono ?_; rintro e w' ⟨rfl, rfl⟩)
  go_ret
  exact ⟨rfl, rfl⟩

set_option maxRecDepth 100000 in
theorem dead_next (level : Int) (gs : Bool) (ga go : Int) (h : DeadB w p) : Calls Try.prog 23 #[.pointer p, .int .i64 level, .agg #[.bool gs, .int .i64 ga, .int .i64 go]] w fun e w' => e = .returned (.tuple #[.int .i64 (-1), .bool false]) ∧ Kept (fun _ => False) w w' := by
  have kA := (Kept.refl (fun _ => False) w).alloc (.cells #[.bool gs, .int .i64 ga, .int .i64 go] 46)
  obtain ⟨w1, hw1⟩ : ∃ w1, w.alloc (.cells #[.bool gs, .int .i64 ga, .int .i64 go] 46) = w1 := ⟨_, rfl⟩
  rw [hw1] at kA
  have hd := h.kept kA
  have hrq := dead_requested hd
  obtain ⟨N, hN⟩ : ∃ N, w.heap.size = N := ⟨_, rfl⟩
  go_enter Try.func23, Try.ntmps23
  go_upto_region 1 with fail
  try rw [hw1]
  try rw [hN]
  clear hw1 hN h hd
  go_wp2_with (go_at_call 53; refine hrq.mono ?_; rintro e w2 ⟨rfl, rfl⟩)
  go_loopw [8, 15] (fun be i wr => be = .int .i64 (-1) ∧ i = .int .i64 0 ∧ wr = w1) (fun _ _ _ => 0)
  case atStart => exact ⟨rfl, rfl, rfl⟩
  case round =>
    obtain ⟨rfl, rfl, rfl⟩ := hrel
    go_wp2_with fail
    go_ret2
    exact ⟨rfl, kA⟩

end
end Go.Proofs.Ytemhfonneggneaa.BD
