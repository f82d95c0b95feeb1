/- Package event: a table that no call made; heads of tappetlaw15. -/
import Derived.Test.YtmljnhhjjaibbaaEvtN
namespace Go.Proofs.Ytmljnhhjjaibbaa.EV
open Go.RowKit Go.Fr

def DeadT (w : World) (p : Option Addr) : Prop := p = none ∨ ∃ b, p = some ⟨b, 0, none⟩ ∧ w.cell? ⟨b, 0, none⟩ = some (.bool false) ∧ w.cell? ⟨b, 1, none⟩ = some (.int .i64 0)

theorem DeadT.kept {w w' : World} {p : Option Addr} (h : DeadT w p) (k : Kept (fun _ => False) w w') : DeadT w' p := by
  rcases h with h | ⟨b, h, hb, hc⟩
  · exact Or.inl h
  · exact Or.inr ⟨b, h, (k.cell (p := ⟨b, 0, none⟩) (World.block_lt_of_cell? w _ hb) (fun h => h)).trans hb, (k.cell (p := ⟨b, 1, none⟩) (World.block_lt_of_cell? w _ hc) (fun h => h)).trans hc⟩
theorem DeadT.drewN {w : World} {p : Option Addr} (h : DeadT w p) (n : Nat) : DeadT (w.drewN n) p := h.kept ((Kept.refl _ w).drewN n)

section
variable {w : World} {p : Option Addr}
theorem dead_of (i : Int) (h : DeadT w p) : Calls Try.prog 26 #[.pointer p, .int .i64 i] w fun e w' => e = .returned (.tuple #[.pointer none, .int .i64 3]) ∧ w = w' := by
  rcases h with rfl | ⟨b, rfl, hb, hc⟩
  · go_enter Try.func26, Try.ntmps26
    go_wp2
    go_ret2
    exact ⟨rfl, rfl⟩
  · by_cases h0 : i < 0
    · have d0 : decide (i < 0) = true := by simpa using h0
      go_enter Try.func26, Try.ntmps26
      go_wp2
      go_ret2
      exact ⟨rfl, rfl⟩
    · have d0 : decide (i < 0) = false := by simpa using h0
      have d1 : decide ((0 : Int) ≤ i) = true := by simp; omega
      go_enter Try.func26, Try.ntmps26
      go_wp2
      go_ret2
      exact ⟨rfl, rfl⟩


theorem dead_set (i : Int) (x : Int) (h : DeadT w p) : Calls Try.prog 8 #[.pointer p, .int .i64 i, .int .u32 x] w fun e w' => e = .returned (.tuple #[.bool false, .int .i64 3]) ∧ w = w' := by
  go_enter Try.func8, Try.ntmps8
  go_wp2_with (go_at_call 26; refine (dead_of i h).mono ?_; rintro e w' ⟨rfl, rfl⟩)
  go_ret2
  exact ⟨rfl, rfl⟩


theorem dead_clear (i : Int) (x : Int) (h : DeadT w p) : Calls Try.prog 9 #[.pointer p, .int .i64 i, .int .u32 x] w fun e w' => e = .returned (.int .i64 3) ∧ w = w' := by
  go_enter Try.func9, Try.ntmps9
  go_wp2_with (go_at_call 26; refine (dead_of i h).mono ?_; rintro e w' ⟨rfl, rfl⟩)
  go_ret
  exact ⟨rfl, rfl⟩


theorem dead_get (i : Int) (h : DeadT w p) : Calls Try.prog 12 #[.pointer p, .int .i64 i] w fun e w' => e = .returned (.tuple #[.int .u32 0, .int .i64 3]) ∧ w = w' := by
  go_enter Try.func12, Try.ntmps12
  go_wp2_with (go_at_call 26; refine (dead_of i h).mono ?_; rintro e w' ⟨rfl, rfl⟩)
  go_ret2
  exact ⟨rfl, rfl⟩


theorem dead_wait (i : Int) (x : Int) (h : DeadT w p) : Calls Try.prog 10 #[.pointer p, .int .i64 i, .int .u32 x] w fun e w' => e = .returned (.tuple #[.bool false, .int .i64 3]) ∧ w = w' := by
  go_enter Try.func10, Try.ntmps10
  go_wp2_with (go_at_call 26; refine (dead_of i h).mono ?_; rintro e w' ⟨rfl, rfl⟩)
  go_ret2
  exact ⟨rfl, rfl⟩


theorem dead_waits (i : Int) (h : DeadT w p) : Calls Try.prog 13 #[.pointer p, .int .i64 i] w fun e w' => e = .returned (.int .u32 0) ∧ w = w' := by
  go_enter Try.func13, Try.ntmps13
  go_wp2_with (go_at_call 26; refine (dead_of i h).mono ?_; rintro e w' ⟨rfl, rfl⟩)
  go_ret
  exact ⟨rfl, rfl⟩


theorem dead_fresh (i : Int) (h : DeadT w p) : Calls Try.prog 11 #[.pointer p, .int .i64 i] w fun e w' => e = .returned (.int .i64 3) ∧ ∃ q, w' = w.drewN q := by
  go_enter Try.func11, Try.ntmps11
  go_wp2_with (go_at_call 26; refine (dead_of i h).mono ?_; rintro e w' ⟨rfl, rfl⟩)
  go_quiet (fail)
  go_wp2
  go_ret
  exact ⟨rfl, _, rfl⟩


theorem dead_reset (h : DeadT w p) : Calls Try.prog 21 #[.pointer p] w fun e w' => e = .returned (.int .i64 1) ∧ w = w' := by
  rcases h with rfl | ⟨b, rfl, hb, hc⟩
  · go_enter Try.func21, Try.ntmps21
    go_wp2
    go_ret
    exact ⟨rfl, rfl⟩
  · go_enter Try.func21, Try.ntmps21
    go_wp2
    go_ret
    exact ⟨rfl, rfl⟩


theorem dead_copy (h : DeadT w p) : Calls Try.prog 23 #[.pointer p] w fun e w' => e = .returned (.pointer none) ∧ w = w' := by
  rcases h with rfl | ⟨b, rfl, hb, hc⟩
  · go_enter Try.func23, Try.ntmps23
    go_wp2
    go_ret
    exact ⟨rfl, rfl⟩
  · go_enter Try.func23, Try.ntmps23
    go_wp2
    go_ret
    exact ⟨rfl, rfl⟩


set_option maxRecDepth 100000 in
set_option maxHeartbeats 1000000 in
theorem nobody_ok (i x : Int) (h : DeadT w p) : Calls Try.prog 25 #[.pointer p, .int .i64 i, .int .u32 x] w fun e w' => e = .returned (.bool true) ∧ ∃ q, w' = w.drewN q := by
  go_enter Try.func25, Try.ntmps25
  go_wp2_with (first
    | (go_at_call 8; refine (dead_set i x h).mono ?_; rintro e w' ⟨rfl, rfl⟩)
    | (go_at_call 9; refine (dead_clear i x h).mono ?_; rintro e w' ⟨rfl, rfl⟩)
    | (go_at_call 12; refine (dead_get i h).mono ?_; rintro e w' ⟨rfl, rfl⟩)
    | (go_at_call 10; refine (dead_wait i x h).mono ?_; rintro e w' ⟨rfl, rfl⟩)
    | (go_at_call 11; refine (dead_fresh i h).mono ?_; rintro e w' ⟨rfl, q, rfl⟩; have h2 := h.drewN q)
    | (go_at_call 13; refine (dead_waits i h2).mono ?_; rintro e w' ⟨rfl, rfl⟩)
    | (go_at_call 21; refine (dead_reset h2).mono ?_; rintro e w' ⟨rfl, rfl⟩)
    | (go_at_call 23; refine (dead_copy h2).mono ?_; rintro e w' ⟨rfl, rfl⟩))
  go_ret
  exact ⟨rfl, q, rfl⟩
end

/-- a slice of the call's own that shows numbers -/
theorem came_new (w : World) (ms : List Int) (t : TypeId) (k : IntKind) : CameL (w.alloc (.cells (ms.map (Value.int k)).toArray t)) 1 (encK k) (some ⟨w.heap.size, 0, none⟩) ms := by
  intro _
  refine ⟨w.heap.size, 0, rfl, by simp, fun i x hx j v hv => ?_⟩
  have hj : j = 0 := by have := (List.getElem?_eq_some_iff.1 hv).1; simp [encK] at this; exact this
  subst hj
  simp [encK] at hv
  subst hv
  have := (Blk.new w (ms.map (Value.int k)) t).cell i (v := .int k x) (by rw [List.getElem?_map, hx]; rfl)
  simpa using this

set_option maxRecDepth 100000 in
set_option maxHeartbeats 1000000 in
theorem heads_law (w : World) : Calls Try.prog 7 #[] w fun e w' => e = .returned (.bool true) ∧ Kept (fun _ => False) w w' := by
  have hnew := new_ok (some ⟨w.heap.size, 0, none⟩) 2 [3, 0] (w.alloc (.cells #[.int .u32 3, .int .u32 0] 22)) (by decide) (came_new w [3, 0] 22 .u32)
  have k0 := (Kept.refl (fun _ => False) w).alloc (.cells #[.int .u32 3, .int .u32 0] 22)
  rw [World.size_alloc] at hnew
  have e1 : bits BinOp.or IntKind.u32 0 1 = 1 := by decide
  have e2 : bits BinOp.or IntKind.u32 1 2 = 3 := by decide
  go_enter Try.func7, Try.ntmps7
  go_wp2_with fail
  refine hnew.mono ?_
  rintro e w1 ⟨rfl, h1, k1⟩
  have g1 : IsEvt w1 (w.heap.size + 1) 2 [(3, 0, 0, false), (0, 0, 0, false)] := h1
  clear h1
  go_wp2_with fail
  refine (set_off (k := 0) 1 g1 (by decide) rfl (by decide) rfl).mono ?_
  rintro e w2 ⟨rfl, h2, k2⟩
  rw [e1] at h2
  have g2 : IsEvt w2 (w.heap.size + 1) 2 [(3, 1, 0, false), (0, 0, 0, false)] := h2
  clear h2
  go_wp2_with fail
  refine (wait_yes (k := 0) 2 g2 (by decide) rfl (by decide) rfl (by decide)).mono ?_
  rintro e w3 ⟨rfl, h3, k3⟩
  have g3 : IsEvt w3 (w.heap.size + 1) 2 [(3, 1, 2, true), (0, 0, 0, false)] := h3
  clear h3
  go_wp2_with fail
  refine (set_wake (k := 0) 2 g3 (by decide) rfl (by decide) rfl (by decide)).mono ?_
  rintro e w4 ⟨rfl, h4, k4⟩
  rw [e2] at h4
  have g4 : IsEvt w4 (w.heap.size + 1) 2 [(3, 3, 0, false), (0, 0, 0, false)] := h4
  clear h4
  go_wp2_with fail
  refine (get_ok (k := 0) g4 (by decide) rfl (by decide)).mono ?_
  rintro e w' ⟨rfl, rfl⟩
  go_wp2_with fail
  refine (set_acc (k := 1) 1 g4 (by decide) rfl rfl).mono ?_
  rintro e w' ⟨rfl, rfl⟩
  go_wp2
  go_ret
  refine ⟨rfl, ?_⟩
  have z := k0.then k1 (fun _ h => Or.inl h)
  have zz : ∀ i, i = w.heap.size + 1 → w.heap.size ≤ i := fun i h => by omega
  exact ((z.then k2 (fun i h => Or.inr (zz i h))).then k3 (fun i h => Or.inr (zz i h))).then k4 (fun i h => Or.inr (zz i h))
end Go.Proofs.Ytmljnhhjjaibbaa.EV
