/- tappetlaw16: num, alive. -/
import Derived.Test.YtialldmepphloaaClkT
namespace Go.Proofs.Ytialldmepphloaa.CK
open Go.RowKit Go.Fr

theorem num_ok (n : Int) (w : World) : Calls Try.prog 11 #[.int .i64 n] w fun e w' => e = .returned (.int .i64 n) ∧ w = w' := by
  go_enter Try.func11, Try.ntmps11
  go_wp2
  go_ret
  exact ⟨rfl, rfl⟩

def a0 : List (Bool × Nat × Nat) := List.replicate 3 (false, 0, 0)
def a1 : List (Bool × Nat × Nat) := [(true, 2, 0), (false, 0, 0), (false, 0, 0)]
def a2 : List (Bool × Nat × Nat) := [(true, 2, 0), (true, 2, 3), (false, 0, 0)]

def a3 : List (Bool × Nat × Nat) := [(true, 1, 0), (true, 1, 3), (false, 0, 0)]
def a4 : List (Bool × Nat × Nat) := [(false, 0, 0), (true, 3, 3), (false, 0, 0)]

set_option maxRecDepth 100000 in
set_option maxHeartbeats 2000000 in
theorem alive_law (w : World) : Calls Try.prog 18 #[] w fun e w' => e = .returned (.bool true) ∧ Kept (fun _ => False) w w' := by
  go_enter Try.func18, Try.ntmps18
  go_wp2_with fail
  refine (new_ok ⟨#[]⟩ 9 0 2 3 w (by decide) (by decide) (by decide) (by decide)).mono ?_
  rintro e w1 ⟨b, v, rfl, h1, hf, k1⟩
  go_wp2_with (go_at_call 11; refine (num_ok _ _).mono ?_; rintro e w' ⟨rfl, rfl⟩)
  refine (rel_ok (k := 0) (lf := 0) (c' := 0) (t := 2) (cy := 0) (by decide) h1 rfl rfl (by decide) (by decide)).mono ?_
  rintro e w2 ⟨rfl, h2, k2⟩
  go_wp2_with fail
  refine (abs_ok (k := 1) (lf := 0) (c' := 0) (t := 2) (cy := 3) (by decide) h2 rfl rfl (by decide) (by decide)).mono ?_
  rintro e w3 ⟨rfl, h3, k3⟩
  go_wp2_with fail
  refine (rel_bad (k := 2) (lf := 0) (c' := 0) (t := 1) (cy := 1) (by decide) h3 rfl rfl).mono ?_
  rintro e w4 ⟨rfl, k4⟩
  have h4 : IsClk w4 b v 9 2 0 a2 := h3.kept k4 (fun _ _ h => h)
  have t5 := tick_ok h4
  have t6 := fun w (h : IsClk w b v 9 2 1 a3) => tick_ok h
  rw [show fired a2 0 = [] from by decide, show a2.map tick1 = a3 from by decide, show after 9 0 1 = 1 from by decide] at t5
  rw [show fired a3 0 = [0, 1] from by decide, show a3.map tick1 = a4 from by decide, show after 9 1 1 = 2 from by decide] at t6
  clear h1 h2 h3 h4
  go_wp2_with fail
  refine t5.mono ?_
  rintro e w5 ⟨ao, c, rfl, h5, k5, r5, o5⟩
  have t6' := t6 w5 h5
  clear t5 t6
  go_wp2_with fail
  refine t6'.mono ?_
  rintro e w6 ⟨ao', c', rfl, h6, k6, r6, o6⟩
  have hl := left_ok 1 h6
  rw [show ofA a4 1 = (true, 3, 3) from by decide, show ofS a4 1 = 0 from by decide] at hl
  go_wp2_with fail
  refine hl.mono ?_
  rintro e w7 ⟨rfl, k7⟩
  have h7 := h6.kept k7 (fun _ _ h => h)
  have r7 := row_kept r6 k7 (fun _ _ h => h)
  obtain ⟨g, rfl, p0, p1⟩ : ∃ g, ao' = some ⟨g, 0, none⟩ ∧ w7.cell? ⟨g, 0, none⟩ = some (.int .i64 0) ∧ w7.cell? ⟨g, 1, none⟩ = some (.int .i64 1) := by
    rcases row_forms r7 with ⟨_, h0⟩ | ⟨g, c', hv, _⟩
    · simp at h0
    · cases hv
      exact ⟨g, rfl, row_cell r7 0 rfl, row_cell r7 1 rfl⟩
  have hav := after_ok 9 8 18446744073709551615 (by decide) (by decide) (by decide)
  rw [show after 9 8 18446744073709551615 = 3 from by decide] at hav
  go_wp2_with (first
    | (go_at_call 21; refine (value_ok h7).mono ?_; rintro e w' ⟨rfl, rfl⟩)
    | (go_at_call 14; refine (hav _).mono ?_; rintro e w' ⟨rfl, rfl⟩))
  go_ret
  refine ⟨rfl, ?_⟩
  have hfr : ∀ i, foot b v i → w.heap.size ≤ i := hf
  have j1 := k1.then (k2.then k3 (fun _ h => Or.inl h)) (fun i hi => Or.inr (hf i hi))
  have j2 := j1.then k4 (fun _ h => h.elim)
  have j3 := j2.then k5 (fun i hi => Or.inr (hf i hi))
  have j4 := j3.then k6 (fun i hi => Or.inr (hf i hi))
  exact j4.then k7 (fun _ h => h.elim)
end Go.Proofs.Ytialldmepphloaa.CK
