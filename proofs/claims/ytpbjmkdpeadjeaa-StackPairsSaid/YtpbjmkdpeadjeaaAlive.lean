/- tappetlaw14.alive: it answers true, and turns nothing that was there. -/
import Derived.Test.YtpbjmkdpeadjeaaStsU
namespace Go.Proofs.Ytpbjmkdpeadjeaa.SS
open Go.RowKit Go.Fr

theorem num_ok (n : Int) (w : World) : Calls Try.prog 10 #[.int .i64 n] w fun e w' => e = .returned (.int .i64 n) ∧ w = w' := by
  go_enter Try.func10, Try.ntmps10
  go_wp2
  go_ret
  exact ⟨by simp, rfl⟩

set_option maxRecDepth 100000 in
set_option maxHeartbeats 2000000 in
theorem alive_law (w : World) : Calls Try.prog 13 #[] w fun e w' => e = .returned (.bool true) ∧ Kept (fun _ => False) w w' := by
  go_enter Try.func13, Try.ntmps13
  go_wp2_with (go_at_call 10; go_in)
  refine (new_ok 2 w (by omega) (by omega)).mono ?_
  rintro e w0 ⟨rfl, h0, k0, z0⟩
  go_wp2_with (go_at_call 10; go_in)
  refine (push_room ⟨#[97]⟩ h0 (by simp) (by omega)).mono ?_
  rintro e w1 ⟨rfl, v1, h1, k1, f1⟩
  go_wp2_with (go_at_call 10; go_in)
  refine (push_room ⟨#[98]⟩ h1 (by simp) (by omega)).mono ?_
  rintro e w2 ⟨rfl, v2, h2, k2, f2⟩
  go_wp2_with (go_at_call 10; go_in)
  refine (push_full ⟨#[99]⟩ h2 (by simp) (by simp [mxi])).mono ?_
  rintro e w3 ⟨rfl, h3, k3⟩
  go_wp2_with (go_at_call 10; go_in)
  refine (find_any ⟨#[97]⟩ h3).mono ?_
  rintro e w4 ⟨r, ok, rfl, hf, n4, rfl⟩
  obtain ⟨rfl, rfl⟩ : ok = true ∧ r = 1 := by
    rcases hf with ⟨h, h5, h6⟩ | ⟨_, _, h5⟩
    · refine ⟨h, ?_⟩
      match r, h5 with
      | 0, h5 => simp at h5
      | 1, _ => rfl
      | (n + 2), h5 => simp at h5
    · exact absurd rfl (h5 1 (by simp))
  have h4 : IsStk (w3.drewN n4) w.heap.size v2 2 (mxi (mxi 0 1) 2) ([⟨#[97]⟩] ++ [⟨#[98]⟩]) := h3.kept (S := fun _ => False) ((Kept.refl _ _).drewN _) (fun _ _ h => h)
  have k4 : Kept (fun _ => False) w3 (w3.drewN n4) := (Kept.refl _ _).drewN _
  generalize w3.drewN n4 = w4 at *
  go_wp2_with (go_at_call 10; go_in)
  refine (pop_ok ⟨#[98]⟩ h4).mono ?_
  rintro e w5 ⟨rfl, v5, h5, hv5, k5⟩
  go_wp2_with (first
    | (go_at_call 10; go_in)
    | (go_at_call 39; refine (len_ok h5).mono ?_; rintro e w' ⟨rfl, rfl⟩)
    | (go_at_call 40; refine (high_ok h5).mono ?_; rintro e w' ⟨rfl, rfl⟩)
    | (go_at_call 41; refine (depth_ok h5).mono ?_; rintro e w' ⟨rfl, rfl⟩))
  go_ret
  refine ⟨rfl, ?_⟩
  have g0 : ∀ i, foot w.heap.size (.slice none 0 0) i → w.heap.size ≤ i := by
    rintro i (rfl | h)
    · exact Nat.le_refl _
    · simp [Value.ownBlock] at h
  have g1 : ∀ i, foot w.heap.size v1 i → w.heap.size ≤ i := fun i hi => (f1 i hi).elim (g0 i) (fun h => by omega)
  have q1 := k0.then k1 (fun i hi => Or.inr (g0 i hi))
  have g2 : ∀ i, foot w.heap.size v2 i → w.heap.size ≤ i := fun i hi => (f2 i hi).elim (g1 i) (fun h => by have := q1.size; omega)
  have q2 := q1.then k2 (fun i hi => Or.inr (g1 i hi))
  have q3 := q2.then k3 (fun i hi => Or.inr (g2 i hi))
  have q4 := q3.then k4 (fun i hi => Or.inl hi)
  exact q4.then k5 (fun i hi => Or.inr (by omega))

end Go.Proofs.Ytpbjmkdpeadjeaa.SS
