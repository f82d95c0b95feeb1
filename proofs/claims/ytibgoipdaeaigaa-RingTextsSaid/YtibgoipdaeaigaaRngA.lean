/- tappetlaw12.alive: it answers true, and turns nothing that was there. -/
import Derived.Test.YtibgoipdaeaigaaRnsU
namespace Go.Proofs.Ytibgoipdaeaigaa.RS
open Go.RowKit Go.Fr

theorem num_ok (n : Int) (w : World) : Calls Try.prog 11 #[.int .i64 n] w fun e w' => e = .returned (.int .i64 n) ∧ w = w' := by
  go_enter Try.func11, Try.ntmps11
  go_wp2
  go_ret
  exact ⟨by simp, rfl⟩

set_option maxRecDepth 100000 in
set_option maxHeartbeats 2000000 in
theorem alive_law (w : World) : Calls Try.prog 14 #[] w fun e w' => e = .returned (.bool true) ∧ Kept (fun _ => False) w w' := by
  go_enter Try.func14, Try.ntmps14
  go_wp2_with (go_at_call 11; go_in)
  refine (new_ok 2 w (by omega)).mono ?_
  rintro e w0 ⟨rfl, h0, k0, z0⟩
  go_wp2_with (go_at_call 11; go_in)
  refine (last_room ⟨#[98]⟩ h0 (by simp)).mono ?_
  rintro e w1 ⟨rfl, v1, f1, cs1, h1, t1, k1⟩
  go_wp2_with (go_at_call 11; go_in)
  refine (first_room ⟨#[97]⟩ h1 (by simp)).mono ?_
  rintro e w2 ⟨rfl, v2, f2, cs2, h2, t2, k2⟩
  go_wp2_with (go_at_call 11; go_in)
  refine (last_full ⟨#[99]⟩ h2 (by simp)).mono ?_
  rintro e w3 ⟨rfl, n3, rfl⟩
  have h3 := h2.drewN n3
  have k3 : Kept (fun _ => False) w2 (w2.drewN n3) := (Kept.refl _ _).drewN _
  generalize w2.drewN n3 = w3 at *
  go_wp2_with (go_at_call 11; go_in)
  refine (full_ok h3).mono ?_
  rintro e w4 ⟨rfl, n4, rfl⟩
  have h4 := h3.drewN n4
  have k4 : Kept (fun _ => False) w3 (w3.drewN n4) := (Kept.refl _ _).drewN _
  generalize w3.drewN n4 = w4 at *
  go_wp2_with (go_at_call 11; go_in)
  refine (take_ok _ h4).mono ?_
  rintro e w5 ⟨rfl, f5, cs5, h5, k5⟩
  go_wp2_with (go_at_call 11; go_in)
  refine (at_ok 0 _ h5 rfl).mono ?_
  rintro e w6 ⟨rfl, n6, rfl⟩
  have h6 := h5.drewN n6
  have k6 : Kept (fun _ => False) w5 (w5.drewN n6) := (Kept.refl _ _).drewN _
  generalize w5.drewN n6 = w6 at *
  go_wp2_with (first
    | (go_at_call 11; go_in)
    | (go_at_call 43; refine (len_ok h6).mono ?_; rintro e w' ⟨rfl, rfl⟩)
    | (go_at_call 44; refine (high_ok h6).mono ?_; rintro e w' ⟨rfl, rfl⟩)
    | (go_at_call 45; refine (room_ok h6).mono ?_; rintro e w' ⟨rfl, rfl⟩))
  go_ret
  refine ⟨rfl, ?_⟩
  have g0 : ∀ i, foot w.heap.size (.slice none 0 0) i → w.heap.size ≤ i := by
    rintro i (rfl | h)
    · exact Nat.le_refl _
    · simp [Value.ownBlock] at h
  have g1 : ∀ i, foot w.heap.size v1 i → w.heap.size ≤ i := fun i hi => (t1 i hi).elim (g0 i) (fun h => by omega)
  have q1 := k0.then k1 (fun i hi => Or.inr (g0 i hi))
  have g2 : ∀ i, foot w.heap.size v2 i → w.heap.size ≤ i := fun i hi => (t2 i hi).elim (g1 i) (fun h => by have := q1.size; omega)
  have q2 := q1.then k2 (fun i hi => Or.inr (g1 i hi))
  have q4 := (q2.then k3 (fun i hi => Or.inl hi)).then k4 (fun i hi => Or.inl hi)
  exact (q4.then k5 (fun i hi => Or.inr (g2 i hi))).then k6 (fun i hi => Or.inl hi)

end Go.Proofs.Ytibgoipdaeaigaa.RS
