/- R1, the walk: a table that no call made. -/
import Derived.Test.YtmljnhhjjaibbaaEvtD
namespace Go.Proofs.Ytmljnhhjjaibbaa.eventNobodyW
open Go.RowKit Go.Fr Go.Proofs.Ytmljnhhjjaibbaa.EV

set_option maxRecDepth 100000 in
set_option maxHeartbeats 1000000 in
theorem walk (w : World) (a0 : Int) (_ : (Lit.int .i64 a0).wf = true) (a1 : Int) (_ : (Lit.int .u32 a1).wf = true) :
    Calls Try.prog 5 #[.int .i64 a0, .int .u32 a1] w fun e w' => e = .returned (.bool true) ∧ Below w.heap.size w w' := by
  have hb := z_run
  have hs := z_size
  have hn := z_ne
  have hz0 : Z[0]? = some (.bool false) := by unfold Z; simp
  have hz1 : Z[1]? = some (.int .i64 0) := by unfold Z; simp
  have hd : ∀ w : World, DeadT (w.alloc (.cells Z 59)) (some ⟨w.heap.size, 0, none⟩) := fun w =>
    Or.inr ⟨w.heap.size, rfl, by rw [cell_of_row _ _ _ _ _ _ (heap_alloc_new w _), hz0], by rw [cell_of_row _ _ _ _ _ _ (heap_alloc_new w _), hz1]⟩
  clear hz0 hz1
  go_enter Try.func5, Try.ntmps5
  go_wp2_with fail
  refine (nobody_ok a0 a1 (Or.inl rfl)).mono ?_
  rintro e w' ⟨rfl, q, rfl⟩
  go_wp2_with fail
  have hd2 := (hd w).drewN q
  refine (nobody_ok a0 a1 hd2).mono ?_
  rintro e w' ⟨rfl, q2, rfl⟩
  go_wp2_with fail
  refine (heads_law _).mono ?_
  rintro e w9 ⟨rfl, k9⟩
  go_wp2
  go_ret
  have kk : Kept (fun _ => False) w w9 := Kept.then ((((Kept.refl (fun _ => False) w).alloc _).drewN (q + q2))) k9 (fun _ h => False.elim h)
  exact ⟨rfl, kk.below (Nat.le_refl _) (fun _ h => False.elim h)⟩
end Go.Proofs.Ytmljnhhjjaibbaa.eventNobodyW
