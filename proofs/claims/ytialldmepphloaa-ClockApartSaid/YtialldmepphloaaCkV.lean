/- The document's clock: Abs. -/
import Derived.Test.YtialldmepphloaaCkT
import Derived.StillTailTactics
namespace Go.Proofs.Ytialldmepphloaa.CR
open Go.RowKit Go.Fr Go.Proofs.Ytialldmepphloaa.CK

section
variable {w : World} {b : Nat} {v : Value} {nm : ByteArray} {bs m n x : Nat} {l : List (Bool × Nat × Nat)}
set_option maxRecDepth 100000 in
set_option maxHeartbeats 4000000 in
theorem abs_all (i : Int) (t cy : Nat) (ht : t ≤ 4294967295) (hm : m ≤ 2147483647) (hxm : x ≤ m) (hs : IsRef w b v nm bs m n x l) : Calls Try.prog 47 #[.pointer (some ⟨b, 0, none⟩), .int .i64 i, .int .u32 t, .int .u32 cy] w fun e w' =>
    e = .returned (.int .i64 (putL l i (decide (t ≤ m) && cycB n m cy) (until' m x t) cy).2) ∧ IsRef w' b v nm bs m n x (putL l i (decide (t ≤ m) && cycB n m cy) (until' m x t) cy).1 ∧ Kept (foot b v) w w' := by
  have c2 := hs.1.cell 2 rfl
  have c5 := hs.1.cell 5 rfl
  have hcy := fun k => cycle_ok cy (hs.drewN k)
  have hun := fun w => runtil_ok m x t (by omega) (by omega) ht w
  obtain ⟨U, hU⟩ : ∃ U, until' m x t = U := ⟨_, rfl⟩
  simp only [hU] at hun ⊢
  obtain ⟨q, hq⟩ : ∃ q, cycB n m cy = q := ⟨_, rfl⟩
  simp only [hq] at hcy ⊢
  clear hU hq
  have hp := fun k r => put_all i r U cy (hs.drewN k)
  clear hs
  by_cases h2 : t ≤ m
  · have d2 : decide ((t : Int) ≤ (m : Int)) = true := by simp; omega
    rw [decide_eq_true h2, Bool.true_and]
    go_enter Try.func47, Try.ntmps47
    go_wp2
    refine wp_region_noPanic ?_
    go_region_held3 (fun w' => w'.cell? ⟨b, 2, none⟩ = some (.int .u32 m) ∧ w'.cell? ⟨b, 5, none⟩ = some (.int .u32 x)) (first | (simp [*]; done) | exact ⟨q1.1.cell 2 rfl, q1.1.cell 5 rfl⟩ | fail)
      (first
        | (go_at_call 59; refine (hcy _).mono ?_; rintro e w' ⟨rfl, rfl⟩)
        | (go_at_call 17; refine (hun _).mono ?_; rintro e w' ⟨rfl, rfl⟩)
        | (go_at_call 58; refine (hp _ q).mono ?_; rintro e w1 ⟨rfl, q1, k1⟩))
    refine NoPanic.normal ?_
    go_wp2
    go_ret
    exact ⟨rfl, q1, k1.undrew⟩
  · have d2 : decide ((t : Int) ≤ (m : Int)) = false := by simp; omega
    rw [decide_eq_false h2, Bool.false_and]
    have d3 : decide (t ≤ m) = false := by simpa using h2
    have d4 : ¬ ((t : Int) ≤ (m : Int)) := by omega
    have d5 : decide (m < t) = true := by simp; omega
    have d6 : decide ((m : Int) < (t : Int)) = true := by simp; omega
    go_enter Try.func47, Try.ntmps47
    go_wp2
    go_still_tail 26, (by kernel_rfl)
    still_call ((hun _).mono (by rintro e w' ⟨rfl, rfl⟩; exact ⟨rfl, rfl⟩))
    repeat still_step
    refine wpStill_nil ?_
    go_wp2_with (go_at_call 58; refine (hp 1 false).mono ?_; rintro e w1 ⟨rfl, q1, k1⟩)
    go_ret
    exact ⟨rfl, q1, k1.undrew⟩
end
end Go.Proofs.Ytialldmepphloaa.CR
