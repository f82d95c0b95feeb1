/- Package table: tick, action. -/
import Derived.Test.YtnfpiocjdhipcaaTbC
import Derived.Deep.Light
namespace Go.Proofs.Ytnfpiocjdhipcaa.TC
open Go.RowKit Go.Fr Go.Tb
attribute [local go_sem] Oper.semAt_some
theorem tick_ok (n : Int) (w : World) : Calls Try.prog 89 #[.int .u32 n] w fun e w' => BoolIs e (1 ≤ n ∧ n ≤ 2147483647) ∧ w = w' := by
  go_enter Try.func89, Try.ntmps89
  go_wp2_with fail
  all_goals
    go_ret
    refine ⟨bool_is _ ?_, rfl⟩
    simp only [decide_eq_true_eq, Bool.false_eq_true, false_iff]
    omega

theorem tick_dec (n : Int) (w : World) : Calls Try.prog 89 #[.int .u32 n] w fun e w' => e = .returned (.bool (decide (1 ≤ n ∧ n ≤ 2147483647))) ∧ w = w' := by
  refine (tick_ok n w).mono ?_
  rintro e w' ⟨⟨b, rfl, hb⟩, rfl⟩
  refine ⟨?_, rfl⟩
  rw [show b = decide (1 ≤ n ∧ n ≤ 2147483647) by rw [Bool.eq_iff_iff, hb, decide_eq_true_eq]]

/-- an action of a kind from lo to hi may be -/
def ActP (T : Tb) (kind task mask lo hi : Int) : Prop := lo ≤ kind ∧ kind ≤ hi ∧
  ((kind ≠ 1 ∧ kind ≠ 2 ∧ task = 0 ∧ mask = 0) ∨ ((kind = 1 ∨ kind = 2) ∧ 0 ≤ task ∧ task < T.tasks.length ∧ ((kind = 1 ∧ mask = 0) ∨ (kind = 2 ∧ mask ≠ 0 ∧ ∃ x, T.tasks[task.toNat]? = some x ∧ bits .andNot .u32 mask x.mask = 0))))

set_option maxRecDepth 100000 in
set_option maxHeartbeats 4000000 in
theorem action_ok {w : World} {T : Tb} (kind task mask lo hi : Int) (hT : TabIn w T) (hW : T.Wf) :
    Calls Try.prog 90 #[.agg T.cells.toArray, .agg #[.int .i64 kind, .int .i64 task, .int .u32 mask], .int .i64 lo, .int .i64 hi] w fun e w' => BoolIs e (ActP T kind task mask lo hi) ∧ Kept (fun _ => False) w w' := by
  have k0 : Kept (fun _ => False) w ((box w T).alloc (.cells #[.int .i64 kind, .int .i64 task, .int .u32 mask] 139)) := ((Kept.refl _ w).alloc _).alloc _
  have nb : Blk ((box w T).alloc (.cells #[.int .i64 kind, .int .i64 task, .int .u32 mask] 139)) w.heap.size T.cells 30 := (Blk.new w T.cells 30).alloc _
  have na := Blk.new (box w T) [.int .i64 kind, .int .i64 task, .int .u32 mask] 139
  have hz : (box w T).heap.size = w.heap.size + 1 := World.size_alloc _ _
  rw [hz] at na
  have c2 := nb.cell 2 rfl
  have y0 := na.cell 0 rfl
  have y1 := na.cell 1 rfl
  have y2 := na.cell 2 rfl
  have hle := hW.lens.1
  have HT1 := Lib.hid (camel_same hT.tasks k0)
  have K0 := Lib.hid k0
  clear hT hW nb na k0 hz
  have ht : (∃ n : Nat, task = (n : Int) ∧ n < T.tasks.length) ∨ ¬ (0 ≤ task ∧ task < (T.tasks.length : Int)) := by
    by_cases h : 0 ≤ task ∧ task < (T.tasks.length : Int)
    · exact Or.inl ⟨task.toNat, by omega, by omega⟩
    · exact Or.inr h
  obtain ⟨w1, hw1⟩ : ∃ w1, box w T = w1 := ⟨_, rfl⟩
  obtain ⟨B, hB⟩ : ∃ B, w.heap.size = B := ⟨_, rfl⟩
  rw [hw1] at K0 HT1 c2 y0 y1 y2
  rw [hB] at c2 y0 y1 y2
  have hs : T.cells.toArray.size = 13 := rfl
  have hn0 : (T.cells.toArray = #[]) = False := by simp [Tb.cells]
  unfold box at hw1
  generalize T.cells.toArray = Z at hw1 hs hn0 ⊢
  have hz1 : w1.heap.size = B + 1 := by rw [← hw1, World.size_alloc, hB]
  go_enter Try.func90, Try.ntmps90
  go_upto_region 1 with fail
  obtain ⟨w2, hw2⟩ : ∃ w2, w1.alloc (.cells #[.int .i64 kind, .int .i64 task, .int .u32 mask] 139) = w2 := ⟨_, rfl⟩
  rw [hw2] at K0 HT1 c2 y0 y1 y2 ⊢
  clear hs hn0 hw1 hB hw2 hz1
  rcases ht with ⟨n, rfl, hn⟩ | hout
  · obtain ⟨x, hx, _⟩ := at_of hn
    obtain ⟨b2, off2, hta, hb2, hcl2⟩ := camel_at HT1.out hx
    have f4 := hcl2 4 _ rfl
    rw [hta] at c2
    have HX := Lib.hid hx
    have n0 : (0 : Int) ≤ (n : Int) := by omega
    have n1 : (n : Int) < (T.tasks.length : Int) := by omega
    clear hcl2 hx hta
    have ex : ∀ m, (∃ y, T.tasks[((n : Nat) : Int).toNat]? = some y ∧ bits .andNot .u32 m y.mask = 0) ↔ bits .andNot .u32 m x.mask = 0 := by
      intro m
      rw [show ((n : Nat) : Int).toNat = n from Int.toNat_natCast n, HX.out]
      exact ⟨fun ⟨y, h, h2⟩ => by cases h; exact h2, fun h => ⟨x, rfl, h⟩⟩
    have EX := Lib.hid ex
    clear ex
    by_cases hm : mask = 0
    · subst hm
      go_wp2_with fail
      all_goals first
        | (go_ret
           refine ⟨bool_is _ ?_, K0.out⟩
           unfold ActP
           rw [EX.out]
           go_light
           grind)
        | (go_quiet (fail)
           go_wp2_with fail
           go_ret
           refine ⟨bool_is _ ?_, K0.out.drewN _⟩
           unfold ActP
           rw [EX.out]
           go_light
           grind)
    · have m0 : (mask != 0) = true := by simpa using hm
      have m1 : (mask == 0) = false := by simpa using hm
      go_wp2_with fail
      all_goals first
        | (go_ret
           refine ⟨bool_is _ ?_, K0.out⟩
           unfold ActP
           rw [EX.out]
           go_light
           grind)
        | (go_quiet (fail)
           go_wp2_with fail
           go_ret
           refine ⟨bool_is _ ?_, K0.out.drewN _⟩
           unfold ActP
           rw [EX.out]
           go_light
           grind)
  · go_wp2_with fail
    all_goals
      go_ret
      refine ⟨bool_is _ ?_, K0.out⟩
      unfold ActP
      go_light
      grind
end Go.Proofs.Ytnfpiocjdhipcaa.TC
