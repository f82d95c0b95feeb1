/- Package clock and the document's: After, Next, Until. -/
import Derived.Test.YtialldmepphloaaFrame
import Derived.Test.YtialldmepphloaaRows
namespace Go.Proofs.Ytialldmepphloaa.CK
open Go.RowKit Go.Fr

def after (g n t : Nat) : Nat := (min n g + t % (g + 1)) % (g + 1)
def until' (g n v : Nat) : Nat := if min n g < min v g then min v g - min n g else g + 1 - min n g + min v g

theorem minOf {a b : Nat} : (if (b : Int) < (a : Int) then (b : Int) else (a : Int)) = ((min a b : Nat) : Int) := by split <;> omega

theorem after_num (g m t : Nat) (hg : g ≤ 4294967295) (hm : m ≤ g) :
    (IntKind.u64.wrap ((m : Int) + (t : Int) % ((g : Int) + 1))).tmod ((g : Int) + 1) % 4294967296 = (((m + t % (g + 1)) % (g + 1) : Nat) : Int) := by
  have e : (t : Int) % ((g : Int) + 1) = ((t % (g + 1) : Nat) : Int) := by push_cast; rfl
  have hlt : t % (g + 1) < g + 1 := Nat.mod_lt _ (by omega)
  have e2 : IntKind.u64.wrap ((m : Int) + ((t % (g + 1) : Nat) : Int)) = ((m + t % (g + 1) : Nat) : Int) := by rw [IntWalk.u64_in _ (by omega)]; push_cast; rfl
  rw [e, e2, show ((g : Int) + 1) = ((g + 1 : Nat) : Int) by push_cast; rfl, Int.tmod_eq_emod_of_nonneg (by omega), ← Int.natCast_emod]
  have hlt2 : (m + t % (g + 1)) % (g + 1) < g + 1 := Nat.mod_lt _ (by omega)
  omega

theorem after_ok (g n t : Nat) (hg : g ≤ 4294967295) (hn : n ≤ 4294967295) (ht : t ≤ 18446744073709551615) (w : World) :
    Calls Try.prog 14 #[.int .u32 g, .int .u32 n, .int .u64 t] w fun e w' => e = .returned (.int .u32 (after g n t)) ∧ w = w' := by
  have h1 : IntKind.u64.wrap ((g : Int) + 1) = ((g + 1 : Nat) : Int) := by rw [IntWalk.u64_in _ (by omega)]; omega
  rcases Nat.lt_or_ge g n with hlt | hge
  · have e : after g n t = (g + t % (g + 1)) % (g + 1) := by unfold after; rw [Nat.min_eq_right (by omega)]
    rw [e, ← after_num g g t hg (Nat.le_refl _)]
    go_enter Try.func14, Try.ntmps14
    go_wp2
    go_ret
    exact ⟨rfl, rfl⟩
  · have e : after g n t = (n + t % (g + 1)) % (g + 1) := by unfold after; rw [Nat.min_eq_left (by omega)]
    rw [e, ← after_num g n t hg (by omega)]
    go_enter Try.func14, Try.ntmps14
    go_wp2
    go_ret
    exact ⟨rfl, rfl⟩

theorem until_ok (g n v : Nat) (hg : g ≤ 4294967295) (hn : n ≤ 4294967295) (hv : v ≤ 4294967295) (w : World) :
    Calls Try.prog 16 #[.int .u32 g, .int .u32 n, .int .u32 v] w fun e w' => e = .returned (.int .u64 (until' g n v)) ∧ w = w' := by
  unfold until'
  rcases Nat.lt_or_ge g n with h1 | h1 <;> rcases Nat.lt_or_ge g v with h2 | h2
  · rw [Nat.min_eq_right (Nat.le_of_lt h1), Nat.min_eq_right (Nat.le_of_lt h2)]
    rw [if_neg (Nat.lt_irrefl _)]
    go_enter Try.func16, Try.ntmps16
    go_wp2
    go_ret
    refine ⟨?_, rfl⟩
    show Ending.returned (Value.int .u64 _) = Ending.returned (Value.int .u64 _)
    congr 2
    omega
  · rw [Nat.min_eq_right (Nat.le_of_lt h1), Nat.min_eq_left h2]
    by_cases h3 : g < v
    · rw [if_pos h3]
      go_enter Try.func16, Try.ntmps16
      go_wp2
      go_ret
      refine ⟨?_, rfl⟩
      show Ending.returned (Value.int .u64 _) = Ending.returned (Value.int .u64 _)
      congr 2
      omega
    · rw [if_neg h3]
      go_enter Try.func16, Try.ntmps16
      go_wp2
      go_ret
      refine ⟨?_, rfl⟩
      show Ending.returned (Value.int .u64 _) = Ending.returned (Value.int .u64 _)
      congr 2
      omega
  · rw [Nat.min_eq_left h1, Nat.min_eq_right (Nat.le_of_lt h2)]
    by_cases h3 : n < g
    · rw [if_pos h3]
      go_enter Try.func16, Try.ntmps16
      go_wp2
      go_ret
      refine ⟨?_, rfl⟩
      show Ending.returned (Value.int .u64 _) = Ending.returned (Value.int .u64 _)
      congr 2
      omega
    · rw [if_neg h3]
      go_enter Try.func16, Try.ntmps16
      go_wp2
      go_ret
      refine ⟨?_, rfl⟩
      show Ending.returned (Value.int .u64 _) = Ending.returned (Value.int .u64 _)
      congr 2
      omega
  · rw [Nat.min_eq_left h1, Nat.min_eq_left h2]
    by_cases h3 : n < v
    · rw [if_pos h3]
      go_enter Try.func16, Try.ntmps16
      go_wp2
      go_ret
      refine ⟨?_, rfl⟩
      show Ending.returned (Value.int .u64 _) = Ending.returned (Value.int .u64 _)
      congr 2
      omega
    · rw [if_neg h3]
      go_enter Try.func16, Try.ntmps16
      go_wp2
      go_ret
      refine ⟨?_, rfl⟩
      show Ending.returned (Value.int .u64 _) = Ending.returned (Value.int .u64 _)
      congr 2
      omega

theorem within_ok (g v : Nat) (hg : g ≤ 4294967295) (hv : v ≤ 4294967295) (w : World) :
    Calls Try.prog 35 #[.int .u32 g, .int .u32 v] w fun e w' => e = .returned (.int .u64 ((min v g : Nat) : Int)) ∧ w = w' := by
  rcases Nat.lt_or_ge g v with h1 | h1
  · rw [Nat.min_eq_right (Nat.le_of_lt h1)]
    go_enter Try.func35, Try.ntmps35
    go_wp2
    go_ret
    exact ⟨rfl, rfl⟩
  · rw [Nat.min_eq_left h1]
    go_enter Try.func35, Try.ntmps35
    go_wp2
    go_ret
    exact ⟨rfl, rfl⟩

theorem rafter_ok (g n t : Nat) (hg : g ≤ 4294967295) (hn : n ≤ 4294967295) (ht : t ≤ 18446744073709551615) (w : World) :
    Calls Try.prog 15 #[.int .u32 g, .int .u32 n, .int .u64 t] w fun e w' => e = .returned (.int .u32 (after g n t)) ∧ ∃ k, w' = w.drewN k := by
  obtain ⟨m, hm, em⟩ : ∃ m : Nat, m ≤ g ∧ min n g = m := ⟨_, Nat.min_le_right _ _, rfl⟩
  have e : after g n t = (m + t % (g + 1)) % (g + 1) := by unfold after; rw [em]
  rw [e, ← after_num g m t hg hm]
  have hz : ¬ ((g : Int) + 1 = 0) := by omega
  have hz2 : (((g : Int) + 1) == 0) = false := by simp; omega
  go_enter Try.func15, Try.ntmps15
  go_wp2
  refine wp_region_noPanic ?_
  go_region_held3 (fun w' => True)
    (first | trivial | fail)
    (first
      | (go_at_call 35; refine (within_ok g n hg hn _).mono ?_; rw [em]; rintro e w1 ⟨rfl, rfl⟩))
  refine NoPanic.normal ?_
  go_wp2
  go_ret
  refine ⟨?_, _, rfl⟩
  show Ending.returned (Value.int .u32 (IntKind.u32.wrap _)) = _
  rw [IntKind.wrap_u32, Int.tmod_eq_emod_of_nonneg (a := (t : Int)) (by omega)]

def until2 (g a b : Nat) : Nat := if a < b then b - a else g + 1 - a + b
theorem until2_eq (g n v : Nat) : until' g n v = until2 g (min n g) (min v g) := rfl

theorem runtil_ok (g n v : Nat) (hg : g ≤ 4294967295) (hn : n ≤ 4294967295) (hv : v ≤ 4294967295) (w : World) :
    Calls Try.prog 17 #[.int .u32 g, .int .u32 n, .int .u32 v] w fun e w' => e = .returned (.int .u64 (until' g n v)) ∧ w = w' := by
  obtain ⟨a, ha, ea⟩ : ∃ a : Nat, a ≤ g ∧ min n g = a := ⟨_, Nat.min_le_right _ _, rfl⟩
  obtain ⟨b, hb, eb⟩ : ∃ b : Nat, b ≤ g ∧ min v g = b := ⟨_, Nat.min_le_right _ _, rfl⟩
  rw [until2_eq, ea, eb]
  have hwa := within_ok g n hg hn w
  have hwb := within_ok g v hg hv w
  rw [ea] at hwa
  rw [eb] at hwb
  by_cases h3 : a < b
  · have e : until2 g a b = b - a := if_pos h3
    rw [e]
    go_enter Try.func17, Try.ntmps17
    go_wp2_with fail
    refine hwa.mono ?_
    rintro e w1 ⟨rfl, rfl⟩
    go_wp2_with fail
    refine hwb.mono ?_
    rintro e w1 ⟨rfl, rfl⟩
    go_wp2
    go_ret
    refine ⟨?_, rfl⟩
    show Ending.returned (Value.int .u64 _) = Ending.returned (Value.int .u64 _)
    congr 2
    omega
  · have e : until2 g a b = g + 1 - a + b := if_neg h3
    rw [e]
    go_enter Try.func17, Try.ntmps17
    go_wp2_with fail
    refine hwa.mono ?_
    rintro e w1 ⟨rfl, rfl⟩
    go_wp2_with fail
    refine hwb.mono ?_
    rintro e w1 ⟨rfl, rfl⟩
    go_wp2
    go_ret
    refine ⟨?_, rfl⟩
    show Ending.returned (Value.int .u64 _) = Ending.returned (Value.int .u64 _)
    congr 2
    omega
end Go.Proofs.Ytialldmepphloaa.CK
