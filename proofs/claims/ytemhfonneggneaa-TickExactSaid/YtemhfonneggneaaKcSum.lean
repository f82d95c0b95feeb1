/- Package clock and the document's: After, Next, Until. -/
import Derived.Test.YtemhfonneggneaaFrame
import Derived.Test.YtemhfonneggneaaRows
namespace Go.Proofs.Ytemhfonneggneaa.CK
open Go.RowKit Go.Fr

def after (g n t : Nat) : Nat := (min n g + t % (g + 1)) % (g + 1)
def until' (g n v : Nat) : Nat := if min n g < min v g then min v g - min n g else g + 1 - min n g + min v g

theorem minOf {a b : Nat} : (if (b : Int) < (a : Int) then (b : Int) else (a : Int)) = ((min a b : Nat) : Int) := by split <;> omega

theorem after_num (g m t : Nat) (hg : g ≤ 4294967295) (hm : m ≤ g) :
    (IntKind.u64.wrap ((m : Int) + (t : Int) % ((g : Int) + 1))).tmod ((g : Int) + 1) % 4294967296 = (((m + t % (g + 1)) % (g + 1) : Nat) : Int) := by
  have e : (t : Int) % ((g : Int) + 1) = ((t % (g + 1) : Nat) : Int) := by push_cast; rfl
  have hlt : t % (g + 1) < g + 1 := Nat.mod_lt _ (by omega)
  have e2 : IntKind.u64.wrap ((m : Int) + ((t % (g + 1) : Nat) : Int)) = ((m + t % (g + 1) : Nat) : Int) := by rw [IntWalk.u64_in _ (by omega)]; push_cast; rfl
  rw [e, e2, show ((g : Int) + 1) = ((g + 1 : Nat) : Int) by push_cast; rfl, Int.tmod_eq_emod_of_nonneg (by omega), ← Int.natCast_emod]
  have hlt2 : (m + t % (g + 1)) % (g + 1) < g + 1 := Nat.mod_lt _ (by omega)
  omega

set_option maxRecDepth 100000 in
theorem after_ok (g n t : Nat) (hg : g ≤ 4294967295) (hn : n ≤ 4294967295) (ht : t ≤ 18446744073709551615) (w : World) :
    Calls Try.prog 85 #[.int .u32 g, .int .u32 n, .int .u64 t] w fun e w' => e = .returned (.int .u32 (after g n t)) ∧ w = w' := by
  have h1 : IntKind.u64.wrap ((g : Int) + 1) = ((g + 1 : Nat) : Int) := by rw [IntWalk.u64_in _ (by omega)]; omega
  rcases Nat.lt_or_ge g n with hlt | hge
  · have e : after g n t = (g + t % (g + 1)) % (g + 1) := by unfold after; rw [Nat.min_eq_right (by omega)]
    rw [e, ← after_num g g t hg (Nat.le_refl _)]
    go_enter Try.func85, Try.ntmps85
    go_wp2
    go_ret
    exact ⟨rfl, rfl⟩
  · have e : after g n t = (n + t % (g + 1)) % (g + 1) := by unfold after; rw [Nat.min_eq_left (by omega)]
    rw [e, ← after_num g n t hg (by omega)]
    go_enter Try.func85, Try.ntmps85
    go_wp2
    go_ret
    exact ⟨rfl, rfl⟩

set_option maxRecDepth 100000 in
theorem until_ok (g n v : Nat) (hg : g ≤ 4294967295) (hn : n ≤ 4294967295) (hv : v ≤ 4294967295) (w : World) :
    Calls Try.prog 67 #[.int .u32 g, .int .u32 n, .int .u32 v] w fun e w' => e = .returned (.int .u64 (until' g n v)) ∧ w = w' := by
  unfold until'
  rcases Nat.lt_or_ge g n with h1 | h1 <;> rcases Nat.lt_or_ge g v with h2 | h2
  · rw [Nat.min_eq_right (Nat.le_of_lt h1), Nat.min_eq_right (Nat.le_of_lt h2)]
    rw [if_neg (Nat.lt_irrefl _)]
    go_enter Try.func67, Try.ntmps67
    go_wp2
    go_ret
    refine ⟨?_, rfl⟩
    show Ending.returned (Value.int .u64 _) = Ending.returned (Value.int .u64 _)
    congr 2
    omega
  · rw [Nat.min_eq_right (Nat.le_of_lt h1), Nat.min_eq_left h2]
    by_cases h3 : g < v
    · rw [if_pos h3]
      go_enter Try.func67, Try.ntmps67
      go_wp2
      go_ret
      refine ⟨?_, rfl⟩
      show Ending.returned (Value.int .u64 _) = Ending.returned (Value.int .u64 _)
      congr 2
      omega
    · rw [if_neg h3]
      go_enter Try.func67, Try.ntmps67
      go_wp2
      go_ret
      refine ⟨?_, rfl⟩
      show Ending.returned (Value.int .u64 _) = Ending.returned (Value.int .u64 _)
      congr 2
      omega
  · rw [Nat.min_eq_left h1, Nat.min_eq_right (Nat.le_of_lt h2)]
    by_cases h3 : n < g
    · rw [if_pos h3]
      go_enter Try.func67, Try.ntmps67
      go_wp2
      go_ret
      refine ⟨?_, rfl⟩
      show Ending.returned (Value.int .u64 _) = Ending.returned (Value.int .u64 _)
      congr 2
      omega
    · rw [if_neg h3]
      go_enter Try.func67, Try.ntmps67
      go_wp2
      go_ret
      refine ⟨?_, rfl⟩
      show Ending.returned (Value.int .u64 _) = Ending.returned (Value.int .u64 _)
      congr 2
      omega
  · rw [Nat.min_eq_left h1, Nat.min_eq_left h2]
    by_cases h3 : n < v
    · rw [if_pos h3]
      go_enter Try.func67, Try.ntmps67
      go_wp2
      go_ret
      refine ⟨?_, rfl⟩
      show Ending.returned (Value.int .u64 _) = Ending.returned (Value.int .u64 _)
      congr 2
      omega
    · rw [if_neg h3]
      go_enter Try.func67, Try.ntmps67
      go_wp2
      go_ret
      refine ⟨?_, rfl⟩
      show Ending.returned (Value.int .u64 _) = Ending.returned (Value.int .u64 _)
      congr 2
      omega

def until2 (g a b : Nat) : Nat := if a < b then b - a else g + 1 - a + b
theorem until2_eq (g n v : Nat) : until' g n v = until2 g (min n g) (min v g) := rfl

end Go.Proofs.Ytemhfonneggneaa.CK
