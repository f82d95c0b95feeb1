/- Package clock: Rel, Abs, Set. -/
import Derived.Test.YtemhfonneggneaaKc
namespace Go.Proofs.Ytemhfonneggneaa.CK
open Go.RowKit Go.Fr

/-- may the cycle be -/
def cycB (n m cy : Nat) : Bool := decide (cy = 0) || (decide (n ≤ cy) && decide (cy ≤ m))

section
variable {w : World} {b : Nat} {v : Value} {m n x : Nat} {l : List (Bool × Nat × Nat)}

set_option maxRecDepth 100000 in
set_option maxHeartbeats 1000000 in
theorem rel1_ok {bt bc by' t cy : Nat} (hs : IsClk w b v m n x l) (ht : w.cell? ⟨bt, 0, none⟩ = some (.int .u32 t)) (hc : w.cell? ⟨bc, 0, none⟩ = some (.pointer (some ⟨b, 0, none⟩))) (hy : w.cell? ⟨by', 0, none⟩ = some (.int .u32 cy)) :
    Calls Try.prog 68 #[.pointer (some ⟨bt, 0, none⟩), .pointer (some ⟨bc, 0, none⟩), .pointer (some ⟨by', 0, none⟩)] w fun e w' =>
      e = .returned (.bool (decide (1 ≤ t) && decide (t ≤ m) && cycB n m cy)) ∧ ∃ k, w' = w.drewN k := by
  have c1 := hs.1.cell 1 rfl
  have hcy : ∀ k, Calls Try.prog 65 #[.pointer (some ⟨b, 0, none⟩), .int .u32 cy] (w.drewN k) fun e w' => e = .returned (.bool (cycB n m cy)) ∧ w' = w.drewN k := fun k => (cyclic_ok cy (w := w.drewN k) hs).mono (by rintro e w' ⟨rfl, rfl⟩; exact ⟨rfl, rfl⟩)
  by_cases h1 : 1 ≤ t
  · have d1 : decide ((1 : Int) ≤ (t : Int)) = true := by simp; omega
    by_cases h2 : t ≤ m
    · have d2 : decide ((t : Int) ≤ (m : Int)) = true := by simp; omega
      go_enter Try.func68, Try.ntmps68
      go_wp2
      go_quiet (first | (go_at_call 65; refine Calls.quiet_of_same (hcy _)))
      go_wp2
      go_ret
      exact ⟨by simp [h1, h2], _, rfl⟩
    · have d2 : decide ((t : Int) ≤ (m : Int)) = false := by simp; omega
      go_enter Try.func68, Try.ntmps68
      go_wp2
      go_quiet (first | (go_at_call 65; refine Calls.quiet_of_same (hcy _)))
      go_wp2
      go_ret
      exact ⟨by simp [h1, h2], _, rfl⟩
  · have d1 : decide ((1 : Int) ≤ (t : Int)) = false := by simp; omega
    go_enter Try.func68, Try.ntmps68
    go_wp2
    go_quiet (first | (go_at_call 65; refine Calls.quiet_of_same (hcy _)))
    go_wp2
    go_ret
    exact ⟨by simp [h1], _, rfl⟩

set_option maxRecDepth 100000 in
theorem rel2_ok {bt t : Nat} (h : t ≤ 4294967295) (ht : w.cell? ⟨bt, 0, none⟩ = some (.int .u32 t)) :
    Calls Try.prog 69 #[.pointer (some ⟨bt, 0, none⟩)] w fun e w' => e = .returned (.int .u64 t) ∧ w' = w := by
  go_enter Try.func69, Try.ntmps69
  go_wp2
  go_ret
  exact ⟨rfl, rfl⟩

set_option maxRecDepth 100000 in
theorem set2_ok {bt t : Nat} (h : t ≤ 4294967295) (ht : w.cell? ⟨bt, 0, none⟩ = some (.int .u32 t)) :
    Calls Try.prog 91 #[.pointer (some ⟨bt, 0, none⟩)] w fun e w' => e = .returned (.int .u64 t) ∧ w' = w := by
  go_enter Try.func91, Try.ntmps91
  go_wp2
  go_ret
  exact ⟨rfl, rfl⟩

set_option maxRecDepth 100000 in
set_option maxHeartbeats 1000000 in
theorem abs1_ok {bt bc by' t cy : Nat} (hs : IsClk w b v m n x l) (ht : w.cell? ⟨bt, 0, none⟩ = some (.int .u32 t)) (hc : w.cell? ⟨bc, 0, none⟩ = some (.pointer (some ⟨b, 0, none⟩))) (hy : w.cell? ⟨by', 0, none⟩ = some (.int .u32 cy)) :
    Calls Try.prog 64 #[.pointer (some ⟨bt, 0, none⟩), .pointer (some ⟨bc, 0, none⟩), .pointer (some ⟨by', 0, none⟩)] w fun e w' =>
      e = .returned (.bool (decide (t ≤ m) && cycB n m cy)) ∧ ∃ k, w' = w.drewN k := by
  have c1 := hs.1.cell 1 rfl
  have hcy : ∀ k, Calls Try.prog 65 #[.pointer (some ⟨b, 0, none⟩), .int .u32 cy] (w.drewN k) fun e w' => e = .returned (.bool (cycB n m cy)) ∧ w' = w.drewN k := fun k => (cyclic_ok cy (w := w.drewN k) hs).mono (by rintro e w' ⟨rfl, rfl⟩; exact ⟨rfl, rfl⟩)
  by_cases h2 : t ≤ m
  · have d2 : decide ((t : Int) ≤ (m : Int)) = true := by simp; omega
    go_enter Try.func64, Try.ntmps64
    go_wp2
    go_quiet (first | (go_at_call 65; refine Calls.quiet_of_same (hcy _)))
    go_wp2
    go_ret
    exact ⟨by simp [h2], _, rfl⟩
  · have d2 : decide ((t : Int) ≤ (m : Int)) = false := by simp; omega
    go_enter Try.func64, Try.ntmps64
    go_wp2
    go_quiet (first | (go_at_call 65; refine Calls.quiet_of_same (hcy _)))
    go_wp2
    go_ret
    exact ⟨by simp [h2], _, rfl⟩

set_option maxRecDepth 100000 in
set_option maxHeartbeats 1000000 in
theorem abs2_ok {bt bc t : Nat} (h : t ≤ 4294967295) (hs : IsClk w b v m n x l) (ht : w.cell? ⟨bt, 0, none⟩ = some (.int .u32 t)) (hc : w.cell? ⟨bc, 0, none⟩ = some (.pointer (some ⟨b, 0, none⟩))) :
    Calls Try.prog 66 #[.pointer (some ⟨bc, 0, none⟩), .pointer (some ⟨bt, 0, none⟩)] w fun e w' =>
      e = .returned (.int .u64 (until' m x t)) ∧ ∃ k, w' = w.drewN k := by
  have c1 := hs.1.cell 1 rfl
  have c3 := hs.1.cell 3 rfl
  have hm := hs.2.2.2.hmost
  have hx := hs.2.2.2.hvalue
  have hun : ∀ k, Calls Try.prog 67 #[.int .u32 m, .int .u32 x, .int .u32 t] (w.drewN k) fun e w' => e = .returned (.int .u64 (until' m x t)) ∧ w' = w.drewN k := fun k => (until_ok m x t (by omega) (by omega) (by omega) (w.drewN k)).mono (by rintro e w' ⟨rfl, rfl⟩; exact ⟨rfl, rfl⟩)
  go_enter Try.func66, Try.ntmps66
  go_wp2
  go_quiet (first | (go_at_call 67; refine Calls.quiet_of_same (hun _)))
  go_wp2
  go_ret
  exact ⟨rfl, _, rfl⟩

set_option maxRecDepth 100000 in
set_option maxHeartbeats 1000000 in
theorem set1_ok {bt bc by' t cy : Nat} (h : t ≤ 4294967295) (hs : IsClk w b v m n x l) (ht : w.cell? ⟨bt, 0, none⟩ = some (.int .u32 t)) (hc : w.cell? ⟨bc, 0, none⟩ = some (.pointer (some ⟨b, 0, none⟩))) (hy : w.cell? ⟨by', 0, none⟩ = some (.int .u32 cy)) :
    Calls Try.prog 90 #[.pointer (some ⟨bt, 0, none⟩), .pointer (some ⟨bc, 0, none⟩), .pointer (some ⟨by', 0, none⟩)] w fun e w' =>
      e = .returned (.bool (decide (1 ≤ t) && decide (t ≤ m + 1) && decide (cy ≤ m))) ∧ ∃ k, w' = w.drewN k := by
  have c1 := hs.1.cell 1 rfl
  have hm := hs.2.2.2.hmost
  have e1 : IntKind.u64.wrap ((m : Int) + 1) = (m : Int) + 1 := IntWalk.u64_in _ (by omega)
  by_cases h1 : 1 ≤ t
  · have d1 : decide ((1 : Int) ≤ (t : Int)) = true := by simp; omega
    by_cases h2 : t ≤ m + 1
    · have d2 : decide ((t : Int) ≤ (m : Int) + 1) = true := by simp; omega
      go_enter Try.func90, Try.ntmps90
      go_wp2
      go_quiet (fail)
      go_wp2
      go_ret
      exact ⟨by simp [h1, h2], _, rfl⟩
    · have d2 : decide ((t : Int) ≤ (m : Int) + 1) = false := by simp; omega
      go_enter Try.func90, Try.ntmps90
      go_wp2
      go_quiet (fail)
      go_wp2
      go_ret
      exact ⟨by simp [h1, h2], _, rfl⟩
  · have d1 : decide ((1 : Int) ≤ (t : Int)) = false := by simp; omega
    go_enter Try.func90, Try.ntmps90
    go_wp2
    go_quiet (fail)
    go_wp2
    go_ret
    exact ⟨by simp [h1], _, rfl⟩
end
end Go.Proofs.Ytemhfonneggneaa.CK
