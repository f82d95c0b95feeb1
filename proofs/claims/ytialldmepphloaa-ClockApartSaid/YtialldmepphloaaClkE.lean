/- How what is told to come lies in memory. -/
import Derived.Test.YtialldmepphloaaClkC
namespace Go.Proofs.Ytialldmepphloaa.CK
open Go.RowKit Go.Fr

def encX (p : Nat × Nat) : List Value := [.int .u64 p.1, .int .i64 p.2]
theorem encX_len (p : Nat × Nat) : (encX p).length = 2 := rfl
theorem info_x : (Try.prog.info? 53).map (fun i => (i.zero, i.size, i.bytes)) = some (some (.agg #[.int .u64 0, .int .i64 0]), 2, 16) := by kernel_rfl
theorem encX_ones (l : List (Nat × Nat)) : ∀ u ∈ l.flatMap encX, u.oneCell' = true := by
  intro u hu
  obtain ⟨x, _, hx⟩ := List.mem_flatMap.1 hu
  simp only [encX, List.mem_cons, List.not_mem_nil, or_false] at hx
  rcases hx with rfl | rfl <;> rfl
theorem encX_snoc (O : List (Nat × Nat)) (p : Nat × Nat) : (O ++ [p]).flatMap encX = O.flatMap encX ++ encX p := by simp
end Go.Proofs.Ytialldmepphloaa.CK
