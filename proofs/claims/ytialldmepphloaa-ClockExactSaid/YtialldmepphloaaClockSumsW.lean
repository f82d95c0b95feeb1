/- P16.1, the walk. -/
import Derived.Test.YtialldmepphloaaClkA
import Derived.Test.YtialldmepphloaaArgs
namespace Go.Proofs.Ytialldmepphloaa.clockSumsW
open Go.RowKit Go.Fr Go.Proofs.Ytialldmepphloaa.CK

theorem u32_nat {a : Int} (h : (Lit.int .u32 a).wf = true) : ∃ n : Nat, a = n ∧ n ≤ 4294967295 := by
  have hx : 0 ≤ a ∧ a ≤ 4294967295 := by simpa [Lit.wf, IntKind.min, IntKind.max, IntKind.signed, IntKind.bits] using h
  exact ⟨a.toNat, by omega, by omega⟩
theorem u64_nat {a : Int} (h : (Lit.int .u64 a).wf = true) : ∃ n : Nat, a = n ∧ n ≤ 18446744073709551615 := by
  have hx : 0 ≤ a ∧ a ≤ 18446744073709551615 := by simpa [Lit.wf, IntKind.min, IntKind.max, IntKind.signed, IntKind.bits] using h
  exact ⟨a.toNat, by omega, by omega⟩

theorem rnext_ok (g n : Nat) (hg : g ≤ 4294967295) (hn : n ≤ 4294967295) (w : World) :
    Calls Try.prog 13 #[.int .u32 g, .int .u32 n] w fun e w' => e = .returned (.int .u32 (after g n 1)) ∧ ∃ k, w' = w.drewN k := by
  go_enter Try.func13, Try.ntmps13
  go_wp2_with fail
  refine (rafter_ok g n 1 hg hn (by decide) w).mono ?_
  rintro e w1 ⟨rfl, k, rfl⟩
  go_wp2
  go_ret
  exact ⟨rfl, k, rfl⟩

set_option maxRecDepth 100000 in
set_option maxHeartbeats 2000000 in
theorem walk (w : World) (a0 : Int) (w0 : (Lit.int .u32 a0).wf = true) (a1 : Int) (w1 : (Lit.int .u32 a1).wf = true) (a2 : Int) (w2 : (Lit.int .u32 a2).wf = true) (a3 : Int) (w3 : (Lit.int .u64 a3).wf = true) :
    Calls Try.prog 4 #[.int .u32 a0, .int .u32 a1, .int .u32 a2, .int .u64 a3] w fun e w' => e = .returned (.bool true) ∧ Below w.heap.size w w' := by
  obtain ⟨g, rfl, hg⟩ := u32_nat w0
  obtain ⟨n, rfl, hn⟩ := u32_nat w1
  obtain ⟨v, rfl, hv⟩ := u32_nat w2
  obtain ⟨t, rfl, ht⟩ := u64_nat w3
  clear w0 w1 w2 w3
  have c1 := next_ok g n hg hn
  have c2 := rnext_ok g n hg hn
  have c3 := after_ok g n t hg hn ht
  have c4 := rafter_ok g n t hg hn ht
  have c5 := until_ok g n v hg hn hv
  have c6 := runtil_ok g n v hg hn hv
  generalize after g n 1 = x1 at c1 c2
  generalize after g n t = x2 at c3 c4
  generalize until' g n v = x3 at c5 c6
  go_enter Try.func4, Try.ntmps4
  go_wp2_with (first
    | (go_at_call 12; refine (c1 _).mono ?_; rintro e w' ⟨rfl, rfl⟩)
    | (go_at_call 13; refine (c2 _).mono ?_; rintro e w' ⟨rfl, k1, rfl⟩)
    | (go_at_call 14; refine (c3 _).mono ?_; rintro e w' ⟨rfl, rfl⟩)
    | (go_at_call 15; refine (c4 _).mono ?_; rintro e w' ⟨rfl, k2, rfl⟩)
    | (go_at_call 16; refine (c5 _).mono ?_; rintro e w' ⟨rfl, rfl⟩)
    | (go_at_call 17; refine (c6 _).mono ?_; rintro e w' ⟨rfl, rfl⟩)
    | (go_at_call 18; refine (alive_law _).mono ?_; rintro e w9 ⟨rfl, k9⟩))
  go_ret
  have kk : Kept (fun _ => False) w w9 := ⟨k9.os, k9.tape, k9.output, k9.size, k9.block⟩
  exact ⟨rfl, kk.below (Nat.le_refl _) (fun _ h => h.elim)⟩
end Go.Proofs.Ytialldmepphloaa.clockSumsW
