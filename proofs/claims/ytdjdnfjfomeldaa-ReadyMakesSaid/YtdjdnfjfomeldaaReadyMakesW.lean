/- ReadyMakes: every row of rings. -/
import Derived.Test.YtdjdnfjfomeldaaRdyLd
namespace Go.Proofs.Ytdjdnfjfomeldaa.readyMakesW
open Go.RowKit Go.Fr Go.Rq Go.Proofs.Ytdjdnfjfomeldaa.RL
attribute [local go_sem] Oper.semAt_some
set_option maxRecDepth 100000 in
set_option maxHeartbeats 4000000 in
theorem walk (w : World) (a0 : Option Addr) (cap0 : Nat) (l0 : List (Int × Int)) (hl0 : l0.length ≤ cap0) (hm0 : cap0 ≤ maxLen) (hc0 : CameL w 2 (encKK .i64 .i64) a0 l0)
    (_ : ∀ x ∈ l0, (Lit.int .i64 x.1).wf = true ∧ (Lit.int .i64 x.2).wf = true) (hr0 : l0.length * 16 ≤ 140737488351232) :
    Calls Try.prog 4 #[.slice a0 l0.length cap0] w fun e w' => e = .returned (.bool true) ∧ Below w.heap.size w w' := by
  have hmx : l0.length ≤ maxLen := Nat.le_trans hl0 hm0
  unfold maxLen at hmx
  have hmade := made_ok a0 cap0 l0 w hmx (by omega) hc0
  clear hc0
  go_enter Try.func4, Try.ntmps4
  go_upto_region 2 with (go_at_call 8; refine hmade.mono ?_; rintro e w1 (⟨rfl, k1⟩ | ⟨b, p, rfl, hq⟩))
  · have K1 := Lib.hid k1
    clear hmade k1
    go_wp2_with (go_at_call 9; refine (heads_ok _).mono ?_; rintro e w2 ⟨rfl, k2⟩)
    go_ret
    exact ⟨rfl, (K1.out.then k2 (fun _ x => x.elim)).below (Nat.le_refl _) (fun _ h => h.elim)⟩
  · have HQ := Lib.hid hq
    clear hmade hq
    go_wp2_with (first
      | (go_at_call 9; refine (heads_ok _).mono ?_; rintro e w2 ⟨rfl, k2⟩)
      | (go_at_call 16; refine ((HQ.out.same k2).tells 64).mono ?_; rintro e w3 ⟨rfl, k3⟩))
    go_ret
    exact ⟨rfl, ((HQ.out.kept.then k2 (fun _ x => x.elim)).then k3 (fun _ x => x.elim)).below (Nat.le_refl _) (fun _ h => h.elim)⟩
end Go.Proofs.Ytdjdnfjfomeldaa.readyMakesW
