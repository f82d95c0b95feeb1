/- Package ready: Len, Clear. -/
import Derived.Test.YtdjdnfjfomeldaaRdyS
import Derived.Deep.MidRow
namespace Go.Proofs.Ytdjdnfjfomeldaa.QD
open Go.RowKit Go.Fr Go.Rq

section
variable {w : World} {b : Nat} {cells : List Value} {R : List Rd} {st : List En} {B : Nat} {mk : Bool}

theorem IsQ.range (hs : IsQ w b cells R st B mk) : w.rangeAt b 1 cells := fun _ _ hv => hs.cell hv
theorem info64 : (Try.prog.info? 58).map (·.size) = some 64 := by kernel_rfl

theorem run_idx {cells : List Value} {k : Nat} {v : Value} (hk : k < 64) (hv : cells[k]? = some v) (w : World) : (Instr.index 58 (.agg cells.toArray) (.int .i64 (k : Int))).run Try.prog w = .ok v w := by
  have h0 : (0 : Int) ≤ (k : Int) ∧ (k : Int) < 64 := by omega
  have hz : (sizeOf 57).run Try.prog w = .ok 1 w := by kernel_rfl
  have ha : (isAgg 57).run Try.prog w = .ok false w := by kernel_rfl
  simp [Instr.index, run_underlying Try.underlying58, asIntOf, h0, hz, part, hv, go_sem]
  intro h; omega

theorem lenp_ok (p : Int) (hs : IsQ w b cells R st B mk) : Calls Try.prog 38 #[.pointer (ringPtr R st p)] w fun e w' => e = .returned (.int .i64 (lenAt st p)) ∧ w = w' := by
  unfold lenAt
  cases h : idx st p with
  | none => rw [ringPtr_none h]; exact nil_len w
  | some i =>
    obtain ⟨e, h1, h2, _⟩ := idx_some h
    obtain ⟨r, hr⟩ := hs.rd h1
    rw [ringPtr_some h hr]
    simp only [Option.bind_some, h1, Option.map_some, Option.getD_some]
    exact RI.len_ok (hs.has i e r h1 hr).2

set_option maxRecDepth 100000 in
set_option maxHeartbeats 2000000 in
theorem len_ok (hs : IsQ w b cells R st B mk) : Calls Try.prog 20 #[.pointer (some ⟨b, 0, none⟩)] w fun e w' => e = .returned (.int .i64 ((allQ st).length)) ∧ w = w' := by
  have hr := hs.range
  have h64 := hs.n64
  have hi := info64
  rw [← h64] at hi
  have hall := lenB_all hs.falls.lt
  go_enter Try.func20, Try.ntmps20
  go_wp2_with (refine wpList_load_mid rfl 58 _ rfl b 1 rfl cells _ hr Try.underlying58 rfl hi ?_)
  go_loopw [3, 5, 12] (fun n _ i wr => ∃ P : Nat, P ≤ 64 ∧ i = .int .i64 P ∧ n = .int .i64 (lenB st P) ∧ w = wr) (fun _ _ i _ => 64 - (intOf i).toNat)
  case atStart => exact ⟨0, by omega, rfl, by rw [lenB_zero]; rfl, rfl⟩
  case round =>
    obtain ⟨P, hP, rfl, rfl, rfl⟩ := hrel
    by_cases hlt : P < 64
    · have hc := hs.slot hlt
      have hl := lenp_ok (P : Int) hs
      have hsu := lenB_succ hs.falls P
      have hle := lenB_le hs.falls (P + 1)
      have hix := run_idx hlt hc
      have hw : RowKit.wrap64 (((lenB st P : Nat) : Int) + ((lenAt st P : Nat) : Int)) = ((lenB st (P + 1) : Nat) : Int) := by rw [IntWalk.wrap64_in _ (by omega)]; omega
      have hP0 : (0 : Int) ≤ (P : Int) := by omega
      have hP1 : (P : Int) < 64 := by omega
      go_wp2_with (go_at_call 38; refine hl.mono ?_; rintro e w' ⟨rfl, rfl⟩)
      go_roundw
      case rel => exact ⟨P + 1, by omega, by go_num, by rw [hsu]; push_cast; rfl, by first | rfl | trivial⟩
      case measure => simp [intOf]; omega
    · obtain rfl : P = 64 := by omega
      go_wp2
      go_ret
      first | exact ⟨rfl, rfl⟩ | exact ⟨by rw [← hall]; rfl, rfl⟩
end
end Go.Proofs.Ytdjdnfjfomeldaa.QD
