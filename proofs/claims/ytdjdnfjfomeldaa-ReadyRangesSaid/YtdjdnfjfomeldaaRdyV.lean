/- Package ready: Clear. -/
import Derived.Test.YtdjdnfjfomeldaaRdyU
namespace Go.Proofs.Ytdjdnfjfomeldaa.QD
open Go.RowKit Go.Fr Go.Rq

section
variable {w : World} {b : Nat} {cells : List Value} {R : List Rd} {st : List En} {B : Nat} {mk : Bool}

theorem Stepped.then {w1 w2 : World} {R1 R2 : List Rd} {st1 st2 : List En} {B1 B2 : Nat} (h : Stepped w w1 b cells R R1 st1 B1 mk) (h2 : Stepped w1 w2 b cells R1 R2 st2 B2 mk) : Stepped w w2 b cells R R2 st2 B2 mk :=
  ⟨h2.q, h.kept.then h2.kept h.grow, fun i hi => (h2.grow i hi).elim (h.grow i) (fun h3 => Or.inr (Nat.le_trans h.kept.size h3))⟩

theorem clearp_ok (P : Nat) (hF : Falls st) (hs : IsQ w b cells R (clearB st P) B mk) : Calls Try.prog 48 #[.pointer (ringPtr R (clearB st P) (P : Int))] w fun e w' =>
    ∃ R', e = .returned (.int .i64 (lenAt st P)) ∧ Stepped w w' b cells R R' (clearB st (P + 1)) B mk := by
  have hidx := clearB_idx P (P : Int) st
  unfold lenAt
  cases h : idx st (P : Int) with
  | none =>
    rw [h] at hidx
    rw [ringPtr_none hidx, clearB_none h]
    refine (nil_clear w).mono ?_
    rintro e w' ⟨rfl, rfl⟩
    exact ⟨R, rfl, hs.stepped (Kept.refl _ _)⟩
  | some i =>
    rw [h] at hidx
    obtain ⟨e, he, hp, _⟩ := idx_some h
    have he2 := clearB_at (P := P) he
    rw [if_neg (by omega)] at he2
    obtain ⟨r, hr⟩ := hs.rd he2
    rw [ringPtr_some hidx hr, clearB_some hF he (by omega)]
    simp only [Option.bind_some, he, Option.map_some, Option.getD_some]
    refine (RI.clear_ok (hs.has i e r he2 hr).2).mono ?_
    rintro e' w' ⟨rfl, cs', hring, k⟩
    exact ⟨_, rfl, hs.step he2 hr k hring (fun q hq => Or.inl hq)⟩

set_option maxRecDepth 100000 in
set_option maxHeartbeats 2000000 in
theorem clear_ok (hs : IsQ w b cells R st B mk) : Calls Try.prog 23 #[.pointer (some ⟨b, 0, none⟩)] w fun e w' =>
    ∃ R', e = .returned (.int .i64 ((allQ st).length)) ∧ Stepped w w' b cells R R' (clearQ st) 0 mk := by
  have hr := hs.range
  have h64 := hs.n64
  have hF := hs.falls
  have hi := info64
  rw [← h64] at hi
  have hall := lenB_all hs.falls.lt
  have S0 : Hid (Stepped w w b cells R R (clearB st 0) B mk) := by rw [clearB_zero]; exact hs.stepped (Kept.refl _ _)
  go_enter Try.func23, Try.ntmps23
  go_wp2_with (refine wpList_load_mid rfl 58 _ rfl b 1 rfl cells _ hr Try.underlying58 rfl hi ?_)
  clear hr hs
  go_loopw [3, 5, 12] (fun n _ i wr => ∃ (P : Nat) (R' : List Rd), P ≤ 64 ∧ i = .int .i64 P ∧ n = .int .i64 (lenB st P) ∧ Hid (Stepped w wr b cells R R' (clearB st P) B mk)) (fun _ _ i _ => 64 - (intOf i).toNat)
  case atStart => exact ⟨0, R, by omega, rfl, by rw [lenB_zero]; rfl, S0⟩
  case round =>
    clear S0
    obtain ⟨P, R1, hP, rfl, rfl, hS⟩ := hrel
    by_cases hlt : P < 64
    · have hc := hS.out.q.slot hlt
      have hl := clearp_ok P hF hS.out.q
      have hsu := lenB_succ hF P
      have hle := lenB_le hF (P + 1)
      have hix := run_idx hlt hc
      have hw : RowKit.wrap64 (((lenB st P : Nat) : Int) + ((lenAt st P : Nat) : Int)) = ((lenB st (P + 1) : Nat) : Int) := by rw [IntWalk.wrap64_in _ (by omega)]; omega
      have hP0 : (0 : Int) ≤ (P : Int) := by omega
      have hP1 : (P : Int) < 64 := by omega
      go_wp2_with (go_at_call 48; refine hl.mono ?_; rintro e w' ⟨R2, rfl, hS2⟩)
      go_roundw
      case rel => exact ⟨P + 1, R2, by omega, by go_num, by rw [hsu]; push_cast; rfl, hS.out.then hS2⟩
      case measure => simp [intOf]; omega
    · obtain rfl : P = 64 := by omega
      have S2 := hS.out.setBits 0
      rw [clearB_all hF.lt] at S2
      have c65 := hS.out.q.bits
      have f65 := hS.out.q.blk.frozen 65
      have HS2 := Lib.hid S2
      clear S2 hS
      go_wp2
      go_ret
      first | exact ⟨R1, rfl, HS2.out⟩ | exact ⟨R1, by rw [← hall]; rfl, HS2.out⟩
end
end Go.Proofs.Ytdjdnfjfomeldaa.QD
