/- tappetlaw16: told and ints, on a clock and the document's. -/
import Derived.Test.YtialldmepphloaaClkX
import Derived.Test.YtialldmepphloaaCkZ
import Derived.Test.YtialldmepphloaaCkV
import Derived.Test.YtialldmepphloaaCkW
import Derived.Test.YtialldmepphloaaCkP
import Derived.Test.YtialldmepphloaaClkA
import Derived.Deep.QuietTactic
namespace Go.Proofs.Ytialldmepphloaa.L
open Go.RowKit Go.Fr Go.Proofs.Ytialldmepphloaa.CK

section
variable {w : World} {s b : Nat} {v u : Value} {nm : ByteArray} {bs m n x : Nat} {l : List (Bool × Nat × Nat)}

set_option maxRecDepth 100000 in
set_option maxHeartbeats 8000000 in
theorem told_ok (hs : IsClk w s v m n x l) (hr : CR.IsRef w b u nm bs m n x l) : Calls Try.prog 32 #[.pointer (some ⟨s, 0, none⟩), .pointer (some ⟨b, 0, none⟩)] w fun e w' => e = .returned (.bool true) ∧ Kept (fun _ => False) w w' := by
  have hlen := hs.2.2.2.hlen
  have hv : ∀ k, Calls Try.prog 21 #[.pointer (some ⟨s, 0, none⟩)] (w.drewN k) fun e w' => e = .returned (.int .u32 x) ∧ w' = w.drewN k := fun k => (value_ok (w := w.drewN k) (hs.kept ((Kept.refl (fun _ => False) w).drewN k) (fun _ _ h => h))).mono (by rintro e w' ⟨rfl, rfl⟩; exact ⟨rfl, rfl⟩)
  have hL := fun i w' (k : Kept (fun _ => False) w w') => left_ok i (hs.kept k (fun _ _ h => h))
  have hC := fun i w' (k : Kept (fun _ => False) w w') => cycle_ok i (hs.kept k (fun _ _ h => h))
  have hG := fun i w' (k : Kept (fun _ => False) w w') => CR.get_all i (hr.kept k (fun _ _ h => h))
  have hR := fun w' (k : Kept (fun _ => False) w w') => hr.kept k (fun _ _ h => h)
  have c5 := hr.1.cell 5 rfl
  obtain ⟨ar, cr, rfl, _⟩ := row_any hr.2.1
  have HL := Lib.hid hL
  have HC := Lib.hid hC
  have HG := Lib.hid hG
  have HR := Lib.hid hR
  clear hL hC hG hR hs hr
  have xx : ((x : Int) == (x : Int)) = true := by simp
  go_enter Try.func32, Try.ntmps32
  go_upto_region 1 with fail
  go_quiet (first | (go_at_call 21; refine Calls.quiet_of_same (hv _)))
  clear hv
  go_wp2_with fail
  go_loopg [5] (l.length + 2) (fun g i wx => ∃ k : Nat, g = l.length + 2 - k ∧ k ≤ l.length + 2 ∧ i = .int .i64 ((k : Int) - 1) ∧ Hid (Kept (fun _ => False) w wx))
  case atStart => exact ⟨0, rfl, Nat.zero_le _, rfl, (Kept.refl (fun _ => False) w).same rfl rfl rfl rfl⟩
  case round =>
    clear c5
    obtain ⟨k, rfl, hk, rfl, hK⟩ := hrel
    have c6 := (HR.out _ hK.out).1.cell 6 rfl
    by_cases hlt : k < l.length + 2
    · have d1 : decide ((k : Int) - 1 ≤ (l.length : Int)) = true := by simp; omega
      obtain ⟨i, hi⟩ : ∃ i : Int, (k : Int) - 1 = i := ⟨_, rfl⟩
      rw [hi] at d1 ⊢
      have HI := Lib.hid hi
      have hG := fun w' k => HG.out i w' k
      have hL := fun w' k => HL.out i w' k
      have hC := fun w' k => HC.out i w' k
      obtain ⟨st, hst⟩ : ∃ st, ofS l i = st := ⟨_, rfl⟩
      obtain ⟨a, ha⟩ : ∃ a, ofA l i = a := ⟨_, rfl⟩
      simp only [hst, ha] at hG hL hC
      obtain ⟨se, lf, cy⟩ := a
      simp only at hG hL hC
      have HG' := Lib.hid hG
      have HL' := Lib.hid hL
      have HC' := Lib.hid hC
      clear hi hst ha hG hL hC
      go_wp2_with fail
      refine (HG'.out _ hK.out).mono ?_
      rintro e w1 ⟨rfl, k1⟩
      have nb := Blk.new w1 [.bool se, .int .u64 lf, .int .u32 cy] 87
      have kA := (hK.out.then k1 (fun _ h => False.elim h)).alloc (.cells #[.bool se, .int .u64 lf, .int .u32 cy] 87)
      go_wp2_with fail
      refine (HL'.out _ kA).mono ?_
      rintro e w2 ⟨rfl, k2⟩
      have nb2 := nb.kept k2 (fun h => h)
      have kB := kA.then k2 (fun _ h => False.elim h)
      go_wp2_with fail
      refine (HC'.out _ kB).mono ?_
      rintro e w3 ⟨rfl, k3⟩
      have nb3 := nb2.kept k3 (fun h => h)
      have kC := kB.then k3 (fun _ h => False.elim h)
      have y1 := nb3.cell 1 rfl
      have y2 := nb3.cell 2 rfl
      have KC := Lib.hid kC
      clear nb nb2 nb3 kA kB kC k1 k2 k3 c6 d1
      go_wp2
      go_roundg (l.length + 2 - (k + 1))
      case measure => omega
      case rel => exact ⟨k + 1, rfl, by omega, by have := HI.out; rw [show RowKit.wrap64 (i + 1) = i + 1 from IntWalk.wrap64_in _ (by omega)]; congr 1; omega, KC⟩
    · have d1 : decide ((k : Int) - 1 ≤ (l.length : Int)) = false := by simp; omega
      go_wp2
      go_ret
      exact ⟨rfl, hK.out⟩
end

set_option maxRecDepth 100000 in
set_option maxHeartbeats 2000000 in
theorem ints_ok {w : World} {ao1 ao2 : Option Addr} {c1 c2 : Nat} {xs : List Int} (h1 : Row w 3 1 (.slice ao1 xs.length c1) xs.length (xs.map (Value.int .i64))) (h2 : Row w 3 1 (.slice ao2 xs.length c2) xs.length (xs.map (Value.int .i64))) :
    Calls Try.prog 50 #[.slice ao1 xs.length c1, .slice ao2 xs.length c2] w fun e w' => e = .returned (.bool true) ∧ Kept (fun _ => False) w w' := by
  have hm : xs.length ≤ maxLen := by
    rcases row_forms h1 with ⟨_, h⟩ | ⟨g, c, _, h3, h4, _⟩ <;> omega
  unfold maxLen at hm
  go_enter Try.func50, Try.ntmps50
  go_wp2
  go_loopw [5] (fun i wr => ∃ k : Nat, k ≤ xs.length ∧ i = .int .i64 k ∧ Hid (Kept (fun _ => False) w wr)) (fun i _ => xs.length - (intOf i).toNat)
  case atStart => exact ⟨0, Nat.zero_le _, rfl, Kept.refl _ _⟩
  case round =>
    obtain ⟨k, hk, rfl, hK⟩ := hrel
    by_cases hlt : k < xs.length
    · obtain ⟨x, hx⟩ : ∃ x, xs[k]? = some x := ⟨_, List.getElem?_eq_getElem hlt⟩
      have r1 := row_kept h1 hK.out (fun _ _ h => h)
      have r2 := row_kept h2 hK.out (fun _ _ h => h)
      have hk0 : (0 : Int) ≤ (k : Int) := by omega
      have hk1 : (k : Int) < (xs.length : Int) := by omega
      rcases row_forms r1 with ⟨_, h0⟩ | ⟨g1, d1, hv1, _⟩
      · omega
      rcases row_forms r2 with ⟨_, h0⟩ | ⟨g2, d2, hv2, _⟩
      · omega
      cases hv1
      cases hv2
      have z1 := row_cell r1 k (by rw [List.getElem?_map, hx]; rfl)
      have z2 := row_cell r2 k (by rw [List.getElem?_map, hx]; rfl)
      clear r1 r2
      go_upto_region 6 with fail
      go_quiet (fail)
      go_wp2
      go_roundw
      case rel => exact ⟨k + 1, by omega, by go_num, hK.out.then ((Kept.refl (fun _ => False) _).same rfl rfl rfl rfl) (fun _ h => False.elim h)⟩
      case measure => simp [intOf]; omega
    · obtain rfl : k = xs.length := by omega
      go_wp2
      go_ret
      exact ⟨rfl, hK.out⟩
end Go.Proofs.Ytialldmepphloaa.L
