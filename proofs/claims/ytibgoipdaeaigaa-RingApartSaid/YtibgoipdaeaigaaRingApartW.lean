/- R4, the walk. -/
import Derived.Test.YtibgoipdaeaigaaRtw
namespace Go.Proofs.Ytibgoipdaeaigaa.ringApartW
open Go.RowKit Go.Fr Go.Proofs.Ytibgoipdaeaigaa.RI Go.Proofs.Ytibgoipdaeaigaa.RR Go.Proofs.Ytibgoipdaeaigaa.L

set_option maxRecDepth 100000 in
set_option maxHeartbeats 4000000 in
theorem walk (w : World) (a0 : Int) (w0 : (Lit.int .u8 a0).wf = true) (a1 : Option Addr) (cap1 : Nat) (l1 : List (Int × Int)) (hl1 : l1.length ≤ cap1) (hm1 : cap1 ≤ maxLen) (hc1 : CameL w 2 (encKK .i64 .i64) a1 l1)
    (hw1 : ∀ x ∈ l1, (Lit.int .i64 x.1).wf = true ∧ (Lit.int .i64 x.2).wf = true)
    (a2 : Option Addr) (cap2 : Nat) (l2 : List (Int × Int)) (hl2 : l2.length ≤ cap2) (hm2 : cap2 ≤ maxLen) (hc2 : CameL w 2 (encKK .i64 .i64) a2 l2)
    (hw2 : ∀ x ∈ l2, (Lit.int .i64 x.1).wf = true ∧ (Lit.int .i64 x.2).wf = true) :
    Calls Try.prog 9 #[.int .u8 a0, .slice a1 l1.length cap1, .slice a2 l2.length cap2] w fun e w' => e = .returned (.bool true) ∧ Below w.heap.size w w' := by
  unfold maxLen at hm1 hm2
  clear hw1 hw2
  obtain ⟨D, rfl, hD'⟩ := u8_nat w0
  clear w0
  have hD : D ≤ 65536 := by omega
  have hal : ∀ w : World, Calls Try.prog 14 #[] w fun e w' => e = .returned (.bool true) ∧ Kept (fun _ => False) w w' := fun w => RS.alive_law w
  go_enter Try.func9, Try.ntmps9
  go_wp2_with fail
  refine (RI.new_ok D w (by omega)).mono ?_
  rintro e w1 ⟨rfl, s1, k1, z1⟩
  go_wp2_with fail
  refine (RI.new_ok D w1 (by omega)).mono ?_
  rintro e w2 ⟨rfl, s2, k2, z2⟩
  go_wp2_with fail
  refine (RR.new_ok D w2 (by omega)).mono ?_
  rintro e w3 ⟨rfl, s3, k3, z3⟩
  go_wp2_with fail
  refine (RR.new_ok D w3 (by omega)).mono ?_
  rintro e w4 ⟨rfl, s4, k4, z4⟩
  have hT0 := two_new (n0 := w.heap.size) (w := w) (Nat.le_refl _) z1 z2 z3 ⟨_, _, (((s1.kept k2 (fun _ _ h => h)).kept k3 (fun _ _ h => h)).kept k4 (fun _ _ h => h))⟩ ⟨_, _, ((s2.kept k3 (fun _ _ h => h)).kept k4 (fun _ _ h => h))⟩ (s3.kept k4 (fun _ _ h => h)) s4
    ((((k1.below (Nat.le_refl _) (fun _ h => h.elim)).trans (k2.below (by omega) (fun _ h => h.elim))).trans (k3.below (by omega) (fun _ h => h.elim))).trans (k4.below (by omega) (fun _ h => h.elim)))
  have hT := Lib.hid hT0
  clear hT0 s1 s2 s3 s4 k1 k2 k3 k4
  go_wp2
  have z := Lib.hid z1
  clear z1 z2 z3 z4
  generalize w1.heap.size = y, w2.heap.size = p, w3.heap.size = q at hT ⊢
  go_loopw [15] (fun i wr => ∃ k : Nat, (k ≤ l1.length ∨ k ≤ l2.length) ∧ i = .int .i64 k ∧ Hid (Two w.heap.size w wr w.heap.size p y q D)) (fun i _ => l1.length + l2.length - (intOf i).toNat)
  case atStart => exact ⟨0, Or.inl (Nat.zero_le _), rfl, hT⟩
  case round =>
    obtain ⟨k, hk, rfl, hT⟩ := hrel
    have hk0 : (0 : Int) ≤ (k : Int) := Int.natCast_nonneg _
    by_cases ha : k < l1.length
    · have hk1 : (k : Int) < (l1.length : Int) := by omega
      obtain ⟨x1, y1, hx1⟩ := pair_at ha
      obtain ⟨ab1, off1, rfl, hab1, e1, e2⟩ := elem_pair hc1 hT.out.below hx1
      have Hx1 := Lib.hid hx1
      have Hc1 := Lib.hid hc1
      clear hx1 hc1
      by_cases hb : k < l2.length
      · have hk2 : (k : Int) < (l2.length : Int) := by omega
        obtain ⟨x2, y2, hx2⟩ := pair_at hb
        obtain ⟨ab2, off2, rfl, hab2, e3, e4⟩ := elem_pair hc2 hT.out.below hx2
        have Hx2 := Lib.hid hx2
        have Hc2 := Lib.hid hc2
        clear hx2 hc2 e3 e4
        go_wp2_with fail
        refine (two_play x1 y1 hT.out).mono ?_
        rintro e w4 ⟨rfl, hT4⟩
        have hT4 := Lib.hid hT4
        clear hT e1 e2
        obtain ⟨e3, e4⟩ := cells_pair Hc2.out hT4.out.below Hx2.out
        go_wp2_with fail
        refine (two_play x2 y2 hT4.out.swap).mono ?_
        rintro e w5 ⟨rfl, hT5⟩
        have hT5 := Lib.hid hT5.swap
        clear hT4 e3 e4
        go_wp2_with fail
        refine (two_told hT5.out).mono ?_
        rintro e w6 ⟨rfl, hT6⟩
        have hT6 := Lib.hid hT6
        clear hT5
        go_wp2_with fail
        refine (two_told hT6.out.swap).mono ?_
        rintro e w7 ⟨rfl, hT7⟩
        have hT7 := Lib.hid hT7.swap
        clear hT6
        go_wp2
        go_roundw
        case rel => exact ⟨k + 1, by omega, by go_num, hT7⟩
        case measure => simp [intOf]; omega
      · have hk2 : ¬ (k : Int) < (l2.length : Int) := by omega
        go_wp2_with fail
        refine (two_play x1 y1 hT.out).mono ?_
        rintro e w4 ⟨rfl, hT4⟩
        have hT4 := Lib.hid hT4
        clear hT e1 e2
        go_wp2_with fail
        refine (two_told hT4.out).mono ?_
        rintro e w6 ⟨rfl, hT6⟩
        have hT6 := Lib.hid hT6
        clear hT4
        go_wp2_with fail
        refine (two_told hT6.out.swap).mono ?_
        rintro e w7 ⟨rfl, hT7⟩
        have hT7 := Lib.hid hT7.swap
        clear hT6
        go_wp2
        go_roundw
        case rel => exact ⟨k + 1, by omega, by go_num, hT7⟩
        case measure => simp [intOf]; omega
    · have hk1 : ¬ (k : Int) < (l1.length : Int) := by omega
      by_cases hb : k < l2.length
      · have hk2 : (k : Int) < (l2.length : Int) := by omega
        obtain ⟨x2, y2, hx2⟩ := pair_at hb
        obtain ⟨ab2, off2, rfl, hab2, e3, e4⟩ := elem_pair hc2 hT.out.below hx2
        have Hx2 := Lib.hid hx2
        have Hc2 := Lib.hid hc2
        clear hx2 hc2
        go_wp2_with fail
        refine (two_play x2 y2 hT.out.swap).mono ?_
        rintro e w5 ⟨rfl, hT5⟩
        have hT5 := Lib.hid hT5.swap
        clear hT e3 e4
        go_wp2_with fail
        refine (two_told hT5.out).mono ?_
        rintro e w6 ⟨rfl, hT6⟩
        have hT6 := Lib.hid hT6
        clear hT5
        go_wp2_with fail
        refine (two_told hT6.out.swap).mono ?_
        rintro e w7 ⟨rfl, hT7⟩
        have hT7 := Lib.hid hT7.swap
        clear hT6
        go_wp2
        go_roundw
        case rel => exact ⟨k + 1, by omega, by go_num, hT7⟩
        case measure => simp [intOf]; omega
      · have hk2 : ¬ (k : Int) < (l2.length : Int) := by omega
        go_wp2_with fail
        refine (mid_copy hT.out.got).mono ?_
        rintro e w5 ⟨c, rfl, hM⟩
        go_wp2_with fail
        refine (mid_ref hM).mono ?_
        rintro e w6 ⟨d, rfl, hT6⟩
        have hT6 := Lib.hid hT6
        clear hM hT hk2 hb hk1 ha hk hk0
        go_wp2
        go_loopw [18] (fun i wr => ∃ k : Nat, k ≤ l2.length ∧ i = .int .i64 k ∧ Hid (Two w.heap.size w wr w.heap.size p c d D)) (fun i _ => l2.length - (intOf i).toNat)
        case atStart => exact ⟨0, Nat.zero_le _, rfl, hT6⟩
        case round =>
          obtain ⟨k, hk, rfl, hT⟩ := hrel
          have hk0 : (0 : Int) ≤ (k : Int) := Int.natCast_nonneg _
          by_cases hb : k < l2.length
          · have hk2 : (k : Int) < (l2.length : Int) := by omega
            obtain ⟨x2, y2, hx2⟩ := pair_at hb
            obtain ⟨ab2, off2, rfl, hab2, e3, e4⟩ := elem_pair hc2 hT.out.below hx2
            have Hx2 := Lib.hid hx2
            have Hc2 := Lib.hid hc2
            clear hx2 hc2
            go_wp2_with fail
            refine (two_play x2 y2 hT.out.swap).mono ?_
            rintro e w5 ⟨rfl, hT5⟩
            have hT5 := Lib.hid hT5.swap
            clear hT e3 e4
            go_wp2_with fail
            refine (two_told hT5.out).mono ?_
            rintro e w6 ⟨rfl, hT6⟩
            have hT6 := Lib.hid hT6
            clear hT5
            go_wp2_with fail
            refine (two_told hT6.out.swap).mono ?_
            rintro e w7 ⟨rfl, hT7⟩
            have hT7 := Lib.hid hT7.swap
            clear hT6
            go_wp2
            go_roundw
            case rel => exact ⟨k + 1, by omega, by go_num, hT7⟩
            case measure => simp [intOf]; omega
          · go_wp2_with fail
            refine (hal _).mono ?_
            rintro e w4 ⟨rfl, k4⟩
            go_wp2
            go_ret
            exact ⟨rfl, (hT.out.got.kept k4).below⟩
end Go.Proofs.Ytibgoipdaeaigaa.ringApartW
