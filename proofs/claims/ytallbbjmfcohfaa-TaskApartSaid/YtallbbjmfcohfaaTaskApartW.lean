/- R4, the walk. -/
import Derived.Test.YtallbbjmfcohfaaTskG
namespace Go.Proofs.Ytallbbjmfcohfaa.taskApartW
open Go.RowKit Go.Fr Go.Proofs.Ytallbbjmfcohfaa.TK Go.Proofs.Ytallbbjmfcohfaa.L

set_option maxRecDepth 100000 in
set_option maxHeartbeats 8000000 in
theorem walk (w : World) (a0 : Option Addr) (cap0 : Nat) (l0 : List (Int × Bool)) (hl0 : l0.length ≤ cap0) (hm0 : cap0 ≤ maxLen) (hc0 : CameL w 2 (encKB .i64) a0 l0)
    (hw0 : ∀ x ∈ l0, (Lit.int .i64 x.1).wf = true) (a1 : Option Addr) (cap1 : Nat) (l1 : List (Int × Int)) (hl1 : l1.length ≤ cap1) (hm1 : cap1 ≤ maxLen) (hc1 : CameL w 2 (encKK .i64 .i64) a1 l1)
    (hw1 : ∀ x ∈ l1, (Lit.int .i64 x.1).wf = true ∧ (Lit.int .i64 x.2).wf = true) (a2 : Option Addr) (cap2 : Nat) (l2 : List (Int × Int)) (hl2 : l2.length ≤ cap2) (hm2 : cap2 ≤ maxLen) (hc2 : CameL w 2 (encKK .i64 .i64) a2 l2)
    (hw2 : ∀ x ∈ l2, (Lit.int .i64 x.1).wf = true ∧ (Lit.int .i64 x.2).wf = true) :
    Calls Try.prog 7 #[.slice a0 l0.length cap0, .slice a1 l1.length cap1, .slice a2 l2.length cap2] w fun e w' => e = .returned (.bool true) ∧ Below w.heap.size w w' := by
  unfold maxLen at hm0 hm1 hm2
  clear hw0 hw1 hw2
  have hal : ∀ w : World, Calls Try.prog 11 #[] w fun e w' => e = .returned (.bool true) ∧ Kept (fun _ => False) w w' := fun w => alive_law w
  have HC0 := Lib.hid hc0
  clear hc0
  have hb0 : ∀ {w2 : World}, Kept (fun _ => False) w w2 → CameL w2 2 (encKB .i64) a0 l0 := fun k => HC0.out.below (k.below (Nat.le_refl _) (fun _ h => h.elim)) (Nat.le_refl _)
  rcases new_cases l0 with hbad | ⟨h256, hgd⟩
  · go_enter Try.func7, Try.ntmps7
    go_wp2_with fail
    refine (new_fails (ao := a0) (c := cap0) hbad w HC0.out).mono ?_
    rintro e w1 ⟨rfl, k1⟩
    go_wp2_with fail
    refine (new_fails (ao := a0) (c := cap0) hbad w1 (hb0 k1)).mono ?_
    rintro e w2 ⟨rfl, k2⟩
    have K2 := k1.then k2 (fun _ h => h.elim)
    go_wp2_with fail
    refine (TR.new_fails (ao := a0) (c := cap0) hbad w2 (hb0 K2)).mono ?_
    rintro e w3 ⟨b3, rfl, h3, z3, k3⟩
    have K3 := K2.then k3 (fun _ h => h.elim)
    go_wp2_with fail
    refine (TR.new_fails (ao := a0) (c := cap0) hbad w3 (hb0 K3)).mono ?_
    rintro e w4 ⟨b4, rfl, h4, z4, k4⟩
    have K4 := Lib.hid (K3.then k4 (fun _ h => h.elim))
    clear h3 h4 k1 k2 k3 k4 K2 K3 hb0 z3 z4
    go_wp2_with (first | (go_at_call 9; refine (num_ok _ _).mono ?_; rintro e w' ⟨rfl, rfl⟩) | (go_at_call 11; refine (hal _).mono ?_; rintro e wz ⟨rfl, kz⟩))
    go_ret
    exact ⟨rfl, (K4.out.then kz (fun _ h => Or.inl h)).below (Nat.le_refl _) (fun _ h => False.elim h)⟩
  · have ho := Ok.new l0 hgd
    go_enter Try.func7, Try.ntmps7
    go_wp2_with fail
    refine (new_ok a0 cap0 l0 w h256 HC0.out hgd).mono ?_
    rintro e w1 ⟨b1, v1, rfl, h1, f1, k1⟩
    go_wp2_with fail
    refine (new_ok a0 cap0 l0 w1 h256 (hb0 k1) hgd).mono ?_
    rintro e w2 ⟨p, v2, rfl, h2, f2, k2⟩
    have K2 := k1.then k2 (fun _ h => h.elim)
    go_wp2_with fail
    refine (TR.new_ok a0 cap0 l0 w2 h256 (hb0 K2) hgd).mono ?_
    rintro e w3 ⟨b2, vr3, vs3, vn3, rfl, h3, f3, k3⟩
    have K3 := K2.then k3 (fun _ h => h.elim)
    go_wp2_with fail
    refine (TR.new_ok a0 cap0 l0 w3 h256 (hb0 K3) hgd).mono ?_
    rintro e w4 ⟨q, vr4, vs4, vn4, rfl, h4, f4, k4⟩
    have hT : Hid (Two w.heap.size w w4 b1 b2 p q) := by
      have z1 := k1.size
      have z2 := k2.size
      have z3 := k3.size
      have g1 := h1.lt
      have g2 := h2.lt
      have g3 := h3.lt
      have hb := (K3.then k4 (fun _ h => h.elim)).below (Nat.le_refl _) (fun _ h => False.elim h)
      have k24 := k3.then k4 (fun _ h => h.elim)
      have k14 := k2.then k24 (fun _ h => h.elim)
      refine ⟨v1, vr3, vs3, vn3, _, _, v2, vr4, vs4, vn4, _, _, got_new (h1.kept k14 (fun _ _ h => h)) (h3.kept k4 (fun _ _ h => h)) ho f1 (fun i hi => by have := f3 i hi; omega) (fun i hi e => by have := g1 i hi; have := f3 i e; omega) hb, got_new (h2.kept k24 (fun _ _ h => h)) h4 ho (fun i hi => by have := f2 i hi; omega) (fun i hi => by have := f4 i hi; omega) (fun i hi e => by have := g2 i hi; have := f4 i e; omega) hb, ?_⟩
      rintro i (hi | hi) (e | e)
      · have := g1 i hi; have := f2 i e; omega
      · have := g1 i hi; have := f4 i e; omega
      · have := g2 i e; have := f3 i hi; omega
      · have := g3 i hi; have := f4 i e; omega
    clear h1 f1 k1 h2 f2 k2 h3 f3 k3 h4 f4 k4 K2 K3 hb0 ho
    go_wp2_with (go_at_call 9; refine (num_ok _ _).mono ?_; rintro e w' ⟨rfl, rfl⟩)
    go_loopw [15] (fun i wr => ∃ k : Nat, (k ≤ l1.length ∨ k ≤ l2.length) ∧ i = .int .i64 k ∧ Hid (Two w.heap.size w wr b1 b2 p q)) (fun i _ => l1.length + l2.length - (intOf i).toNat)
    case atStart => exact ⟨0, Or.inl (Nat.zero_le _), rfl, hT⟩
    case round =>
      obtain ⟨k, hk, rfl, hT⟩ := hrel
      have hk0 : (0 : Int) ≤ (k : Int) := Int.natCast_nonneg _
      by_cases ha : k < l1.length
      · have hk1 : (k : Int) < (l1.length : Int) := by omega
        obtain ⟨x1, y1, hx1⟩ := pair_at ha
        obtain ⟨ab1, off1, rfl, hab1, e1, e2⟩ := elem_pair hc1 hT.out.below hx1
        have Hx1 := Lib.hid hx1
        have Hc1 := Lib.hid hc1
        clear hx1 hc1
        by_cases hb : k < l2.length
        · have hk2 : (k : Int) < (l2.length : Int) := by omega
          obtain ⟨x2, y2, hx2⟩ := pair_at hb
          obtain ⟨ab2, off2, rfl, hab2, e3, e4⟩ := elem_pair hc2 hT.out.below hx2
          have Hx2 := Lib.hid hx2
          have Hc2 := Lib.hid hc2
          clear hx2 hc2 e3 e4
          go_wp2_with fail
          refine (two_play x1 y1 hT.out).mono ?_
          rintro e w4 ⟨rfl, hT4⟩
          have hT4 := Lib.hid hT4
          clear hT e1 e2
          obtain ⟨e3, e4⟩ := cells_pair Hc2.out hT4.out.below Hx2.out
          go_wp2_with fail
          refine (two_play x2 y2 hT4.out.swap).mono ?_
          rintro e w5 ⟨rfl, hT5⟩
          have hT5 := Lib.hid hT5.swap
          clear hT4 e3 e4
          go_wp2_with fail
          refine (two_told hT5.out).mono ?_
          rintro e w6 ⟨rfl, hT6⟩
          have hT6 := Lib.hid hT6
          clear hT5
          go_wp2_with fail
          refine (two_told hT6.out.swap).mono ?_
          rintro e w7 ⟨rfl, hT7⟩
          have hT7 := Lib.hid hT7.swap
          clear hT6
          go_wp2
          go_roundw
          case rel => exact ⟨k + 1, by omega, by go_num, hT7⟩
          case measure => simp [intOf]; omega
        · have hk2 : ¬ (k : Int) < (l2.length : Int) := by omega
          go_wp2_with fail
          refine (two_play x1 y1 hT.out).mono ?_
          rintro e w4 ⟨rfl, hT4⟩
          have hT4 := Lib.hid hT4
          clear hT e1 e2
          go_wp2_with fail
          refine (two_told hT4.out).mono ?_
          rintro e w6 ⟨rfl, hT6⟩
          have hT6 := Lib.hid hT6
          clear hT4
          go_wp2_with fail
          refine (two_told hT6.out.swap).mono ?_
          rintro e w7 ⟨rfl, hT7⟩
          have hT7 := Lib.hid hT7.swap
          clear hT6
          go_wp2
          go_roundw
          case rel => exact ⟨k + 1, by omega, by go_num, hT7⟩
          case measure => simp [intOf]; omega
      · have hk1 : ¬ (k : Int) < (l1.length : Int) := by omega
        by_cases hb : k < l2.length
        · have hk2 : (k : Int) < (l2.length : Int) := by omega
          obtain ⟨x2, y2, hx2⟩ := pair_at hb
          obtain ⟨ab2, off2, rfl, hab2, e3, e4⟩ := elem_pair hc2 hT.out.below hx2
          have Hx2 := Lib.hid hx2
          have Hc2 := Lib.hid hc2
          clear hx2 hc2
          go_wp2_with fail
          refine (two_play x2 y2 hT.out.swap).mono ?_
          rintro e w5 ⟨rfl, hT5⟩
          have hT5 := Lib.hid hT5.swap
          clear hT e3 e4
          go_wp2_with fail
          refine (two_told hT5.out).mono ?_
          rintro e w6 ⟨rfl, hT6⟩
          have hT6 := Lib.hid hT6
          clear hT5
          go_wp2_with fail
          refine (two_told hT6.out.swap).mono ?_
          rintro e w7 ⟨rfl, hT7⟩
          have hT7 := Lib.hid hT7.swap
          clear hT6
          go_wp2
          go_roundw
          case rel => exact ⟨k + 1, by omega, by go_num, hT7⟩
          case measure => simp [intOf]; omega
        · have hk2 : ¬ (k : Int) < (l2.length : Int) := by omega
          go_wp2_with fail
          refine (mid_copy hT.out.got).mono ?_
          rintro e w5 ⟨c, rfl, hM⟩
          go_wp2_with fail
          refine (mid_ref hM).mono ?_
          rintro e w6 ⟨d, rfl, hT6⟩
          have hT6 := Lib.hid hT6
          clear hM hT hk2 hb hk1 ha hk hk0
          go_wp2
          go_loopw [18] (fun i wr => ∃ k : Nat, k ≤ l2.length ∧ i = .int .i64 k ∧ Hid (Two w.heap.size w wr b1 b2 c d)) (fun i _ => l2.length - (intOf i).toNat)
          case atStart => exact ⟨0, Nat.zero_le _, rfl, hT6⟩
          case round =>
            obtain ⟨k, hk, rfl, hT⟩ := hrel
            have hk0 : (0 : Int) ≤ (k : Int) := Int.natCast_nonneg _
            by_cases hb : k < l2.length
            · have hk2 : (k : Int) < (l2.length : Int) := by omega
              obtain ⟨x2, y2, hx2⟩ := pair_at hb
              obtain ⟨ab2, off2, rfl, hab2, e3, e4⟩ := elem_pair hc2 hT.out.below hx2
              have Hx2 := Lib.hid hx2
              have Hc2 := Lib.hid hc2
              clear hx2 hc2
              go_wp2_with fail
              refine (two_play x2 y2 hT.out.swap).mono ?_
              rintro e w5 ⟨rfl, hT5⟩
              have hT5 := Lib.hid hT5.swap
              clear hT e3 e4
              go_wp2_with fail
              refine (two_told hT5.out).mono ?_
              rintro e w6 ⟨rfl, hT6⟩
              have hT6 := Lib.hid hT6
              clear hT5
              go_wp2_with fail
              refine (two_told hT6.out.swap).mono ?_
              rintro e w7 ⟨rfl, hT7⟩
              have hT7 := Lib.hid hT7.swap
              clear hT6
              go_wp2
              go_roundw
              case rel => exact ⟨k + 1, by omega, by go_num, hT7⟩
              case measure => simp [intOf]; omega
            · go_wp2_with fail
              refine (hal _).mono ?_
              rintro e w4 ⟨rfl, k4⟩
              go_wp2
              go_ret
              exact ⟨rfl, (hT.out.got.same k4).below⟩
end Go.Proofs.Ytallbbjmfcohfaa.taskApartW
