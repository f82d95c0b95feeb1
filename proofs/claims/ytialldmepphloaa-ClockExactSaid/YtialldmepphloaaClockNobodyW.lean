/- R1, the walk: a clock that New did not give. -/
import Derived.Test.YtialldmepphloaaClkD
import Derived.Test.YtialldmepphloaaArgs
namespace Go.Proofs.Ytialldmepphloaa.clockNobodyW
open Go.RowKit Go.Fr Go.Proofs.Ytialldmepphloaa.CK

theorem quad_at {w w' : World} {l : List (Int × Int × Int × Int)} {ao : Option Addr} {k : Nat} (hc : CameL w 4 (encKKKK .i64 .i64 .u32 .u32) ao l) (hb : Below w.heap.size w w') (hlt : k < l.length) :
    ∃ (kd al t cy : Int) (sb so : Nat), l[k]? = some (kd, al, t, cy) ∧ ao = some ⟨sb, so, none⟩ ∧ sb < w.heap.size ∧ w'.cell? ⟨sb, so + k * 4, none⟩ = some (.int .i64 kd) ∧ w'.cell? ⟨sb, so + k * 4 + 1, none⟩ = some (.int .i64 al) ∧ w'.cell? ⟨sb, so + k * 4 + 2, none⟩ = some (.int .u32 t) ∧ w'.cell? ⟨sb, so + k * 4 + 3, none⟩ = some (.int .u32 cy) := by
  obtain ⟨⟨kd, al, t, cy⟩, hx⟩ : ∃ x, l[k]? = some x := ⟨_, List.getElem?_eq_getElem hlt⟩
  obtain ⟨sb, so, rfl, hsb, hcc⟩ := hc (by rintro rfl; simp at hlt)
  have h0 : ∀ (j : Nat) (v : Value), (encKKKK .i64 .i64 .u32 .u32 (kd, al, t, cy))[j]? = some v → w'.cell? ⟨sb, so + k * 4 + j, none⟩ = some v := fun j v hv => by
    rw [hb.cell (p := ⟨sb, so + k * 4 + j, none⟩) hsb]
    exact hcc k _ hx j v hv
  exact ⟨kd, al, t, cy, sb, so, hx, rfl, hsb, h0 0 _ rfl, h0 1 _ rfl, h0 2 _ rfl, h0 3 _ rfl⟩

set_option maxRecDepth 100000 in
set_option maxHeartbeats 4000000 in
theorem walk (w : World) (a0 : Option Addr) (cap0 : Nat) (l0 : List (Int × Int × Int × Int)) (hl0 : l0.length ≤ cap0) (hm0 : cap0 ≤ maxLen) (hc0 : CameL w 4 (encKKKK .i64 .i64 .u32 .u32) a0 l0)
    (hw0 : ∀ x ∈ l0, (Lit.int .i64 x.1).wf = true ∧ (Lit.int .i64 x.2.1).wf = true ∧ (Lit.int .u32 x.2.2.1).wf = true ∧ (Lit.int .u32 x.2.2.2).wf = true) (a1 : Bool) :
    Calls Try.prog 10 #[.slice a0 l0.length cap0, .bool a1] w fun e w' => e = .returned (.bool true) ∧ Below w.heap.size w w' := by
  unfold maxLen at hm0
  have HC := Lib.hid hc0
  clear hc0 hw0
  cases a1 with
  | false =>
    have D0 : Hid (DeadC w none) := Or.inl rfl
    have B0 : Hid (Below w.heap.size w w) := Below.refl _ _
    go_enter Try.func10, Try.ntmps10
    go_wp2
    go_loopw [6] (fun i wr => ∃ k : Nat, k ≤ l0.length ∧ i = .int .i64 k ∧ Hid (DeadC wr none) ∧ Hid (Below w.heap.size w wr)) (fun i _ => l0.length - (intOf i).toNat)
    case atStart => exact ⟨0, Nat.zero_le _, rfl, D0, B0⟩
    case round =>
      clear D0 B0
      obtain ⟨k, hk, rfl, hD, hB⟩ := hrel
      have hz0 := hB.out.size
      by_cases hlt : k < l0.length
      · obtain ⟨kd, al, t, cy, sb, so, _, rfl, hsb, q0, q1, q2, q3⟩ := quad_at HC.out hB.out hlt
        have hk0 : (0 : Int) ≤ (k : Int) := by omega
        have hk1 : (k : Int) < (l0.length : Int) := by omega
        have bx := Blk.new wr [.int .i64 kd, .int .i64 al, .int .u32 t, .int .u32 cy] 47
        have kx := (Kept.refl (fun _ => False) wr).alloc (.cells #[.int .i64 kd, .int .i64 al, .int .u32 t, .int .u32 cy] 47)
        have D0 := hD.out.kept kx
        have B0 := Lib.hid (hB.out.trans (kx.below hz0 (fun _ h => False.elim h)))
        have HX := Lib.hid (fun (wy : World) (ky : Kept (fun _ => False) (wr.alloc (.cells #[.int .i64 kd, .int .i64 al, .int .u32 t, .int .u32 cy] 47)) wy) => And.intro ((bx.kept ky (fun h => h)).cell 1 rfl) (And.intro ((bx.kept ky (fun h => h)).cell 2 rfl) ((bx.kept ky (fun h => h)).cell 3 rfl)))
        have hnx : w.heap.size ≤ (wr.alloc (.cells #[.int .i64 kd, .int .i64 al, .int .u32 t, .int .u32 cy] 47)).heap.size := by rw [World.size_alloc]; omega
        have K0 := Lib.hid (Kept.refl (fun _ => False) (wr.alloc (.cells #[.int .i64 kd, .int .i64 al, .int .u32 t, .int .u32 cy] 47)))
        have HNX := Lib.hid hnx
        have DD := Lib.hid D0
        clear hnx bx kx hD hB D0
        go_wp2_with fail
        refine (dead_left al (DD.out.kept K0.out)).mono ?_
        rintro e w1 ⟨rfl, k1⟩
        have K1 := Lib.hid (K0.out.then k1 (fun _ h => Or.inl h))
        obtain ⟨x11, x12, x13⟩ := HX.out _ K1.out
        clear k1
        go_wp2_with fail
        refine (dead_cycle al (DD.out.kept K1.out)).mono ?_
        rintro e w2 ⟨rfl, k2⟩
        have K2 := Lib.hid (K1.out.then k2 (fun _ h => Or.inl h))
        obtain ⟨x21, x22, x23⟩ := HX.out _ K2.out
        clear k2
        go_wp2_with fail
        refine (dead_rel al t cy (DD.out.kept K2.out)).mono ?_
        rintro e w3 ⟨rfl, k3⟩
        have K3 := Lib.hid (K2.out.then k3 (fun _ h => Or.inl h))
        obtain ⟨x31, x32, x33⟩ := HX.out _ K3.out
        clear k3
        go_wp2_with fail
        refine (dead_abs al t cy (DD.out.kept K3.out)).mono ?_
        rintro e w4 ⟨rfl, k4⟩
        have K4 := Lib.hid (K3.out.then k4 (fun _ h => Or.inl h))
        obtain ⟨x41, x42, x43⟩ := HX.out _ K4.out
        clear k4
        go_wp2_with fail
        refine (dead_set al t cy (DD.out.kept K4.out)).mono ?_
        rintro e w5 ⟨rfl, k5⟩
        have K5 := Lib.hid (K4.out.then k5 (fun _ h => Or.inl h))
        obtain ⟨x51, x52, x53⟩ := HX.out _ K5.out
        clear k5
        go_wp2_with fail
        refine (dead_cancel al (DD.out.kept K5.out)).mono ?_
        rintro e w6 ⟨rfl, k6⟩
        have K6 := Lib.hid (K5.out.then k6 (fun _ h => Or.inl h))
        obtain ⟨x61, x62, x63⟩ := HX.out _ K6.out
        clear k6
        go_wp2_with (first
          | (go_at_call 20; refine (dead_tick (DD.out.kept K6.out)).mono ?_; rintro e w' ⟨rfl, rfl⟩)
          | (go_at_call 26; refine (dead_coming al (DD.out.kept K6.out)).mono ?_; rintro e w' ⟨rfl, rfl⟩)
          | (go_at_call 29; refine (dead_reset (DD.out.kept K6.out)).mono ?_; rintro e w' ⟨rfl, rfl⟩))
        go_roundw
        case rel => exact ⟨k + 1, by omega, by go_num, DD.out.kept K6.out, B0.out.trans (K6.out.below HNX.out (fun _ h => False.elim h))⟩
        case measure => simp [intOf]; omega
      · go_wp2_with (first
          | (go_at_call 21; refine (dead_value hD.out).mono ?_; rintro e w' ⟨rfl, rfl⟩)
          | (go_at_call 28; refine (dead_copy hD.out).mono ?_; rintro e w' ⟨rfl, rfl⟩)
          | (go_at_call 18; refine (alive_law _).mono ?_; rintro e w9 ⟨rfl, k9⟩))
        go_ret
        exact ⟨rfl, hB.out.trans (k9.below hz0 (fun _ h => False.elim h))⟩
  | true =>
    have bz := Blk.new w [.bool false, .int .u32 0, .int .u32 0, .int .u32 0, .slice none 0 0] 69
    have D0 : Hid (DeadC (w.alloc (.cells #[.bool false, .int .u32 0, .int .u32 0, .int .u32 0, .slice none 0 0] 69)) (some ⟨w.heap.size, 0, none⟩)) := Or.inr ⟨_, rfl, bz.cell 0 rfl⟩
    have B0 : Hid (Below w.heap.size w (w.alloc (.cells #[.bool false, .int .u32 0, .int .u32 0, .int .u32 0, .slice none 0 0] 69))) := ((Kept.refl (fun _ => False) w).alloc _).below (Nat.le_refl _) (fun _ h => False.elim h)
    clear bz
    go_enter Try.func10, Try.ntmps10
    go_wp2
    go_loopw [6] (fun i wr => ∃ k : Nat, k ≤ l0.length ∧ i = .int .i64 k ∧ Hid (DeadC wr (some ⟨w.heap.size, 0, none⟩)) ∧ Hid (Below w.heap.size w wr)) (fun i _ => l0.length - (intOf i).toNat)
    case atStart => exact ⟨0, Nat.zero_le _, rfl, D0, B0⟩
    case round =>
      clear D0 B0
      obtain ⟨k, hk, rfl, hD, hB⟩ := hrel
      have hz0 := hB.out.size
      by_cases hlt : k < l0.length
      · obtain ⟨kd, al, t, cy, sb, so, _, rfl, hsb, q0, q1, q2, q3⟩ := quad_at HC.out hB.out hlt
        have hk0 : (0 : Int) ≤ (k : Int) := by omega
        have hk1 : (k : Int) < (l0.length : Int) := by omega
        have bx := Blk.new wr [.int .i64 kd, .int .i64 al, .int .u32 t, .int .u32 cy] 47
        have kx := (Kept.refl (fun _ => False) wr).alloc (.cells #[.int .i64 kd, .int .i64 al, .int .u32 t, .int .u32 cy] 47)
        have D0 := hD.out.kept kx
        have B0 := Lib.hid (hB.out.trans (kx.below hz0 (fun _ h => False.elim h)))
        have HX := Lib.hid (fun (wy : World) (ky : Kept (fun _ => False) (wr.alloc (.cells #[.int .i64 kd, .int .i64 al, .int .u32 t, .int .u32 cy] 47)) wy) => And.intro ((bx.kept ky (fun h => h)).cell 1 rfl) (And.intro ((bx.kept ky (fun h => h)).cell 2 rfl) ((bx.kept ky (fun h => h)).cell 3 rfl)))
        have hnx : w.heap.size ≤ (wr.alloc (.cells #[.int .i64 kd, .int .i64 al, .int .u32 t, .int .u32 cy] 47)).heap.size := by rw [World.size_alloc]; omega
        have K0 := Lib.hid (Kept.refl (fun _ => False) (wr.alloc (.cells #[.int .i64 kd, .int .i64 al, .int .u32 t, .int .u32 cy] 47)))
        have HNX := Lib.hid hnx
        have DD := Lib.hid D0
        clear hnx bx kx hD hB D0
        go_wp2_with fail
        refine (dead_left al (DD.out.kept K0.out)).mono ?_
        rintro e w1 ⟨rfl, k1⟩
        have K1 := Lib.hid (K0.out.then k1 (fun _ h => Or.inl h))
        obtain ⟨x11, x12, x13⟩ := HX.out _ K1.out
        clear k1
        go_wp2_with fail
        refine (dead_cycle al (DD.out.kept K1.out)).mono ?_
        rintro e w2 ⟨rfl, k2⟩
        have K2 := Lib.hid (K1.out.then k2 (fun _ h => Or.inl h))
        obtain ⟨x21, x22, x23⟩ := HX.out _ K2.out
        clear k2
        go_wp2_with fail
        refine (dead_rel al t cy (DD.out.kept K2.out)).mono ?_
        rintro e w3 ⟨rfl, k3⟩
        have K3 := Lib.hid (K2.out.then k3 (fun _ h => Or.inl h))
        obtain ⟨x31, x32, x33⟩ := HX.out _ K3.out
        clear k3
        go_wp2_with fail
        refine (dead_abs al t cy (DD.out.kept K3.out)).mono ?_
        rintro e w4 ⟨rfl, k4⟩
        have K4 := Lib.hid (K3.out.then k4 (fun _ h => Or.inl h))
        obtain ⟨x41, x42, x43⟩ := HX.out _ K4.out
        clear k4
        go_wp2_with fail
        refine (dead_set al t cy (DD.out.kept K4.out)).mono ?_
        rintro e w5 ⟨rfl, k5⟩
        have K5 := Lib.hid (K4.out.then k5 (fun _ h => Or.inl h))
        obtain ⟨x51, x52, x53⟩ := HX.out _ K5.out
        clear k5
        go_wp2_with fail
        refine (dead_cancel al (DD.out.kept K5.out)).mono ?_
        rintro e w6 ⟨rfl, k6⟩
        have K6 := Lib.hid (K5.out.then k6 (fun _ h => Or.inl h))
        obtain ⟨x61, x62, x63⟩ := HX.out _ K6.out
        clear k6
        go_wp2_with (first
          | (go_at_call 20; refine (dead_tick (DD.out.kept K6.out)).mono ?_; rintro e w' ⟨rfl, rfl⟩)
          | (go_at_call 26; refine (dead_coming al (DD.out.kept K6.out)).mono ?_; rintro e w' ⟨rfl, rfl⟩)
          | (go_at_call 29; refine (dead_reset (DD.out.kept K6.out)).mono ?_; rintro e w' ⟨rfl, rfl⟩))
        go_roundw
        case rel => exact ⟨k + 1, by omega, by go_num, DD.out.kept K6.out, B0.out.trans (K6.out.below HNX.out (fun _ h => False.elim h))⟩
        case measure => simp [intOf]; omega
      · go_wp2_with (first
          | (go_at_call 21; refine (dead_value hD.out).mono ?_; rintro e w' ⟨rfl, rfl⟩)
          | (go_at_call 28; refine (dead_copy hD.out).mono ?_; rintro e w' ⟨rfl, rfl⟩)
          | (go_at_call 18; refine (alive_law _).mono ?_; rintro e w9 ⟨rfl, k9⟩))
        go_ret
        exact ⟨rfl, hB.out.trans (k9.below hz0 (fun _ h => False.elim h))⟩
end Go.Proofs.Ytialldmepphloaa.clockNobodyW
