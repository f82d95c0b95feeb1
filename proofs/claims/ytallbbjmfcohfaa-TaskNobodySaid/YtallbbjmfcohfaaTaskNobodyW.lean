/- R1, the walk. -/
import Derived.Test.YtallbbjmfcohfaaTskE
namespace Go.Proofs.Ytallbbjmfcohfaa.taskNobodyW
open Go.RowKit Go.Fr Go.Proofs.Ytallbbjmfcohfaa.TK Go.Proofs.Ytallbbjmfcohfaa.L

structure Nob (w wr : World) (p : Option Addr) (b : Nat) : Prop where
  dead : Dead wr p
  ref : DeadR wr b
  ne : ∀ a, p = some a → a.block ≠ b
  ge : w.heap.size ≤ b
  bel : Below w.heap.size w wr
theorem Nob.same {w wr w' : World} {p : Option Addr} {b : Nat} (h : Nob w wr p b) (k : Kept (fun _ => False) wr w') : Nob w w' p b :=
  ⟨h.dead.same k, h.ref.same k, h.ne, h.ge, h.bel.trans (k.below (by have := h.ref.blk.lt; have := h.ge; omega) (fun _ h => h.elim))⟩
theorem Nob.step {w wr w' : World} {p : Option Addr} {b : Nat} (h : Nob w wr p b) (k : DeadP wr p b w') : Nob w w' p b :=
  ⟨k.1, k.2.1, h.ne, h.ge, h.bel.trans (k.2.2.below (by have := h.ref.blk.lt; have := h.ge; omega) (fun i e => by have := h.ge; omega))⟩

set_option maxRecDepth 100000 in
set_option maxHeartbeats 4000000 in
theorem walk (w : World) (a0 : Option Addr) (cap0 : Nat) (l0 : List (Int × Int)) (hl0 : l0.length ≤ cap0) (hm0 : cap0 ≤ maxLen) (hc0 : CameL w 2 (encKK .i64 .i64) a0 l0)
    (hw0 : ∀ x ∈ l0, (Lit.int .i64 x.1).wf = true ∧ (Lit.int .i64 x.2).wf = true) (a1 : Bool) :
    Calls Try.prog 8 #[.slice a0 l0.length cap0, .bool a1] w fun e w' => e = .returned (.bool true) ∧ Below w.heap.size w w' := by
  unfold maxLen at hm0
  clear hw0
  have hal : ∀ w : World, Calls Try.prog 11 #[] w fun e w' => e = .returned (.bool true) ∧ Kept (fun _ => False) w w' := fun w => alive_law w
  have HC := Lib.hid hc0
  clear hc0
  cases a1
  · have hN : Hid (Nob w (w.alloc (.cells #[.bool false, .slice none 0 0, .slice none 0 0, .slice none 0 0] 56)) none w.heap.size) := by
      have q := TR.dead_ref (Kept.refl (fun _ => False) w)
      exact ⟨Or.inl rfl, q.1, fun a e => by (cases e), Nat.le_refl _, q.2.below (Nat.le_refl _) (fun _ h => h.elim)⟩
    go_enter Try.func8, Try.ntmps8
    go_wp2
    go_loopw [7] (fun i wr => ∃ k : Nat, k ≤ l0.length ∧ i = .int .i64 k ∧ Hid (Nob w wr none w.heap.size)) (fun i _ => l0.length - (intOf i).toNat)
    case atStart => exact ⟨0, Nat.zero_le _, rfl, hN⟩
    case round =>
      clear hN
      obtain ⟨k, hk, rfl, hN⟩ := hrel
      by_cases hlt : k < l0.length
      · obtain ⟨x, y, hx⟩ := pair_at hlt
        obtain ⟨ab, off, rfl, hab, e1, e2⟩ := elem_pair HC.out hN.out.bel hx
        clear hx
        have hk0 : (0 : Int) ≤ (k : Int) := Int.natCast_nonneg _
        have hk1 : (k : Int) < (l0.length : Int) := by omega
        go_wp2_with fail
        refine (play_dead x y hN.out.dead hN.out.ref hN.out.ne).mono ?_
        rintro e w4 ⟨rfl, h4⟩
        have hN4 := Lib.hid (hN.out.step h4)
        clear hN h4 e1 e2
        go_wp2_with fail
        refine (told_dead hN4.out.dead hN4.out.ref).mono ?_
        rintro e w5 ⟨rfl, k5⟩
        have hN5 := Lib.hid (hN4.out.same k5)
        clear hN4 k5
        go_wp2
        go_roundw
        case rel => exact ⟨k + 1, by omega, by go_num, hN5⟩
        case measure => simp [intOf]; omega
      · go_wp2_with fail
        refine (dead_copy hN.out.dead).mono ?_
        rintro e w4 ⟨rfl, rfl⟩
        go_wp2_with fail
        refine (hal _).mono ?_
        rintro e w5 ⟨rfl, k5⟩
        go_wp2
        go_ret
        exact ⟨rfl, (hN.out.same k5).bel⟩
  · have hN : Hid (Nob w ((w.alloc (.cells #[.bool false, .slice none 0 0, .int .i64 0] 64)).alloc (.cells #[.bool false, .slice none 0 0, .slice none 0 0, .slice none 0 0] 56)) (some ⟨w.heap.size, 0, none⟩) (w.heap.size + 1)) := by
      have k1 := (Kept.refl (fun _ => False) w).alloc (.cells #[.bool false, .slice none 0 0, .int .i64 0] 64)
      have q := TR.dead_ref k1
      have hb := (Blk.new w [.bool false, .slice none 0 0, .int .i64 0] 64).alloc (.cells #[.bool false, .slice none 0 0, .slice none 0 0, .slice none 0 0] 56)
      rw [World.size_alloc] at q
      exact ⟨Or.inr ⟨_, rfl, hb⟩, q.1, fun a e => by (cases e; simp), by omega, q.2.below (Nat.le_refl _) (fun _ h => h.elim)⟩
    go_enter Try.func8, Try.ntmps8
    go_wp2
    go_loopw [7] (fun i wr => ∃ k : Nat, k ≤ l0.length ∧ i = .int .i64 k ∧ Hid (Nob w wr (some ⟨w.heap.size, 0, none⟩) (w.heap.size + 1))) (fun i _ => l0.length - (intOf i).toNat)
    case atStart => exact ⟨0, Nat.zero_le _, rfl, hN⟩
    case round =>
      clear hN
      obtain ⟨k, hk, rfl, hN⟩ := hrel
      by_cases hlt : k < l0.length
      · obtain ⟨x, y, hx⟩ := pair_at hlt
        obtain ⟨ab, off, rfl, hab, e1, e2⟩ := elem_pair HC.out hN.out.bel hx
        clear hx
        have hk0 : (0 : Int) ≤ (k : Int) := Int.natCast_nonneg _
        have hk1 : (k : Int) < (l0.length : Int) := by omega
        go_wp2_with fail
        refine (play_dead x y hN.out.dead hN.out.ref hN.out.ne).mono ?_
        rintro e w4 ⟨rfl, h4⟩
        have hN4 := Lib.hid (hN.out.step h4)
        clear hN h4 e1 e2
        go_wp2_with fail
        refine (told_dead hN4.out.dead hN4.out.ref).mono ?_
        rintro e w5 ⟨rfl, k5⟩
        have hN5 := Lib.hid (hN4.out.same k5)
        clear hN4 k5
        go_wp2
        go_roundw
        case rel => exact ⟨k + 1, by omega, by go_num, hN5⟩
        case measure => simp [intOf]; omega
      · go_wp2_with fail
        refine (dead_copy hN.out.dead).mono ?_
        rintro e w4 ⟨rfl, rfl⟩
        go_wp2_with fail
        refine (hal _).mono ?_
        rintro e w5 ⟨rfl, k5⟩
        go_wp2
        go_ret
        exact ⟨rfl, (hN.out.same k5).bel⟩
end Go.Proofs.Ytallbbjmfcohfaa.taskNobodyW
