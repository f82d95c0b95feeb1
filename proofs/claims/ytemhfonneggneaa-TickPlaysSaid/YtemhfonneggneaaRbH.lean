/- The document's board: Auto out of its modes, Calm, New. -/
import Derived.Test.YtemhfonneggneaaRbG
import Derived.Test.YtemhfonneggneaaRfM
import Derived.Test.YtemhfonneggneaaMem
namespace Go.Proofs.Ytemhfonneggneaa.RB
open Go.RowKit Go.Fr Go.Tb Go.Proofs.Ytemhfonneggneaa.CK Go.Proofs.Ytemhfonneggneaa.TC
open Go.Proofs.Ytemhfonneggneaa.BD (Ob ob_nil infoI)
attribute [local go_sem] Oper.semAt_some

theorem row_blk {w : World} {g n sz : Nat} {cs : List Value} {e : TypeId} (h : Blk w g cs e) (hl : cs.length = n * sz) (hn : n ≤ maxLen) : Row w e sz (.slice (some ⟨g, 0, none⟩) n n) n cs :=
  ⟨hl, Or.inr ⟨g, n, cs.toArray, rfl, Nat.zero_le _, h, Nat.le_refl _, hn, by simp [hl], by rw [← hl]; simp⟩⟩
theorem infoL : (Try.prog.info? 129).map (fun i => (i.zero, i.size, i.bytes)) = some (some (.agg #[.bool false, .int .u32 0, .int .u32 0]), 3, 12) := by kernel_rfl
theorem infoB : (Try.prog.info? 4).map (fun i => (i.zero, i.size, i.bytes)) = some (some (.bool false), 1, 1) := by kernel_rfl
theorem infoU : (Try.prog.info? 22).map (fun i => (i.zero, i.size, i.bytes)) = some (some (.int .u32 0), 1, 4) := by kernel_rfl
def z3 : Bool × Nat × Nat := (false, 0, 0)
abbrev eB (x : Bool) : List Value := [.bool x]
abbrev eU (x : Nat) : List Value := [vu x]
theorem flatB (l : List Bool) : l.flatMap eB = l.map Value.bool := by induction l with | nil => rfl | cons a l ih => simp [ih]
theorem flatU (l : List Nat) : l.flatMap eU = l.map vu := by induction l with | nil => rfl | cons a l ih => simp [ih]

section
variable {w w' : World} {p : Nat} {M : Rm} {T : Tb} {V : List Nat} {A : List (Bool × Nat × Nat)} {R : List Bool} {S : Nat → Prop}
theorem auto_no {i : Int} (hs : IsRb w p M T V A R) (hi : ¬ (0 ≤ i ∧ i < T.modes)) : Calls Try.prog 47 #[.pointer (some ⟨p, 0, none⟩), .int .i64 i] w fun e w' => e = .returned (.tuple #[.int .i64 0, .int .i64 2]) ∧ w = w' := by
  obtain ⟨_, c1, _, _, _⟩ := hs.tab
  by_cases h : i < 0
  · have d0 : decide (i < 0) = true := by simpa using h
    go_enter Try.func47, Try.ntmps47
    go_wp2_with fail
    go_ret2
    exact ⟨rfl, rfl⟩
  · have d0 : decide (i < 0) = false := by simpa using h
    have d1 : decide (T.modes ≤ i) = true := by rw [decide_eq_true_eq]; omega
    go_enter Try.func47, Try.ntmps47
    go_wp2_with fail
    go_ret2
    exact ⟨rfl, rfl⟩

/-- what make gives -/
theorem make_look (n : Nat) (hn : n ≤ 64) : ∃ C : List Value, C = (List.replicate n z3).flatMap encL ∧ C.length = n * 3 ∧ ∀ w, (Instr.makeSlice 106 (.int .i64 (n : Int)) (.int .i64 (n : Int))).run Try.prog w = .ok (.slice (some ⟨w.heap.size, 0, none⟩) n n) (w.alloc (.cells C.toArray 129)) := by
  obtain ⟨i0, hi, hz0, hz1, hz2⟩ := info_parts infoL
  refine ⟨_, rfl, by rw [flat_length encL_len]; simp, fun w => ?_⟩
  exact run_make_flat (enc := encL) encL_len (by decide) z3 _ _ i0 _ Try.underlying106 hi hz0 hz1 rfl .i64 .i64 n (by rw [hz2]; omega) (by omega) w
theorem make_bool (n : Nat) (hn : n ≤ 64) : ∃ C : List Value, C = (List.replicate n false).map Value.bool ∧ C.length = n * 1 ∧ ∀ w, (Instr.makeSlice 107 (.int .i64 (n : Int)) (.int .i64 (n : Int))).run Try.prog w = .ok (.slice (some ⟨w.heap.size, 0, none⟩) n n) (w.alloc (.cells C.toArray 4)) := by
  obtain ⟨i0, hi, hz0, hz1, hz2⟩ := info_parts infoB
  refine ⟨_, rfl, by simp, fun w => ?_⟩
  rw [← flatB]
  exact run_make_flat (enc := eB) (fun _ => rfl) (by decide) false _ _ i0 _ Try.underlying107 hi hz0 hz1 rfl .i64 .i64 n (by rw [hz2]; omega) (by omega) w
theorem make_u32 (n : Nat) (hn : n ≤ 64) : ∃ C : List Value, C = (List.replicate n 0).map vu ∧ C.length = n * 1 ∧ ∀ w, (Instr.makeSlice 72 (.int .i64 (n : Int)) (.int .i64 (n : Int))).run Try.prog w = .ok (.slice (some ⟨w.heap.size, 0, none⟩) n n) (w.alloc (.cells C.toArray 22)) := by
  obtain ⟨i0, hi, hz0, hz1, hz2⟩ := info_parts infoU
  refine ⟨_, rfl, by simp, fun w => ?_⟩
  rw [← flatU]
  exact run_make_flat (enc := eU) (fun _ => rfl) (by decide) 0 _ _ i0 _ Try.underlying72 hi hz0 hz1 rfl .i64 .i64 n (by rw [hz2]; omega) (by omega) w

set_option maxRecDepth 100000 in
set_option maxHeartbeats 2000000 in
theorem calm_ok (hs : IsRb w p M T V A R) (hla : A.length ≤ 64) (hlr : R.length ≤ 32) : Calls Try.prog 51 #[.pointer (some ⟨p, 0, none⟩)] w fun e w' =>
    ∃ M', e = .returned (.tuple #[]) ∧ IsRb w' p M' T V (List.replicate A.length z3) (List.replicate R.length false) ∧ (∀ q, rfoot p M' q → rfoot p M q ∨ w.heap.size ≤ q) ∧ Kept (rfoot p M) w w' := by
  obtain ⟨o1, k1, o2, k2, o3, k3, hv, ha, hr, _, c14, c15⟩ := hs.lists
  obtain ⟨C, hC, hCl, mk⟩ := make_look A.length hla
  obtain ⟨D, hD, hDl, mk2⟩ := make_bool R.length (by omega)
  have f14 : w.frozen? ⟨p, 14, none⟩ = false := hs.blk.frozen 14
  have f15 : w.frozen? ⟨p, 15, none⟩ = false := hs.blk.frozen 15
  have hpl := hs.blk.lt
  have hne : ¬ p = w.heap.size := by omega
  have HS := Lib.hid hs
  have HC := Lib.hid hC
  have HD := Lib.hid hD
  clear hs hC hD
  go_enter Try.func51, Try.ntmps51
  go_wp2_with fail
  go_end0
  have k1' : Kept (fun i => i = p) w ((w.setCell ⟨p, 14, none⟩ (.slice (some ⟨w.heap.size, 0, none⟩) A.length A.length)).setCell ⟨p, 15, none⟩ (.slice (some ⟨w.heap.size + 1, 0, none⟩) R.length R.length)) :=
    ((Kept.refl (fun i => i = p) w).setCell (p := ⟨p, 14, none⟩) (Or.inl rfl) _).setCell (p := ⟨p, 15, none⟩) (Or.inl rfl) _
  have kf := (k1'.alloc (.cells C.toArray 129)).alloc (.cells D.toArray 4)
  have nb := (((HS.out.blk.set 14 (.slice (some ⟨w.heap.size, 0, none⟩) A.length A.length)).set 15 (.slice (some ⟨w.heap.size + 1, 0, none⟩) R.length R.length)).alloc (.cells C.toArray 129)).alloc (.cells D.toArray 4)
  have hz : ((w.setCell ⟨p, 14, none⟩ (.slice (some ⟨w.heap.size, 0, none⟩) A.length A.length)).setCell ⟨p, 15, none⟩ (.slice (some ⟨w.heap.size + 1, 0, none⟩) R.length R.length)).heap.size = w.heap.size := by
    simp only [World.size_setCell]
  have na := (Blk.new ((w.setCell ⟨p, 14, none⟩ (.slice (some ⟨w.heap.size, 0, none⟩) A.length A.length)).setCell ⟨p, 15, none⟩ (.slice (some ⟨w.heap.size + 1, 0, none⟩) R.length R.length)) C 129).alloc (.cells D.toArray 4)
  have nr := Blk.new (((w.setCell ⟨p, 14, none⟩ (.slice (some ⟨w.heap.size, 0, none⟩) A.length A.length)).setCell ⟨p, 15, none⟩ (.slice (some ⟨w.heap.size + 1, 0, none⟩) R.length R.length)).alloc (.cells C.toArray 129)) D 4
  rw [World.size_alloc, hz] at nr
  rw [hz] at na
  have hov : ∀ g, M.v.ownBlock = some g → g < w.heap.size := fun g hg => row_lt HS.out.rv hg
  refine ⟨⟨M.v, .slice (some ⟨w.heap.size, 0, none⟩) A.length A.length, .slice (some ⟨w.heap.size + 1, 0, none⟩) R.length R.length⟩, rfl, ⟨nb, ?_, ?_, ?_, ?_, ?_, ?_, ?_⟩, ?_, kf.mono (fun i _ h => Or.inl h)⟩
  · exact row_kept HS.out.rv kf (fun g hg e => (HS.out.pv g hg).1 e)
  · rw [List.length_replicate, ← HC.out]
    exact row_blk na hCl (by unfold maxLen; omega)
  · rw [List.length_replicate, ← HD.out]
    exact row_blk nr hDl (by unfold maxLen; omega)
  · rw [List.length_replicate, List.length_replicate]; exact HS.out.lens
  · intro g hg
    have := hov g hg
    refine ⟨(HS.out.pv g hg).1, fun e => ?_, fun e => ?_⟩
    · simp [Value.ownBlock] at e; omega
    · simp [Value.ownBlock] at e; omega
  · intro g hg
    simp [Value.ownBlock] at hg
    refine ⟨by omega, fun e => ?_⟩
    simp [Value.ownBlock] at e; omega
  · intro g hg
    simp [Value.ownBlock] at hg
    omega
  · rintro q (h | h | h | h)
    · exact Or.inl (Or.inl h)
    · exact Or.inl (Or.inr (Or.inl h))
    · simp [Value.ownBlock] at h; omega
    · simp [Value.ownBlock] at h; omega
end
end Go.Proofs.Ytemhfonneggneaa.RB
