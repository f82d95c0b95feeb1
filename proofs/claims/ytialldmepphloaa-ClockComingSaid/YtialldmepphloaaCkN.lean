/- The document's clock: New. -/
import Derived.Test.YtialldmepphloaaCkW
namespace Go.Proofs.Ytialldmepphloaa.CR
open Go.RowKit Go.Fr Go.Proofs.Ytialldmepphloaa.CK

set_option maxRecDepth 100000 in
set_option maxHeartbeats 2000000 in
theorem new_ok (nm : ByteArray) (mx bs mn n : Nat) (w : World) (h1 : 1 ≤ mx ∧ mx ≤ 2147483647) (h2 : 1 ≤ mn ∧ mn ≤ mx) (h3 : n ≤ 64) :
    Calls Try.prog 27 #[.agg #[.string nm, .int .u32 mx, .int .u32 bs, .int .u32 mn], .int .i64 n] w fun e w' =>
      ∃ b v, e = .returned (.tuple #[.pointer (some ⟨b, 0, none⟩), .int .i64 0]) ∧ IsRef w' b v nm bs mx mn 0 (List.replicate n (false, 0, 0)) ∧ (∀ i, foot b v i → w.heap.size ≤ i) ∧ Kept (fun _ => False) w w' := by
  obtain ⟨i0, hi, hz0, hz1, hz2⟩ := info_parts info_al
  have hmk : ∀ w, (Instr.makeSlice 58 (.int .i64 (n : Int)) (.int .i64 (n : Int))).run Try.prog w = .ok (.slice (some ⟨w.heap.size, 0, none⟩) n n) (w.alloc (.cells ((List.replicate n (false, 0, 0)).flatMap encA).toArray 87)) :=
    fun w => run_make_flat encA_len (by decide) (false, 0, 0) _ _ i0 _ Try.underlying58 hi hz0 hz1 rfl .i64 .i64 n (by rw [hz2]; omega) (by omega) w
  have bx := Blk.new w [.string nm, .int .u32 mx, .int .u32 bs, .int .u32 mn] 33
  have c0 := bx.cell 0 rfl
  have c1 := bx.cell 1 rfl
  have c2 := bx.cell 2 rfl
  have c3 := bx.cell 3 rfl
  have kA := (Kept.refl (fun _ => False) w).alloc (.cells #[.string nm, .int .u32 mx, .int .u32 bs, .int .u32 mn] 33)
  obtain ⟨C, hC⟩ : ∃ C : List Value, (List.replicate n ((false, 0, 0) : Bool × Nat × Nat)).flatMap encA = C := ⟨_, rfl⟩
  have hCl : C.length = n * 3 := by rw [← hC, flat_length encA_len]; simp
  simp only [hC] at hmk
  have d1 : decide ((mx : Int) < 1) = false := by simp; omega
  have d2 : decide ((2147483647 : Int) < mx) = false := by simp; omega
  have d3 : decide ((mn : Int) < 1) = false := by simp; omega
  have d4 : decide ((mx : Int) < mn) = false := by simp; omega
  have d5 : decide ((n : Int) < 0) = false := by simp
  have d6 : decide ((64 : Int) < n) = false := by simp; omega
  go_enter Try.func27, Try.ntmps27
  go_upto_region 3 with fail
  obtain ⟨w1, hw1⟩ : ∃ w1, w.alloc (.cells #[.string nm, .int .u32 mx, .int .u32 bs, .int .u32 mn] 33) = w1 := ⟨_, rfl⟩
  rw [hw1] at bx c0 c1 c2 c3 kA ⊢
  have hz : w.heap.size ≤ w1.heap.size := kA.size
  have HC := Lib.hid hC
  have KA := Lib.hid kA
  have a0 : ∀ o : Obj, (w1.alloc o).cell? ⟨w.heap.size, 0, none⟩ = some (.string nm) := fun o => (bx.alloc o).cell 0 rfl
  have a1 : ∀ o : Obj, (w1.alloc o).cell? ⟨w.heap.size, 1, none⟩ = some (.int .u32 mx) := fun o => (bx.alloc o).cell 1 rfl
  have a2 : ∀ o : Obj, (w1.alloc o).cell? ⟨w.heap.size, 2, none⟩ = some (.int .u32 bs) := fun o => (bx.alloc o).cell 2 rfl
  have a3 : ∀ o : Obj, (w1.alloc o).cell? ⟨w.heap.size, 3, none⟩ = some (.int .u32 mn) := fun o => (bx.alloc o).cell 3 rfl
  clear hw1 hC kA bx d1 d2 d3 d4 d5 d6
  refine wp_region_noPanic ?_
  go_region_law fail
  all_goals
    refine NoPanic.normal ?_
    go_wp2
    go_ret2
    have nr := row_new w1 87 3 n C hCl (by unfold maxLen; omega)
    have nb := Blk.new (w1.alloc (.cells C.toArray 87)) [.bool true, .string nm, .int .u32 mx, .int .u32 bs, .int .u32 mn, .int .u32 0, .slice (some ⟨w1.heap.size, 0, none⟩) n n] 60
    rw [World.size_alloc] at nb
    refine ⟨w1.heap.size + 1, .slice (some ⟨w1.heap.size, 0, none⟩) n n, rfl, ⟨Blk.heap nb rfl, ?_, by simp [Value.ownBlock]⟩, ?_, ?_⟩
    · rw [List.length_replicate, HC.out]; exact row_heap (row_alloc nr _) (fun _ _ => rfl)
    · rintro i (h | h)
      · omega
      · simp [Value.ownBlock] at h; omega
    · exact ((KA.out.alloc _).alloc _).same rfl rfl rfl rfl
end Go.Proofs.Ytialldmepphloaa.CR
