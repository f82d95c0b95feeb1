/- The document's clock: Reset. -/
import Derived.Test.YtialldmepphloaaCkT
namespace Go.Proofs.Ytialldmepphloaa.CR
open Go.RowKit Go.Fr Go.Proofs.Ytialldmepphloaa.CK

theorem info_al : (Try.prog.info? 87).map (fun i => (i.zero, i.size, i.bytes)) = some (some (.agg #[.bool false, .int .u64 0, .int .u32 0]), 3, 24) := by kernel_rfl

section
variable {w : World} {b : Nat} {v : Value} {nm : ByteArray} {bs m n x : Nat} {l : List (Bool × Nat × Nat)}

set_option maxRecDepth 100000 in
set_option maxHeartbeats 2000000 in
theorem reset_ok (hlen : l.length ≤ 64) (hs : IsRef w b v nm bs m n x l) : Calls Try.prog 53 #[.pointer (some ⟨b, 0, none⟩)] w fun e w' =>
    ∃ v', e = .returned (.tuple #[]) ∧ IsRef w' b v' nm bs m n 0 (List.replicate l.length (false, 0, 0)) ∧ (∀ i, foot b v' i → i = b ∨ w.heap.size ≤ i) ∧ Kept (fun i => i = b) w w' := by
  obtain ⟨i0, hi, hz0, hz1, hz2⟩ := info_parts info_al
  obtain ⟨ao, c, rfl, hc⟩ := row_any hs.2.1
  have hmk : ∀ w, (Instr.makeSlice 58 (.int .i64 (l.length : Int)) (.int .i64 (l.length : Int))).run Try.prog w = .ok (.slice (some ⟨w.heap.size, 0, none⟩) l.length l.length) (w.alloc (.cells ((List.replicate l.length (false, 0, 0)).flatMap encA).toArray 87)) :=
    fun w => run_make_flat encA_len (by decide) (false, 0, 0) _ _ i0 _ Try.underlying58 hi hz0 hz1 rfl .i64 .i64 l.length (by rw [hz2]; omega) (by omega) w
  have nb := hs.1.set 5 (.int .u32 0)
  have hbl := hs.1.lt
  have c5 := hs.1.cell 5 rfl
  have f5 := hs.1.frozen 5
  have kk := (Kept.refl (fun i => i = b) w).set (b := b) 5 (Or.inl rfl) (.int .u32 0)
  have HB := Lib.hid nb
  have K := Lib.hid kk
  clear nb kk hs
  go_enter Try.func53, Try.ntmps53
  go_upto_region 1 with fail
  obtain ⟨w1, hw1⟩ : ∃ w1, w.setCell ⟨b, 5, none⟩ (.int .u32 0) = w1 := ⟨_, rfl⟩
  have hsz : w1.heap.size = w.heap.size := by rw [← hw1, World.size_setCell]
  have nb := HB.out
  have kk := K.out
  rw [hw1] at nb kk ⊢
  clear hw1 c5 f5 HB K
  have c6 := nb.cell 6 rfl
  have f6 := nb.frozen 6
  obtain ⟨C, hC⟩ : ∃ C : List Value, (List.replicate l.length ((false, 0, 0) : Bool × Nat × Nat)).flatMap encA = C := ⟨_, rfl⟩
  have hCl : C.length = l.length * 3 := by rw [← hC, flat_length encA_len]; simp
  simp only [hC] at hmk
  have nb2 := (nb.set 6 (.slice (some ⟨w1.heap.size, 0, none⟩) l.length l.length)).alloc (.cells C.toArray 87)
  have nr := row_new (w1.setCell ⟨b, 6, none⟩ (.slice (some ⟨w1.heap.size, 0, none⟩) l.length l.length)) 87 3 l.length C hCl (by unfold maxLen; omega)
  rw [World.size_setCell] at nr
  have k2 := (kk.set (b := b) 6 (Or.inl rfl) (.slice (some ⟨w1.heap.size, 0, none⟩) l.length l.length)).alloc (.cells C.toArray 87)
  have hb1 : b < w1.heap.size := by omega
  have HSZ := Lib.hid hsz
  clear hsz
  have NB := Lib.hid nb2
  have NR := Lib.hid nr
  have K := Lib.hid k2
  have HC := Lib.hid hC
  clear nb nb2 nr k2 kk hC
  go_wp2
  go_end0
  refine ⟨.slice (some ⟨w1.heap.size, 0, none⟩) l.length l.length, rfl, ⟨NB.out, ?_, by simp [Value.ownBlock]; omega⟩, ?_, K.out⟩
  · rw [List.length_replicate, HC.out]; exact NR.out
  · have hsz := HSZ.out
    rintro i (h | h)
    · exact Or.inl h
    · simp [Value.ownBlock] at h; exact Or.inr (by omega)
end
end Go.Proofs.Ytialldmepphloaa.CR
