/- Package clock: Reset, Copy, soonest. -/
import Derived.Test.YtemhfonneggneaaKcB
import Derived.Test.YtemhfonneggneaaMem
import Derived.Test.YtemhfonneggneaaComL
import Derived.Test.YtemhfonneggneaaArgF
namespace Go.Proofs.Ytemhfonneggneaa.CK
open Go.RowKit Go.Fr

theorem encA_one : ∀ u ∈ encA (false, 0, 0), u.oneCell' = true := by
  intro u hu; simp only [encA, List.mem_cons, List.not_mem_nil, or_false] at hu
  rcases hu with rfl | rfl | rfl <;> rfl
theorem encA_ones (l : List (Bool × Nat × Nat)) : ∀ u ∈ l.flatMap encA, u.oneCell' = true := by
  intro u hu
  obtain ⟨a, _, ha⟩ := List.mem_flatMap.1 hu
  simp only [encA, List.mem_cons, List.not_mem_nil, or_false] at ha
  rcases ha with rfl | rfl | rfl <;> rfl
theorem zeroA (w : World) : (zeroValue 142).run Try.prog w = .ok (.agg #[.bool false, .int .u64 0, .int .u32 0]) w := by kernel_rfl

section
variable {w : World} {b : Nat} {v : Value} {m n x : Nat} {l : List (Bool × Nat × Nat)}

theorem fine_reset (h : Fine m n x l) : Fine m n 0 (List.replicate l.length (false, 0, 0)) := by
  refine ⟨h.hmost, h.hleast, Nat.zero_le _, by simpa using h.hlen, ?_, ?_, ?_⟩ <;> (intro a ha; obtain rfl := List.eq_of_mem_replicate ha; simp)

set_option maxRecDepth 100000 in
set_option maxHeartbeats 2000000 in
theorem copy_ok (hs : IsClk w b v m n x l) : Calls Try.prog 37 #[.pointer (some ⟨b, 0, none⟩)] w fun e w' =>
    ∃ b' v', e = .returned (.pointer (some ⟨b', 0, none⟩)) ∧ IsClk w' b' v' m n x l ∧ (∀ i, foot b' v' i → w.heap.size ≤ i) ∧ Kept (fun _ => False) w w' := by
  obtain ⟨i0, hi, hz0, hz1, hz2⟩ := info_parts info_a
  have hlen := hs.2.2.2.hlen
  obtain ⟨ao, c, rfl, hc⟩ := row_any hs.2.1
  have hmk : ∀ w, (Instr.makeSlice 136 (.int .i64 (l.length : Int)) (.int .i64 (l.length : Int))).run Try.prog w = .ok (.slice (some ⟨w.heap.size, 0, none⟩) l.length l.length) (w.alloc (.cells ((List.replicate l.length (false, 0, 0)).flatMap encA).toArray 142)) :=
    fun w => run_make_flat encA_len (by decide) (false, 0, 0) _ _ i0 _ Try.underlying136 hi hz0 hz1 rfl .i64 .i64 l.length (by rw [hz2]; omega) (by omega) w
  have c0 := hs.1.cell 0 rfl
  have c1 := hs.1.cell 1 rfl
  have c2 := hs.1.cell 2 rfl
  have c3 := hs.1.cell 3 rfl
  have c4 := hs.1.cell 4 rfl
  go_enter Try.func37, Try.ntmps37
  go_upto_region 4 with (go_at_call 61; refine (alive_ok hs).mono ?_; rintro e w' ⟨rfl, rfl⟩)
  obtain ⟨N, hN⟩ : ∃ N, w.heap.size = N := ⟨_, rfl⟩
  have hbN : b < N := by have := hs.1.lt; omega
  have nb := Blk.new w [.bool true, .int .u32 m, .int .u32 n, .int .u32 x, .slice ao l.length c] 138
  have k1 := (Kept.refl (fun _ => False) w).alloc (.cells #[.bool true, .int .u32 m, .int .u32 n, .int .u32 x, .slice ao l.length c] 138)
  have hs1 := hs.kept k1 (fun _ _ h => h)
  have z1 : (w.alloc (.cells #[.bool true, .int .u32 m, .int .u32 n, .int .u32 x, .slice ao l.length c] 138)).heap.size = N + 1 := by rw [World.size_alloc, hN]
  rw [hN] at nb
  simp only [hN]
  obtain ⟨w1, hw1⟩ : ∃ w1, w.alloc (.cells #[.bool true, .int .u32 m, .int .u32 n, .int .u32 x, .slice ao l.length c] 138) = w1 := ⟨_, rfl⟩
  rw [hw1] at nb k1 hs1 z1 ⊢
  have HS := Lib.hid hs
  have HN := Lib.hid hN
  clear hw1 c0 c1 c2 c3 c4 hs hN
  have c4 := hs1.1.cell 4 rfl
  have n4 := nb.cell 4 rfl
  have f4 := nb.frozen 4
  have hlt : N < N + 1 := by omega
  -- behind region 4
  have rw2 := row_new (w1.setCell ⟨N, 4, none⟩ (.slice (some ⟨N + 1, 0, none⟩) l.length l.length)) 142 3 l.length ((List.replicate l.length (false, 0, 0)).flatMap encA) (by rw [flat_length encA_len]; simp) (by unfold maxLen; omega)
  rw [World.size_setCell, z1] at rw2
  have nb2 := (nb.set 4 (.slice (some ⟨N + 1, 0, none⟩) l.length l.length)).alloc (.cells ((List.replicate l.length (false, 0, 0)).flatMap encA).toArray 142)
  have k2 := ((Kept.refl (fun i => i = N) w1).setCell (p := ⟨N, 4, none⟩) (Or.inl rfl) (.slice (some ⟨N + 1, 0, none⟩) l.length l.length)).alloc (.cells ((List.replicate l.length (false, 0, 0)).flatMap encA).toArray 142)
  have hfo : ∀ i, foot b (.slice ao l.length c) i → i < N := fun i hi => by have := HS.out.lt i hi; rw [HN.out] at this; exact this
  have hs2 := hs1.kept k2 (fun i hi e => by have := hfo i hi; omega)
  have RW2 := Lib.hid rw2
  have NB2 := Lib.hid nb2
  have K2 := Lib.hid k2
  have HS2 := Lib.hid hs2
  have NB := Lib.hid nb
  have HFO := Lib.hid hfo
  clear rw2 nb2 k2 hs2 hs1 nb hfo
  go_upto_region 5 with fail
  obtain ⟨w2, hw2⟩ : ∃ w2, (w1.setCell ⟨N, 4, none⟩ (.slice (some ⟨N + 1, 0, none⟩) l.length l.length)).alloc (.cells ((List.replicate l.length (false, 0, 0)).flatMap encA).toArray 142) = w2 := ⟨_, rfl⟩
  have rw2 := RW2.out
  have nb2 := NB2.out
  have k2 := K2.out
  have hs2 := HS2.out
  rw [hw2] at rw2 nb2 k2 hs2 ⊢
  have RW := Lib.hid rw2
  have K1 := Lib.hid k1
  have K2' := Lib.hid k2
  clear hw2 RW2 NB2 K2 HS2 c4 n4 f4 rw2 k1 k2
  have c4 := hs2.1.cell 4 rfl
  have n4 := nb2.cell 4 rfl
  have NB3 := Lib.hid nb2
  have HS3 := Lib.hid hs2
  clear nb2 hs2
  refine wp_region_noPanic ?_
  go_region_law (refine step_copy_flat (by rfl) (.tmp 18) (.tmp 22) 136 136 (by rfl) 142 i0 3 Try.underlying136 hi hz1 (some ⟨N + 1, 0, none⟩) l.length l.length _ (by simp [Act.eval]) (row_heap RW.out (fun _ _ => rfl)) ao l.length c (l.flatMap encA) (by simp [Act.eval]) (HS3.out.2.1.shows.heap (fun _ _ => rfl)) (Nat.le_refl _) (encA_ones l) ?_; intro w3 r3 k3)
  all_goals
    refine NoPanic.normal ?_
    go_wp2
    go_ret
    have hd : ((List.replicate l.length (false, 0, 0)).flatMap encA).drop (l.length * 3) = [] := by rw [List.drop_eq_nil_iff, flat_length encA_len]; simp
    rw [hd, List.append_nil] at r3
    have kz : Kept (fun i => i = N + 1) w2 w3 := ((Kept.refl (fun i => i = N + 1) w2).same (by rfl) (by rfl) (by rfl) (by rfl)).then (k3.mono (S' := fun i => i = N + 1) (fun i _ hi => by simp [Value.ownBlock] at hi; exact hi.symm)) (fun _ h => Or.inl h)
    have kf : Kept (fun i => i = N + 1) w3 _ := (Kept.refl (fun i => i = N + 1) w3).same (by rfl) (by rfl) (by rfl) (by rfl)
    refine ⟨N, .slice (some ⟨N + 1, 0, none⟩) l.length l.length, rfl, ⟨(NB3.out.kept kz (by omega)).heap (by rfl), row_heap r3 (fun _ _ => rfl), by simp [Value.ownBlock], HS3.out.2.2.2⟩, ?_, ?_⟩
    · rintro i (h | h)
      · rw [HN.out]; omega
      · simp [Value.ownBlock] at h; rw [HN.out]; omega
    · exact ((K1.out.then K2'.out (fun i hi => Or.inr (by rw [HN.out]; omega))).then kz (fun i hi => Or.inr (by rw [HN.out]; omega))).same (by rfl) (by rfl) (by rfl) (by rfl)

/-- what soonest tells -/
def sp (l : List (Bool × Nat × Nat)) : Nat × Bool := match Com.soon l with | none => (0, false) | some n => (n, true)
theorem sp_skip {l : List (Bool × Nat × Nat)} {k lf cy : Nat} (h : l[k]? = some (false, lf, cy)) : sp (l.take (k + 1)) = sp (l.take k) := by
  unfold sp; rw [List.take_add_one, h, Option.toList_some, Com.soon_snoc]; rfl
theorem sp_first {l : List (Bool × Nat × Nat)} {k lf cy q : Nat} (h : l[k]? = some (true, lf, cy)) (hs : sp (l.take k) = (q, false)) : sp (l.take (k + 1)) = (lf, true) := by
  unfold sp at *; rw [List.take_add_one, h, Option.toList_some, Com.soon_snoc]
  cases hc : Com.soon (l.take k) with
  | none => rfl
  | some m => rw [hc] at hs; simp at hs
theorem sp_more {l : List (Bool × Nat × Nat)} {k lf cy q : Nat} (h : l[k]? = some (true, lf, cy)) (hs : sp (l.take k) = (q, true)) : sp (l.take (k + 1)) = (min q lf, true) := by
  unfold sp at *; rw [List.take_add_one, h, Option.toList_some, Com.soon_snoc]
  cases hc : Com.soon (l.take k) with
  | none => rw [hc] at hs; simp at hs
  | some m =>
    rw [hc] at hs; simp only [Prod.mk.injEq, and_true] at hs
    simp [hs]

end
end Go.Proofs.Ytemhfonneggneaa.CK
