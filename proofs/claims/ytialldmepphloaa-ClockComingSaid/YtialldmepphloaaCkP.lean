/- The document's clock: Copy. -/
import Derived.Test.YtialldmepphloaaCkO
namespace Go.Proofs.Ytialldmepphloaa.CR
open Go.RowKit Go.Fr Go.Proofs.Ytialldmepphloaa.CK

section
variable {w : World} {b : Nat} {v : Value} {nm : ByteArray} {bs m n x : Nat} {l : List (Bool × Nat × Nat)}

theorem encA_ones' (l : List (Bool × Nat × Nat)) : ∀ u ∈ l.flatMap encA, u.oneCell' = true := by
  intro u hu
  obtain ⟨x, _, hx⟩ := List.mem_flatMap.1 hu
  simp only [encA, List.mem_cons, List.not_mem_nil, or_false] at hx
  rcases hx with rfl | rfl | rfl <;> rfl

set_option maxRecDepth 100000 in
set_option maxHeartbeats 4000000 in
theorem copy_ok (hlen : l.length ≤ 64) (hs : IsRef w b v nm bs m n x l) : Calls Try.prog 30 #[.pointer (some ⟨b, 0, none⟩)] w fun e w' =>
    ∃ b' v', e = .returned (.pointer (some ⟨b', 0, none⟩)) ∧ IsRef w' b' v' nm bs m n x l ∧ (∀ i, foot b' v' i → w.heap.size ≤ i) ∧ Kept (fun _ => False) w w' := by
  obtain ⟨i0, hi, hz0, hz1, hz2⟩ := info_parts info_al
  obtain ⟨ao, c, rfl, hc⟩ := row_any hs.2.1
  have c0 := hs.1.cell 0 rfl
  have c1 := hs.1.cell 1 rfl
  have c2 := hs.1.cell 2 rfl
  have c3 := hs.1.cell 3 rfl
  have c4 := hs.1.cell 4 rfl
  have c5 := hs.1.cell 5 rfl
  have hlt := hs.lt
  have HS := Lib.hid hs
  clear hs
  go_enter Try.func30, Try.ntmps30
  go_upto_region 1 with fail
  go_cut [3] from 4 to 17 (fun t3 wx => t3 = .pointer (some ⟨w.heap.size, 0, none⟩) ∧ ∃ k, wx = (w.alloc (.cells #[.bool true, .string nm, .int .u32 m, .int .u32 bs, .int .u32 n, .int .u32 x, .slice none 0 0] 60)).drewN k)
  case first =>
    refine wp_region_noPanic ?_
    go_region_law fail
    all_goals
      refine NoPanic.normal ?_
      go_wp2_with fail
      go_meet
      exact ⟨rfl, 1, rfl⟩
  case rest =>
    obtain ⟨rfl, k, rfl⟩ := hcut
    have nb := (Blk.new w [.bool true, .string nm, .int .u32 m, .int .u32 bs, .int .u32 n, .int .u32 x, .slice none 0 0] 60).drewN k
    have kA := ((Kept.refl (fun _ => False) w).alloc (.cells #[.bool true, .string nm, .int .u32 m, .int .u32 bs, .int .u32 n, .int .u32 x, .slice none 0 0] 60)).drewN k
    obtain ⟨N, hN⟩ : ∃ N, w.heap.size = N := ⟨_, rfl⟩
    obtain ⟨w1, hw1⟩ : ∃ w1, (w.alloc (.cells #[.bool true, .string nm, .int .u32 m, .int .u32 bs, .int .u32 n, .int .u32 x, .slice none 0 0] 60)).drewN k = w1 := ⟨_, rfl⟩
    have hz : w1.heap.size = N + 1 := by rw [← hw1, ← hN]; exact World.size_alloc _ _
    have hbN : b < N := by rw [← hN]; exact hlt b (Or.inl rfl)
    have hn0 : (Value.slice none 0 0).ownBlock ≠ some N := by simp [Value.ownBlock]
    rw [hw1, hN] at nb
    rw [hw1] at kA ⊢
    simp only [hN]
    have hs1 := HS.out.kept kA (fun _ _ h => h)
    clear hw1 c0 c1 c2 c3 c4 c5 hlt
    have n6 := nb.cell 6 rfl
    have t6 := hs1.1.cell 6 rfl
    have HN := Lib.hid hN
    have HZ := Lib.hid hz
    have NB := Lib.hid nb
    have KA := Lib.hid kA
    have H1 := Lib.hid hs1
    clear hN hz nb kA hs1
    go_upto_region 2 with fail
    refine wp_region_noPanic ?_
    go_region_law (refine step_append_any (by rfl) (.tmp 22) (.tmp 26) 58 (by rfl) 87 i0 (.agg #[.bool false, .int .u64 0, .int .u32 0]) 3 24 Try.underlying58 hi hz0 hz1 hz2 (by rfl) (by decide) none 0 0 [] (by simp [Act.eval]) (World.ownsRow_nil _ _ _ _) ao l.length c (l.flatMap encA) (by simp [Act.eval]) (H1.out.2.1.shows.heap (fun _ _ => rfl)) (encA_ones' l) (by unfold maxLen; omega) (by omega) ?_; intro xa xc xw r1 r2 r3; have hn1 := blk_after r2 NB.out rfl (by simp [Value.ownBlock]); have k2 := hn1.frozen 6; have k3 := hn1.cell 6 rfl)
    all_goals
      refine NoPanic.normal ?_
      simp only [Nat.zero_add] at r1 r3
      try simp only [Nat.zero_add]
      rw [List.nil_append] at r1
      have hge : ∀ g, (Value.slice xa l.length xc).ownBlock = some g → N + 1 ≤ g := fun g hg => (r3 g hg).elim (fun e => by cases e) (fun h => by have hz := HZ.out; first | (rw [hz] at h; exact h) | (have := h; simp at this; omega))
      have hne : (Value.slice xa l.length xc).ownBlock ≠ some N := fun e => by have := hge _ e; omega
      have kk : Kept (fun i => i = N) w1 (xw.setCell ⟨N, 6, none⟩ (.slice xa l.length xc)) := (((Kept.refl (fun i => i = N) w1).same (by exact rfl) (by exact rfl) (by exact rfl) (by exact rfl)).grown r2 (fun k hk => by cases hk)).set (b := N) 6 (Or.inl rfl) _
      have nb2 := hn1.set 6 (.slice xa l.length xc)
      have nr2 := row_setCell_other r1 (a := ⟨N, 6, none⟩) hne (.slice xa l.length xc)
      have K2 := Lib.hid kk
      have B2 := Lib.hid nb2
      have R2 := Lib.hid nr2
      have G := Lib.hid hge
      have HNE := Lib.hid hne
      clear kk nb2 nr2 hge hne r1 r2 r3 hn1
      go_wp2
      go_ret
      refine ⟨N, .slice xa l.length xc, rfl, ⟨Blk.heap B2.out (by rfl), row_heap R2.out (fun _ _ => rfl), HNE.out⟩, ?_, ?_⟩
      · rw [HN.out]
        rintro i (h | h)
        · omega
        · have := G.out i h; omega
      · exact (KA.out.then K2.out (fun i hi => Or.inr (by rw [HN.out]; omega))).same (by rfl) (by rfl) (by rfl) (by rfl)
end
end Go.Proofs.Ytialldmepphloaa.CR
