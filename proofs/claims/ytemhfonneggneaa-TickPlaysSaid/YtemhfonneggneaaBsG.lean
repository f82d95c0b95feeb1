/- The program's board: Copy. -/
import Derived.Test.YtemhfonneggneaaBsF
import Derived.Test.YtemhfonneggneaaKcC
import Derived.Deep.RegionLaw
import Derived.Laws.Rows
import Derived.Deep.WholeRow
namespace Go.Proofs.Ytemhfonneggneaa.BS
open Go.RowKit Go.Fr Go.Tb Go.Proofs.Ytemhfonneggneaa.CK Go.Proofs.Ytemhfonneggneaa.BD
attribute [local go_sem] Oper.semAt_some
theorem infoK : (Try.prog.info? 87).map (fun i => (i.zero, i.size, i.bytes)) = some (some (.agg #[.pointer none, .slice none 0 0]), 2, 32) := by kernel_rfl
theorem bcells_size {M : Bm} {T : Tb} {R : List Bool} (h : R.length = 32) : (bcells M T R).toArray.size = 39 := by
  simp [bcells, h]
theorem bcells_one {M : Bm} {T : Tb} {R : List Bool} (h : ∀ v ∈ [M.vr, M.va, M.vp, M.vc, M.vi], v.oneCell' = true) : (bcells M T R).toArray.all (·.oneCell') = true := by
  rw [Array.all_eq_true_iff_forall_mem]
  intro v hv
  simp only [bcells, List.mem_toArray, List.mem_append, List.mem_cons, List.not_mem_nil, or_false, List.mem_map] at hv
  rcases hv with (rfl | rfl | rfl | rfl | rfl | rfl) | ⟨x, _, rfl⟩ | rfl
  · exact h _ (by simp)
  · exact h _ (by simp)
  · exact h _ (by simp)
  · exact h _ (by simp)
  · rfl
  · exact h _ (by simp)
  · rfl
  · rfl
theorem lv_one {α : Type} {w : World} {v : Value} {sz : Nat} {enc : α → List Value} {l : List α} (h : Lv w v sz enc l) : v.oneCell' = true := by
  obtain ⟨ao, c, rfl, _⟩ := h
  rfl
section
variable {w : World} {b : Nat} {M : Bm} {T : Tb} {C : List Cs} {R : List Bool}
set_option maxRecDepth 100000 in
set_option maxHeartbeats 8000000 in
theorem copy_board (hs : IsBd w b M T C R) (hn : T.counters.length ≤ 16) : Calls Try.prog 17 #[.pointer (some ⟨b, 0, none⟩)] w fun e w' =>
    ∃ N vc K, e = .returned (.pointer (some ⟨N, 0, none⟩)) ∧ IsBd w' b M T C R ∧ IsBd w' N (cM M vc K) T C R ∧ (∀ g, bfoot N (cM M vc K) g → bfoot b M g ∨ w.heap.size ≤ g) ∧ N ≠ b ∧ (w.heap.size ≤ N ∧ (∀ g, vc.ownBlock = some g → w.heap.size ≤ g) ∧ ∀ x ∈ K, ∀ g, foot x.1 x.2 g → w.heap.size ≤ g) ∧ Kept (fun _ => False) w w' := by
  have ha := alive_ok hs
  have HA := Lib.hid ha
  have hlt := hs.lt
  have hone := bcells_one (M := M) (T := T) (R := R) (by
    intro v hv
    simp only [List.mem_cons, List.not_mem_nil, or_false] at hv
    rcases hv with rfl | rfl | rfl | rfl | rfl
    · exact lv_one hs.rows
    · exact lv_one hs.alarms
    · exact lv_one hs.places
    · exact lv_one hs.ctrs
    · exact lv_one hs.isrs)
  have hsz := bcells_size (M := M) (T := T) (R := R) hs.n32
  have hblk := hs.blk
  obtain ⟨va, vk, hvc, _⟩ := hs.ctrs
  obtain ⟨cs2, hcs2⟩ : ∃ cs2, (bcells M T R).toArray.setIfInBounds 3 (.slice none 0 0) = cs2 := ⟨_, rfl⟩
  have k2 := (Kept.refl (fun _ => False) w).alloc (.cells cs2 68)
  have hC0 : Hid (Cp w (w.alloc (.cells cs2 68)) b M T C R w.heap.size (.slice none 0 0) []) := by
    refine ⟨hs.same k2, hs.lt, ?_, Nat.le_refl _, k2, World.ownsRow_nil _ _ _ _, fun g hg => (by cases hg), fun c s cb _ h => (by simp at h), fun cb h => (by cases h), fun c d x y h => (by simp at h)⟩
    rw [← hcs2, List.setIfInBounds_toArray]
    exact Blk.new w _ _
  obtain ⟨cs, hcs⟩ : ∃ cs, (bcells M T R).toArray = cs := ⟨_, rfl⟩
  have hg : w.heap[b]? = some (.cells cs 68 (0, 0)) := by rw [← hcs]; exact hblk
  rw [hcs] at hone hsz hcs2
  have hi : (Try.prog.info? 68).map (·.size) = some cs.size := by rw [hsz]; kernel_rfl
  have hst := run_storeCells_new (P := Try.prog) w 68 Z cs hi (by rw [hsz]; kernel_rfl) hone
  have hb := z_run
  have c3 := hblk.cell 3 (v := M.vc) rfl
  rw [hvc] at c3
  have c3' : (w.alloc (.cells cs2 68)).cell? ⟨b, 3, none⟩ = some (.slice va (M.cb.zip M.sl).length vk) := World.cell?_alloc_some w _ _ (by rw [c3]; rfl) |>.trans c3
  have hzl : (M.cb.zip M.sl).length = T.counters.length := by rw [List.length_zip, hs.lens.1, hs.lens.2.1, Nat.min_self]
  rw [hzl] at c3 c3'
  clear hcs hblk ha hs k2
  go_enter Try.func17, Try.ntmps17
  go_upto_region 3 with (go_at_call 29; refine HA.out.mono ?_; rintro e w1 ⟨rfl, rfl⟩)
  go_wp2_with (refine wpList_load_row rfl 68 _ rfl b rfl 68 cs (0, 0) _ hg Try.underlying68 rfl hi ?_)
  obtain ⟨w2, hw2⟩ : ∃ w2, w.alloc (.cells cs2 68) = w2 := ⟨_, rfl⟩
  obtain ⟨N, hN⟩ : ∃ N, w.heap.size = N := ⟨_, rfl⟩
  rw [hw2] at hC0 ⊢
  rw [hN] at hC0 ⊢
  clear hw2 hg hi hst hb c3 c3' hone hsz HA hcs2
  have HLT := Lib.hid hlt
  clear hlt
  go_loopw [18] (fun i wr => ∃ (k : Nat) (vc : Value) (K : List (Nat × Value)), k ≤ T.counters.length ∧ i = .int .i64 k ∧ K.length = k ∧ Hid (Cp w wr b M T C R N vc K)) (fun i _ => T.counters.length - (intOf i).toNat)
  case atStart => exact ⟨0, _, [], Nat.zero_le _, rfl, rfl, hC0⟩
  case round =>
    clear hC0
    obtain ⟨k, vc, K, hk, rfl, hK, hC⟩ := hrel
    by_cases hkl : k < T.counters.length
    · obtain ⟨s, cb, v, r, h1, h2, h3, _⟩ := hC.out.src.at hkl
      obtain ⟨g, o, cc, e3, hgl, q0, q1⟩ := hC.out.src.ctr h2 h3
      obtain ⟨av, ak, rfl, _⟩ := hC.out.src.sls k v h3
      rw [hvc] at e3
      injection e3 with e4 _ _
      subst e4
      have hk0 : (0 : Int) ≤ (k : Int) := by omega
      have hk1 : (k : Int) < (T.counters.length : Int) := by omega
      have H1 := Lib.hid h1
      have H2 := Lib.hid h2
      have H3 := Lib.hid h3
      have HVC := Lib.hid hvc
      clear h1 h2 h3 hvc
      go_upto_region 8 with fail
      have kb := (Kept.refl (fun _ => False) wr).alloc (.cells #[.pointer (some ⟨cb.1, 0, none⟩), .slice av (alsOf T.alarms k).length ak] 87)
      have nb := Blk.new wr [.pointer (some ⟨cb.1, 0, none⟩), .slice av (alsOf T.alarms k).length ak] 87
      obtain ⟨w8, hw8⟩ : ∃ w8, wr.alloc (.cells #[.pointer (some ⟨cb.1, 0, none⟩), .slice av (alsOf T.alarms k).length ak] 87) = w8 := ⟨_, rfl⟩
      obtain ⟨g8, hg8⟩ : ∃ g8, wr.heap.size = g8 := ⟨_, rfl⟩
      rw [hw8] at nb kb ⊢
      rw [hg8] at nb
      try rw [hg8]
      have HC8 := Lib.hid (hC.out.same kb)
      have NB8 := Lib.hid nb
      clear kb hw8 hg8 q0 q1 hgl hC nb
      obtain ⟨i0, hi, hz0, hz1, hz2⟩ := info_parts infoK
      have hrow := HC8.out.row
      rw [hK] at hrow
      obtain ⟨vo, vcc, rfl, _⟩ := row_any hrow
      clear hrow
      have n3 := HC8.out.blk.cell 3 (v := .slice vo k vcc) rfl
      have y0 := NB8.out.cell 0 rfl
      have y1 := NB8.out.cell 1 rfl
      have HCOP : Hid (∀ wz, Kept (fun _ => False) w8 wz → Calls Try.prog 37 #[.pointer (some ⟨cb.1, 0, none⟩)] wz fun e w' => ∃ b' v', e = .returned (.pointer (some ⟨b', 0, none⟩)) ∧ Cp w w' b M T C R N (.slice vo k vcc) K ∧ IsClk w' b' v' s.mx s.mn s.x s.l ∧ (∀ i, foot b' v' i → w8.heap.size ≤ i) ∧ Kept (fun _ => False) w8 w') := fun wz kz => by
        refine (copy_ok ((HC8.out.same kz).src.clk k s cb H1.out H2.out)).mono ?_
        rintro e w' ⟨b', v', rfl, hc, hf, k'⟩
        exact ⟨b', v', rfl, (HC8.out.same kz).same k', hc, fun i hi => Nat.le_trans kz.size (hf i hi), kz.then k' (fun _ x => x.elim)⟩
      have hklen := hK
      have HK2 := Lib.hid hK
      clear hK
      refine wp_region_noPanic ?_
      go_region_law (first
        | (go_simp; go_at_call 37; refine (HCOP.out _ (by exact (Kept.refl _ _).same rfl rfl rfl rfl)).mono ?_; rintro e w9 ⟨b', v', rfl, hC9, hc9, hf9, k9⟩; have n9 := hC9.blk.cell 3 (v := .slice vo k vcc) rfl; have n9a : (w9.alloc (.cells #[.pointer (some ⟨b', 0, none⟩), .slice av (alsOf T.alarms k).length ak] 87)).cell? ⟨N, 3, none⟩ = some (.slice vo k vcc) := World.cell?_alloc_some w9 _ _ (by rw [n9]; rfl) |>.trans n9; have z0 := (NB8.out.kept k9 (fun x => x)).cell 0 rfl; have z1 := (NB8.out.kept k9 (fun x => x)).cell 1 rfl; have hr9 := hC9.row; rw [HK2.out] at hr9)
        | (refine step_append_any (by rfl) (.tmp 23) (.tmp 30) 64 (by rfl) 87 i0 (.agg #[.pointer none, .slice none 0 0]) 2 32 Try.underlying64 hi hz0 hz1 hz2 (by rfl) (by decide) vo k vcc ((K.zip (M.sl.take k)).flatMap encN) (by simp [Act.eval]) (row_alloc hr9 _) (some ⟨w9.heap.size, 0, none⟩) 1 1 [.pointer (some ⟨b', 0, none⟩), .slice av (alsOf T.alarms k).length ak] (by simp [Act.eval]) (shows_new _ _ _ (by simp) (by rfl)) (by simp [Value.oneCell']) (by unfold maxLen; omega) (by omega) ?_; intro ao5 c5 wq r1 r2 r3; have kc : Kept (fun g => (Value.slice vo k vcc).ownBlock = some g) w9 wq := ((Kept.refl _ w9).alloc (.cells #[.pointer (some ⟨b', 0, none⟩), .slice av (alsOf T.alarms k).length ak] 87)).grown r2 (fun g e => Or.inl e); have hn1 := hC9.blk.kept kc (fun e => (hC9.own N e).2 rfl); have k2 := hn1.frozen 3; have k3 := hn1.cell 3 (v := .slice vo k vcc) rfl))
      all_goals
        refine NoPanic.normal ?_
        have hk8 : K.length = k := HK2.out
        have hfin : Hid (∀ wf, Kept (fun _ => False) (wq.setCell ⟨N, 3, none⟩ (.slice ao5 (k + 1) c5)) wf → Cp w wf b M T C R N (.slice ao5 (k + 1) c5) (K ++ [(b', v')])) := fun wf kf => by
          subst hk8
          exact HC8.out.step H1.out H3.out k9 hc9 hf9 ((Kept.refl (fun _ => False) w9).alloc _) r2 r1 r3 kf
        clear r1 r2 r3 kc hn1 k2 k3 hr9 z0 z1 n9 n9a hC9 hc9 hf9
        go_wp2_with fail
        go_roundw
        case rel => exact ⟨k + 1, by omega, by go_num, _, K ++ [(b', v')], by rw [List.length_append, hk8]; rfl, hfin.out _ (by exact (Kept.refl (fun _ => False) _).same rfl rfl rfl rfl)⟩
        case measure => simp [intOf]; omega
    · obtain rfl : k = T.counters.length := by omega
      have hC2 := hC.out
      obtain ⟨d1, d2⟩ := hC2.done hK
      have hnew := hC2.new
      have HD := Lib.hid (show IsBd wr b M T C R ∧ IsBd wr N (cM M vc K) T C R ∧ (∀ g, bfoot N (cM M vc K) g → bfoot b M g ∨ w.heap.size ≤ g) ∧ N ≠ b ∧ (w.heap.size ≤ N ∧ (∀ g, vc.ownBlock = some g → w.heap.size ≤ g) ∧ ∀ x ∈ K, ∀ g, foot x.1 x.2 g → w.heap.size ≤ g) ∧ Kept (fun _ => False) w wr from ⟨hC2.src, d1, d2, by have := HLT.out b (Or.inl rfl); omega, ⟨hnew, fun g hg => (hC2.own g hg).1, fun x hx g hg => (hC2.low x hx g hg).1⟩, hC2.kept⟩)
      clear hC hC2 d1 d2 hnew
      go_wp2_with fail
      go_ret
      exact ⟨N, vc, K, rfl, HD.out⟩
end
end Go.Proofs.Ytemhfonneggneaa.BS
