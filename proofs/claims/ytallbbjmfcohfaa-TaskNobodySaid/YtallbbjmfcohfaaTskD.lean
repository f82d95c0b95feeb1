/- Package task: Reset, Copy. -/
import Derived.Test.YtallbbjmfcohfaaTskT
import Derived.StillTailTactics
namespace Go.Proofs.Ytallbbjmfcohfaa.TK
open Go.RowKit Go.Fr

theorem encT_ones (l : List Tk) : ∀ u ∈ l.flatMap encT, u.oneCell' = true := by
  intro u hu
  obtain ⟨x, _, hx⟩ := List.mem_flatMap.1 hu
  simp only [encT, List.mem_cons, List.not_mem_nil, or_false] at hx
  rcases hx with rfl | rfl | rfl | rfl <;> rfl

def rsT (a : Tk) : Tk := (a.1, a.2.1, 3, 0)
/-- Reset under way -/
def rsL (l : List Tk) (k : Nat) : List Tk := (l.take k).map rsT ++ l.drop k
theorem rsL_zero (l : List Tk) : rsL l 0 = l := by simp [rsL]
theorem rsL_full (l : List Tk) : rsL l l.length = l.map rsT := by simp [rsL]
theorem rsL_len (l : List Tk) (k : Nat) : (rsL l k).length = l.length := by
  simp only [rsL, List.length_append, List.length_map, List.length_take, List.length_drop]; omega
theorem rsL_at {l : List Tk} {k : Nat} {a : Tk} (h : l[k]? = some a) : (rsL l k)[k]? = some a := by
  have hk := (List.getElem?_eq_some_iff.1 h).1
  rw [rsL, List.getElem?_append_right (by simp; omega), List.getElem?_drop, ← h]
  congr 1
  simp; omega
theorem rsL_set {l : List Tk} {k : Nat} {a : Tk} (h : l[k]? = some a) : (rsL l k).set k (rsT a) = rsL l (k + 1) := by
  have hk := (List.getElem?_eq_some_iff.1 h).1
  have hd : l.drop k = a :: l.drop (k + 1) := by
    rw [List.drop_eq_getElem_cons hk]
    congr 1
    exact (List.getElem?_eq_some_iff.1 h).2
  have hl : ((l.take k).map rsT).length = k := by simp; omega
  rw [rsL, rsL, hd, List.set_append_right _ _ (by omega), hl, Nat.sub_self, List.set_cons_zero, List.take_add_one, h]
  simp
theorem rs_ok (l : List Tk) {run : Int} (h : Ok run l) : Ok (-1) (l.map rsT) := by
  refine ⟨?_, Or.inl rfl⟩
  intro k lm ex st ac hx
  rw [List.getElem?_map] at hx
  cases hr : l[k]? with
  | none => rw [hr] at hx; cases hx
  | some r =>
    rw [hr] at hx
    obtain ⟨lm', ex', st', ac'⟩ := r
    obtain ⟨g1, g2, g3, g4, g5, g6, g7, g8⟩ := h.el _ _ _ _ _ hr
    simp only [Option.map_some, rsT, Option.some.injEq, Prod.mk.injEq] at hx
    obtain ⟨rfl, rfl, rfl, rfl⟩ := hx
    exact ⟨by omega, by omega, by omega, by omega, g5, by omega, by omega, by omega⟩

section
variable {w : World} {b : Nat} {v : Value} {run : Int} {l : List Tk}

set_option maxRecDepth 100000 in
set_option maxHeartbeats 4000000 in
theorem reset_ok (hs : IsTk w b v run l) : Calls Try.prog 26 #[.pointer (some ⟨b, 0, none⟩)] w fun e w' =>
    e = .returned (.tuple #[]) ∧ IsTk w' b v (-1) (l.map rsT) ∧ Kept (foot b v) w w' := by
  have hal := alive_ok hs
  obtain ⟨ao, c, rfl, hc⟩ := row_any hs.row
  have c1 := hs.blk.cell 1 rfl
  have hl256 := hs.n256
  have T0 : Hid (IsTk w b (.slice ao l.length c) run (rsL l 0)) := by rw [rsL_zero]; exact hs
  clear hs
  go_enter Try.func26, Try.ntmps26
  go_wp2_with (go_at_call 31; refine hal.mono ?_; rintro e w' ⟨rfl, rfl⟩)
  clear hal c1
  go_loopw [11] (fun i wr => ∃ k : Nat, k ≤ l.length ∧ i = .int .i64 k ∧ Hid (IsTk wr b (.slice ao l.length c) run (rsL l k)) ∧ Hid (Kept (foot b (.slice ao l.length c)) w wr)) (fun i _ => l.length - (intOf i).toNat)
  case atStart => exact ⟨0, Nat.zero_le _, rfl, T0, Kept.refl _ _⟩
  case round =>
    obtain ⟨k, hk, rfl, hT, hK⟩ := hrel
    clear T0
    by_cases hkl : k < l.length
    · obtain ⟨⟨lm, ex, st, ac⟩, hx⟩ : ∃ a, l[k]? = some a := ⟨_, List.getElem?_eq_getElem hkl⟩
      have hk0 : (0 : Int) ≤ (k : Int) := Int.natCast_nonneg _
      have hk1 : (k : Int) < (l.length : Int) := by omega
      have hxk := rsL_at hx
      have hl := rsL_len l k
      obtain ⟨g, c2, hv, hg, e0, e1, e2, e3, f2, f3⟩ := hT.out.cells hxk
      rw [hl] at hv
      cases hv
      have c1 := hT.out.blk.cell 1 rfl
      have q1 := hT.out.put (i := 2) (lm, ex, 3, ac) hl hxk (by decide) (u := .int .i64 3) rfl
      have q2 := q1.put (k := k) (i := 3) (a := (lm, ex, 3, ac)) (lm, ex, 3, 0) (by rw [List.length_set, hl]) (by rw [List.getElem?_set_self (by omega)]) (by decide) (u := .int .i64 0) rfl
      rw [List.set_set, show ((lm, ex, 3, 0) : Tk) = rsT (lm, ex, st, ac) from rfl, rsL_set hx] at q2
      have k2 := (hK.out.setCell (p := ⟨g, k * 4 + 2, none⟩) (Or.inl (Or.inr rfl)) (.int .i64 3)).setCell (p := ⟨g, k * 4 + 3, none⟩) (Or.inl (Or.inr rfl)) (.int .i64 0)
      have Q := Lib.hid q2
      have K := Lib.hid k2
      have HG := Lib.hid hg
      have cA := (hT.out.blk.other (p := ⟨g, k * 4 + 2, none⟩) hg (.int .i64 3)).cell 1 rfl
      have cB := ((hT.out.blk.other (p := ⟨g, k * 4 + 2, none⟩) hg (.int .i64 3)).other (p := ⟨g, k * 4 + 3, none⟩) hg (.int .i64 0)).cell 1 rfl
      clear q1 q2 k2 hT hK hl hxk hx
      go_wp2
      refine wp_region_noPanic ?_
      go_region_held3 (fun w' => w'.cell? ⟨b, 1, none⟩ = some (.slice (some ⟨g, 0, none⟩) l.length c) ∧ w'.frozen? ⟨g, k * 4 + 2, none⟩ = false ∧ w'.frozen? ⟨g, k * 4 + 3, none⟩ = false)
        (first
          | (simp [*]; done)
          | (refine ⟨?_, ?_, ?_⟩ <;> first | exact cA | exact cB | (simp [*]; done))
          | fail)
        (fail)
      refine NoPanic.normal ?_
      go_wp2
      go_roundw
      case rel => exact ⟨k + 1, by omega, by go_num, Q.out.drewN 1, K.out.drewN 1⟩
      case measure => simp [intOf]; omega
    · obtain rfl : k = l.length := by omega
      have c2 := hT.out.blk.cell 2 rfl
      have f2 := hT.out.blk.frozen 2
      have q := hT.out.setRun (-1)
      rw [rsL_full] at q
      have kk := hK.out.setCell (p := ⟨b, 2, none⟩) (Or.inl (Or.inl rfl)) (.int .i64 (-1))
      clear hT hK
      have Q := Lib.hid q
      have K := Lib.hid kk
      clear q kk
      go_wp2
      go_end0
      exact ⟨rfl, Q.out, K.out⟩

set_option maxRecDepth 100000 in
set_option maxHeartbeats 2000000 in
theorem copy_ok (hs : IsTk w b v run l) : Calls Try.prog 25 #[.pointer (some ⟨b, 0, none⟩)] w fun e w' =>
    ∃ b' v', e = .returned (.pointer (some ⟨b', 0, none⟩)) ∧ IsTk w' b' v' run l ∧ (∀ i, foot b' v' i → w.heap.size ≤ i) ∧ Kept (fun _ => False) w w' := by
  obtain ⟨i0, hi, hz0, hz1, hz2⟩ := info_parts info_t
  have hlen := hs.n256
  obtain ⟨ao, c, rfl, hc⟩ := row_any hs.row
  have hmk : ∀ w, (Instr.makeSlice 62 (.int .i64 (l.length : Int)) (.int .i64 (l.length : Int))).run Try.prog w = .ok (.slice (some ⟨w.heap.size, 0, none⟩) l.length l.length) (w.alloc (.cells ((List.replicate l.length (0, false, 0, 0)).flatMap encT).toArray 67)) :=
    fun w => run_make_flat encT_len (by decide) (0, false, 0, 0) _ _ i0 _ Try.underlying62 hi hz0 hz1 rfl .i64 .i64 l.length (by rw [hz2]; omega) (by omega) w
  have c0 := hs.blk.cell 0 rfl
  have c1 := hs.blk.cell 1 rfl
  have c2 := hs.blk.cell 2 rfl
  go_enter Try.func25, Try.ntmps25
  go_upto_region 4 with (go_at_call 31; refine (alive_ok hs).mono ?_; rintro e w' ⟨rfl, rfl⟩)
  obtain ⟨N, hN⟩ : ∃ N, w.heap.size = N := ⟨_, rfl⟩
  have hbN : b < N := by have := hs.blk.lt; omega
  have nb := Blk.new w [.bool true, .slice ao l.length c, .int .i64 run] 64
  have k1 := (Kept.refl (fun _ => False) w).alloc (.cells #[.bool true, .slice ao l.length c, .int .i64 run] 64)
  have hs1 := hs.kept k1 (fun _ _ h => h)
  have z1 : (w.alloc (.cells #[.bool true, .slice ao l.length c, .int .i64 run] 64)).heap.size = N + 1 := by rw [World.size_alloc, hN]
  rw [hN] at nb
  simp only [hN]
  obtain ⟨w1, hw1⟩ : ∃ w1, w.alloc (.cells #[.bool true, .slice ao l.length c, .int .i64 run] 64) = w1 := ⟨_, rfl⟩
  rw [hw1] at nb k1 hs1 z1 ⊢
  have HS := Lib.hid hs
  have HN := Lib.hid hN
  clear hw1 c0 c1 c2 hs hN
  have c4 := hs1.blk.cell 1 rfl
  have n4 := nb.cell 1 rfl
  have f4 := nb.frozen 1
  have hlt : N < N + 1 := by omega
  -- behind region 4
  have rw2 := row_new (w1.setCell ⟨N, 1, none⟩ (.slice (some ⟨N + 1, 0, none⟩) l.length l.length)) 67 4 l.length ((List.replicate l.length (0, false, 0, 0)).flatMap encT) (by rw [flat_length encT_len]; simp) (by unfold maxLen; omega)
  rw [World.size_setCell, z1] at rw2
  have nb2 := (nb.set 1 (.slice (some ⟨N + 1, 0, none⟩) l.length l.length)).alloc (.cells ((List.replicate l.length (0, false, 0, 0)).flatMap encT).toArray 67)
  have k2 := ((Kept.refl (fun i => i = N) w1).setCell (p := ⟨N, 1, none⟩) (Or.inl rfl) (.slice (some ⟨N + 1, 0, none⟩) l.length l.length)).alloc (.cells ((List.replicate l.length (0, false, 0, 0)).flatMap encT).toArray 67)
  have hfo : ∀ i, foot b (.slice ao l.length c) i → i < N := fun i hi => by have := HS.out.lt i hi; rw [HN.out] at this; exact this
  have hs2 := hs1.kept k2 (fun i hi e => by have := hfo i hi; omega)
  have RW2 := Lib.hid rw2
  have NB2 := Lib.hid nb2
  have K2 := Lib.hid k2
  have HS2 := Lib.hid hs2
  have NB := Lib.hid nb
  have HFO := Lib.hid hfo
  clear rw2 nb2 k2 hs2 hs1 nb hfo
  go_upto_region 5 with fail
  obtain ⟨w2, hw2⟩ : ∃ w2, (w1.setCell ⟨N, 1, none⟩ (.slice (some ⟨N + 1, 0, none⟩) l.length l.length)).alloc (.cells ((List.replicate l.length (0, false, 0, 0)).flatMap encT).toArray 67) = w2 := ⟨_, rfl⟩
  have rw2 := RW2.out
  have nb2 := NB2.out
  have k2 := K2.out
  have hs2 := HS2.out
  rw [hw2] at rw2 nb2 k2 hs2 ⊢
  have RW := Lib.hid rw2
  have K1 := Lib.hid k1
  have K2' := Lib.hid k2
  clear hw2 RW2 NB2 K2 HS2 c4 n4 f4 rw2 k1 k2
  have c4 := hs2.blk.cell 1 rfl
  have n4 := nb2.cell 1 rfl
  have NB3 := Lib.hid nb2
  have HS3 := Lib.hid hs2
  clear nb2 hs2
  refine wp_region_noPanic ?_
  go_region_law (refine step_copy_flat (by rfl) (.tmp 18) (.tmp 22) 62 62 (by rfl) 67 i0 4 Try.underlying62 hi hz1 (some ⟨N + 1, 0, none⟩) l.length l.length _ (by simp [Act.eval]) (row_heap RW.out (fun _ _ => rfl)) ao l.length c (l.flatMap encT) (by simp [Act.eval]) (HS3.out.row.shows.heap (fun _ _ => rfl)) (Nat.le_refl _) (encT_ones l) ?_; intro w3 r3 k3)
  all_goals
    refine NoPanic.normal ?_
    go_wp2
    go_ret
    have hd : ((List.replicate l.length (0, false, 0, 0)).flatMap encT).drop (l.length * 4) = [] := by rw [List.drop_eq_nil_iff, flat_length encT_len]; simp
    rw [hd, List.append_nil] at r3
    have kz : Kept (fun i => i = N + 1) w2 w3 := ((Kept.refl (fun i => i = N + 1) w2).same (by rfl) (by rfl) (by rfl) (by rfl)).then (k3.mono (S' := fun i => i = N + 1) (fun i _ hi => by simp [Value.ownBlock] at hi; exact hi.symm)) (fun _ h => Or.inl h)
    have kf : Kept (fun i => i = N + 1) w3 _ := (Kept.refl (fun i => i = N + 1) w3).same (by rfl) (by rfl) (by rfl) (by rfl)
    refine ⟨N, .slice (some ⟨N + 1, 0, none⟩) l.length l.length, rfl, ⟨(NB3.out.kept kz (by omega)).heap (by rfl), row_heap r3 (fun _ _ => rfl), by simp [Value.ownBlock], HS3.out.n256⟩, ?_, ?_⟩
    · rintro i (h | h)
      · rw [HN.out]; omega
      · simp [Value.ownBlock] at h; rw [HN.out]; omega
    · exact ((K1.out.then K2'.out (fun i hi => Or.inr (by rw [HN.out]; omega))).then kz (fun i hi => Or.inr (by rw [HN.out]; omega))).same (by rfl) (by rfl) (by rfl) (by rfl)
end
end Go.Proofs.Ytallbbjmfcohfaa.TK
