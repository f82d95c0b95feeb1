/- Last, First of ring.Ring[int]. -/
import Derived.Test.YtdjdnfjfomeldaaRiS
namespace Go.Proofs.Ytdjdnfjfomeldaa.RI
open Go.RowKit Go.Fr

section
variable {w : World} {b : Nat} {v : Value} {room f : Nat} {high : Int} {cs l : List Int}

theorem last_full (x : Int) (hs : IsRing w b v room f high cs l) (h : room ≤ l.length) : Calls Try.prog 32 #[.pointer (some ⟨b, 0, none⟩), .int .i64 x] w fun e w' =>
    e = .returned (.int .i64 121) ∧ ∃ n, w' = w.drewN n := by
  go_enter Try.func32, Try.ntmps32
  go_wp2_with (first
    | (go_at_call 52; refine (alive_ok hs).mono ?_; rintro e w' ⟨rfl, rfl⟩)
    | (go_at_call 53; refine (space_full hs h).mono ?_; rintro e w' ⟨rfl, n, rfl⟩))
  go_ret
  exact ⟨rfl, _, rfl⟩

theorem first_full (x : Int) (hs : IsRing w b v room f high cs l) (h : room ≤ l.length) : Calls Try.prog 47 #[.pointer (some ⟨b, 0, none⟩), .int .i64 x] w fun e w' =>
    e = .returned (.int .i64 121) ∧ ∃ n, w' = w.drewN n := by
  go_enter Try.func47, Try.ntmps47
  go_wp2_with (first
    | (go_at_call 52; refine (alive_ok hs).mono ?_; rintro e w' ⟨rfl, rfl⟩)
    | (go_at_call 53; refine (space_full hs h).mono ?_; rintro e w' ⟨rfl, n, rfl⟩))
  go_ret
  exact ⟨rfl, _, rfl⟩

/-- the row's block and cell at a place -/
theorem IsRing.spot {p : Nat} (hs : IsRing w b v room f high cs l) (hp : p < cs.length) : ∃ g c y, v = .slice (some ⟨g, 0, none⟩) cs.length c ∧ g ≠ b ∧ cs[p]? = some y ∧ w.cell? ⟨g, p, none⟩ = some (.int .i64 y) ∧ w.frozen? ⟨g, p, none⟩ = false := by
  rcases row_forms hs.2.1 with ⟨_, h0⟩ | ⟨g, c, rfl, _, _, hgl⟩
  · omega
  · obtain ⟨y, hy⟩ : ∃ y, cs[p]? = some y := ⟨_, List.getElem?_eq_getElem hp⟩
    exact ⟨g, c, y, rfl, by have := hs.2.2.1; simpa [Value.ownBlock] using this, hy, row_cell hs.2.1 p (by rw [List.getElem?_map, hy]; rfl), row_frozen hs.2.1 p⟩

set_option maxRecDepth 100000 in
set_option maxHeartbeats 2000000 in
theorem last_room (x : Int) (hs : IsRing w b v room f high cs l) (h : l.length < room) : Calls Try.prog 32 #[.pointer (some ⟨b, 0, none⟩), .int .i64 x] w fun e w' =>
    e = .returned (.int .i64 0) ∧ ∃ v' f' cs', IsRing w' b v' room f' (mxi high (l.length + 1)) cs' (l ++ [x]) ∧ (∀ i, foot b v' i → foot b v i ∨ w.heap.size ≤ i) ∧ Kept (foot b v) w w' := by
  go_enter Try.func32, Try.ntmps32
  go_wp2_with (go_at_call 52; refine (alive_ok hs).mono ?_; rintro e w' ⟨rfl, rfl⟩)
  refine (space_ok hs h).mono ?_
  rintro e w1 ⟨rfl, v1, f1, cs1, hs1, hlt, hft, hk⟩
  have hR := hs1.2.2.2.2.2
  have hcr := hs1.2.2.2.1
  have hrm := hs1.2.2.2.2.1
  have hf := hR.pos (by omega)
  obtain ⟨p, hp⟩ : ∃ p, (f1 + l.length) % cs1.length = p := ⟨_, rfl⟩
  have hpl : p < cs1.length := by rw [← hp]; exact Nat.mod_lt _ (by omega)
  have hR2 := hR.last hlt x
  rw [hp] at hR2
  obtain ⟨g, c, y, rfl, hgb, hy, hcl, hfl⟩ := hs1.spot hpl
  have hadd : IntKind.i64.wrap ((f1 : Int) + l.length) = (f1 : Int) + l.length := IntWalk.i64_in _ (by omega)
  have hmod2 : ((f1 : Int) + l.length) % (cs1.length : Int) = (p : Int) := by rw [← hp]; rfl
  have hmod : ((f1 : Int) + l.length).tmod (cs1.length : Int) = (p : Int) := by rw [← hp]; rfl
  have hC1 : ¬ ((cs1.length : Int) = 0) := by omega
  have hC2 : ¬ (cs1 = []) := by rintro rfl; simp at hpl
  have hp0 : (0 : Int) ≤ (p : Int) := Int.natCast_nonneg _
  have hp1 : (p : Int) < (cs1.length : Int) := by omega
  have c2 := hs1.1.cell 2 rfl
  have c3 := hs1.1.cell 3 rfl
  have c4 := hs1.1.cell 4 rfl
  have c5 := hs1.1.cell 5 rfl
  have f4 := hs1.1.frozen 4
  have f5 := hs1.1.frozen 5
  have HS := Lib.hid hs1
  have HR := Lib.hid hR2
  have HP := Lib.hid hp
  have HF := Lib.hid hft
  have HK := Lib.hid hk
  clear hs1 hR2 hp hft hk hR hs hf hy
  have hbg : ¬ b = g := fun e => hgb e.symm
  have hmx : (if high < (l.length : Int) + 1 then (l.length : Int) + 1 else high) = mxi high ((l.length : Int) + 1) := rfl
  go_wp2_with fail
  go_still_tail 21, (by kernel_rfl)
  go_upto_region 8 with (fail)
  have ho := HS.out.2.2.1
  have nb := (((HS.out.1.other (p := ⟨g, p, none⟩) hgb (.int .i64 x)).set 4 (.int .i64 ((l.length : Int) + 1)))).drew
  have nr := row_drewN (row_setCell_other (row_set HS.out.2.1 p (.int .i64 x)) (a := ⟨b, 4, none⟩) ho (.int .i64 ((l.length : Int) + 1))) 1
  have nk := (((Kept.refl (foot b (.slice (some ⟨g, 0, none⟩) cs1.length c)) w1).setCell (p := ⟨g, p, none⟩) (Or.inl (Or.inr rfl)) (.int .i64 x)).setCell (p := ⟨b, 4, none⟩) (Or.inl (Or.inl rfl)) (.int .i64 ((l.length : Int) + 1))).drew
  obtain ⟨w2, hw2⟩ : ∃ w2, ((w1.setCell ⟨g, p, none⟩ (.int .i64 x)).setCell ⟨b, 4, none⟩ (.int .i64 ((l.length : Int) + 1))).drew = w2 := ⟨_, rfl⟩
  change Row (World.drew _) _ _ _ _ _ at nr
  rw [hw2] at nb nr nk ⊢
  clear c2 c3 c4 c5 f4 f5 hw2 hcl hfl
  have c4 := nb.cell 4 rfl
  have c5 := nb.cell 5 rfl
  have f5 := nb.frozen 5
  have NB := Lib.hid nb
  have NR := Lib.hid nr
  have NK := Lib.hid nk
  clear nb nr nk
  go_still_tail 12, (by kernel_rfl)
  go_wp2_with fail
  go_ret
  have hl : ((l ++ [x]).length : Int) = (l.length : Int) + 1 := by simp
  refine ⟨rfl, _, f1, cs1.set p x, ⟨?_, ?_, ho, by simpa using hcr, hrm, HR.out⟩, HF.out, ?_⟩
  · rw [hl]; exact Blk.heap (NB.out.set 5 _) rfl
  · rw [List.length_set, List.map_set]; exact row_heap (row_setCell_other NR.out (a := ⟨b, 5, none⟩) ho _) (fun _ _ => rfl)
  · exact (((HK.out.mono (fun _ _ e => Or.inl e)).then NK.out (fun i hi => HF.out i hi)).set (b := b) 5 (Or.inl (Or.inl rfl)) _).same rfl rfl rfl rfl

set_option maxRecDepth 100000 in
set_option maxHeartbeats 2000000 in
theorem first_room (x : Int) (hs : IsRing w b v room f high cs l) (h : l.length < room) : Calls Try.prog 47 #[.pointer (some ⟨b, 0, none⟩), .int .i64 x] w fun e w' =>
    e = .returned (.int .i64 0) ∧ ∃ v' f' cs', IsRing w' b v' room f' (mxi high (l.length + 1)) cs' (x :: l) ∧ (∀ i, foot b v' i → foot b v i ∨ w.heap.size ≤ i) ∧ Kept (foot b v) w w' := by
  go_enter Try.func47, Try.ntmps47
  go_wp2_with (go_at_call 52; refine (alive_ok hs).mono ?_; rintro e w' ⟨rfl, rfl⟩)
  refine (space_ok hs h).mono ?_
  rintro e w1 ⟨rfl, v1, f1, cs1, hs1, hlt, hft, hk⟩
  have hR := hs1.2.2.2.2.2
  have hcr := hs1.2.2.2.1
  have hrm := hs1.2.2.2.2.1
  have hf := hR.pos (by omega)
  obtain ⟨p, hp⟩ : ∃ p, (f1 + cs1.length - 1) % cs1.length = p := ⟨_, rfl⟩
  have hpl : p < cs1.length := by rw [← hp]; exact Nat.mod_lt _ (by omega)
  have hR2 := hR.first hlt x
  rw [hp] at hR2
  obtain ⟨g, c, y, rfl, hgb, hy, hcl, hfl⟩ := hs1.spot hpl
  have hadd : IntKind.i64.wrap ((f1 : Int) + cs1.length) = (f1 : Int) + cs1.length := IntWalk.i64_in _ (by omega)
  have hsub : IntKind.i64.wrap ((f1 : Int) + cs1.length - 1) = (f1 : Int) + cs1.length - 1 := IntWalk.i64_in _ (by omega)
  have hcast : (f1 : Int) + cs1.length - 1 = ((f1 + cs1.length - 1 : Nat) : Int) := by omega
  have hmod : ((f1 : Int) + cs1.length - 1).tmod (cs1.length : Int) = (p : Int) := by rw [hcast, ← hp]; rfl
  have hC1 : ¬ ((cs1.length : Int) = 0) := by omega
  have hC2 : ¬ (cs1 = []) := by rintro rfl; simp at hpl
  have hp0 : (0 : Int) ≤ (p : Int) := Int.natCast_nonneg _
  have hp1 : (p : Int) < (cs1.length : Int) := by omega
  have c2 := hs1.1.cell 2 rfl
  have c3 := hs1.1.cell 3 rfl
  have f3 := hs1.1.frozen 3
  have HS := Lib.hid hs1
  have HR := Lib.hid hR2
  have HP := Lib.hid hp
  have HF := Lib.hid hft
  have HK := Lib.hid hk
  clear hs1 hR2 hp hft hk hR hs hf hy hcast
  have hbg : ¬ b = g := fun e => hgb e.symm
  have hmx : (if high < (l.length : Int) + 1 then (l.length : Int) + 1 else high) = mxi high ((l.length : Int) + 1) := rfl
  have ho := HS.out.2.2.1
  go_wp2_with fail
  go_still_tail 20, (by kernel_rfl)
  go_upto_region 7 with (fail)
  have nb := (HS.out.1.set 3 (.int .i64 p)).drew
  have nr := row_drewN (row_setCell_other HS.out.2.1 (a := ⟨b, 3, none⟩) ho (.int .i64 p)) 1
  have nk := ((Kept.refl (foot b (.slice (some ⟨g, 0, none⟩) cs1.length c)) w1).setCell (p := ⟨b, 3, none⟩) (Or.inl (Or.inl rfl)) (.int .i64 p)).drew
  obtain ⟨w2, hw2⟩ : ∃ w2, (w1.setCell ⟨b, 3, none⟩ (.int .i64 p)).drew = w2 := ⟨_, rfl⟩
  change Row (World.drew _) _ _ _ _ _ at nr
  rw [hw2] at nb nr nk ⊢
  clear c2 c3 f3 hw2 hcl hfl
  have c2 := nb.cell 2 rfl
  have c3 := nb.cell 3 rfl
  have c4 := nb.cell 4 rfl
  have f4 := nb.frozen 4
  obtain ⟨y, hy⟩ : ∃ y, cs1[p]? = some y := ⟨_, List.getElem?_eq_getElem hpl⟩
  have hcl := row_cell nr p (u := .int .i64 y) (by rw [List.getElem?_map, hy]; rfl)
  have hfl := row_frozen nr p
  have NB := Lib.hid nb
  have NR := Lib.hid nr
  have NK := Lib.hid nk
  clear nb nr nk hy
  go_still_tail 10, (by kernel_rfl)
  go_upto_region 9 with (fail)
  have nb := ((NB.out.other (p := ⟨g, p, none⟩) hgb (.int .i64 x)).set 4 (.int .i64 ((l.length : Int) + 1))).drew
  have nr := row_drewN (row_setCell_other (row_set NR.out p (.int .i64 x)) (a := ⟨b, 4, none⟩) ho (.int .i64 ((l.length : Int) + 1))) 1
  have nk := ((NK.out.setCell (p := ⟨g, p, none⟩) (Or.inl (Or.inr rfl)) (.int .i64 x)).setCell (p := ⟨b, 4, none⟩) (Or.inl (Or.inl rfl)) (.int .i64 ((l.length : Int) + 1))).drew
  obtain ⟨w3, hw3⟩ : ∃ w3, ((w2.setCell ⟨g, p, none⟩ (.int .i64 x)).setCell ⟨b, 4, none⟩ (.int .i64 ((l.length : Int) + 1))).drew = w3 := ⟨_, rfl⟩
  change Row (World.drew _) _ _ _ _ _ at nr
  rw [hw3] at nb nr nk ⊢
  clear c2 c3 c4 f4 hw3 hcl hfl NB NR NK
  have c4 := nb.cell 4 rfl
  have c5 := nb.cell 5 rfl
  have f5 := nb.frozen 5
  have NB := Lib.hid nb
  have NR := Lib.hid nr
  have NK := Lib.hid nk
  clear nb nr nk
  go_still_tail 12, (by kernel_rfl)
  go_wp2_with fail
  go_ret
  have hl : ((x :: l).length : Int) = (l.length : Int) + 1 := by simp
  refine ⟨rfl, _, p, cs1.set p x, ⟨?_, ?_, ho, by simpa using hcr, hrm, HR.out⟩, HF.out, ?_⟩
  · rw [hl]; exact Blk.heap (NB.out.set 5 _) rfl
  · rw [List.length_set, List.map_set]; exact row_heap (row_setCell_other NR.out (a := ⟨b, 5, none⟩) ho _) (fun _ _ => rfl)
  · exact (((HK.out.mono (fun _ _ e => Or.inl e)).then NK.out (fun i hi => HF.out i hi)).set (b := b) 5 (Or.inl (Or.inl rfl)) _).same rfl rfl rfl rfl
end
end Go.Proofs.Ytdjdnfjfomeldaa.RI
