/- Last, First of ring.Ring[tappet/tappetlaw12.Text]. -/
import Derived.Test.YtibgoipdaeaigaaRtxS
namespace Go.Proofs.Ytibgoipdaeaigaa.RX
open Go.RowKit Go.Fr

section
variable {w : World} {b : Nat} {v : Value} {room f : Nat} {high : Int} {cs l : List Tx}

theorem last_full (x : Tx) (hs : IsRing w b v room f high cs l) (h : room ≤ l.length) : Calls Try.prog 15 #[.pointer (some ⟨b, 0, none⟩), valX x] w fun e w' =>
    e = .returned (.int .i64 121) ∧ Kept (fun _ => False) w w' := by
  have kA := (Kept.refl (fun _ => False) w).alloc (.cells #[.string x.1, .int .i64 x.2] 31)
  have hs1 := hs.kept kA (fun _ _ h => h)
  go_enter Try.func15, Try.ntmps15
  go_wp2_with (first
    | (go_at_call 46; refine (alive_ok hs1).mono ?_; rintro e w' ⟨rfl, rfl⟩)
    | (go_at_call 47; refine (space_full hs1 h).mono ?_; rintro e w' ⟨rfl, n, rfl⟩))
  go_ret
  exact ⟨rfl, kA.drewN n⟩

theorem first_full (x : Tx) (hs : IsRing w b v room f high cs l) (h : room ≤ l.length) : Calls Try.prog 17 #[.pointer (some ⟨b, 0, none⟩), valX x] w fun e w' =>
    e = .returned (.int .i64 121) ∧ Kept (fun _ => False) w w' := by
  have kA := (Kept.refl (fun _ => False) w).alloc (.cells #[.string x.1, .int .i64 x.2] 31)
  have hs1 := hs.kept kA (fun _ _ h => h)
  go_enter Try.func17, Try.ntmps17
  go_wp2_with (first
    | (go_at_call 46; refine (alive_ok hs1).mono ?_; rintro e w' ⟨rfl, rfl⟩)
    | (go_at_call 47; refine (space_full hs1 h).mono ?_; rintro e w' ⟨rfl, n, rfl⟩))
  go_ret
  exact ⟨rfl, kA.drewN n⟩

/-- the row's block and cells at a place -/
theorem IsRing.spot {p : Nat} (hs : IsRing w b v room f high cs l) (hp : p < cs.length) : ∃ g c y, v = .slice (some ⟨g, 0, none⟩) cs.length c ∧ g ≠ b ∧ cs[p]? = some y ∧ w.cell? ⟨g, p * 2, none⟩ = some (.string y.1) ∧ w.cell? ⟨g, p * 2 + 1, none⟩ = some (.int .i64 y.2) ∧ w.frozen? ⟨g, p * 2, none⟩ = false ∧ w.frozen? ⟨g, p * 2 + 1, none⟩ = false := by
  rcases row_forms hs.2.1 with ⟨_, h0⟩ | ⟨g, c, rfl, _, _, hgl⟩
  · omega
  · obtain ⟨y, hy⟩ : ∃ y, cs[p]? = some y := ⟨_, List.getElem?_eq_getElem hp⟩
    exact ⟨g, c, y, rfl, by have := hs.2.2.1; simpa [Value.ownBlock] using this, hy, rows_cell (i := 0) encX_len hs.2.1 hy rfl, rows_cell (i := 1) encX_len hs.2.1 hy rfl, row_frozen hs.2.1 _, row_frozen hs.2.1 _⟩
theorem rowx_set {w : World} {g c n p : Nat} {cs : List Tx} (x : Tx) (h : Row w 31 2 (.slice (some ⟨g, 0, none⟩) n c) n (cs.flatMap encX)) (hp : p < cs.length) : Row ((w.setCell ⟨g, p * 2, none⟩ (.string x.1)).setCell ⟨g, p * 2 + 1, none⟩ (.int .i64 x.2)) 31 2 (.slice (some ⟨g, 0, none⟩) n c) n ((cs.set p x).flatMap encX) := by
  obtain ⟨y, hy⟩ : ∃ y, cs[p]? = some y := ⟨_, List.getElem?_eq_getElem hp⟩
  have r1 := rows_set (i := 0) encX_len h (x.1, y.2) (u := .string x.1) hy (by decide) rfl
  have r2 := rows_set (k := p) (i := 1) (x := (x.1, y.2)) encX_len r1 (x.1, x.2) (u := .int .i64 x.2) (by rw [List.getElem?_set_self hp]) (by decide) rfl
  rw [List.set_set] at r2
  exact r2

set_option maxRecDepth 100000 in
set_option maxHeartbeats 2000000 in
theorem last_room (x : Tx) (hs : IsRing w b v room f high cs l) (h : l.length < room) : Calls Try.prog 15 #[.pointer (some ⟨b, 0, none⟩), valX x] w fun e w' =>
    e = .returned (.int .i64 0) ∧ ∃ v' f' cs', IsRing w' b v' room f' (mxi high (l.length + 1)) cs' (l ++ [x]) ∧ (∀ i, foot b v' i → foot b v i ∨ w.heap.size ≤ i) ∧ Kept (foot b v) w w' := by
  have kA := (Kept.refl (fun _ => False) w).alloc (.cells #[.string x.1, .int .i64 x.2] 31)
  have hsA := hs.kept kA (fun _ _ h => h)
  have bx0 := Blk.new w [.string x.1, .int .i64 x.2] 31
  have hblt := hs.1.lt
  clear hs
  go_enter Try.func15, Try.ntmps15
  go_wp2_with (go_at_call 46; refine (alive_ok hsA).mono ?_; rintro e w' ⟨rfl, rfl⟩)
  refine (space_ok hsA h).mono ?_
  rintro e w1 ⟨rfl, v1, f1, cs1, hs1, hlt, hft0, hk0⟩
  have hft : ∀ i, foot b v1 i → foot b v i ∨ w.heap.size ≤ i := fun i hi => (hft0 i hi).imp id (fun h => by rw [World.size_alloc] at h; omega)
  have hk := (kA.mono (S' := fun k => k = b) (fun _ _ h => h.elim)).then hk0 (fun i h => Or.inl h)
  have hNb : w.heap.size ≠ b := by omega
  have bx := bx0.kept hk0 hNb
  have x0 := bx.cell 0 rfl
  have x1 := bx.cell 1 rfl
  have hgN : ∀ g c, v1 = .slice (some ⟨g, 0, none⟩) cs1.length c → g < w1.heap.size := fun g c e => hs1.lt g (Or.inr (by rw [e]; rfl))
  clear hft0 hk0 kA bx0 hsA
  have hR := hs1.2.2.2.2.2
  have hcr := hs1.2.2.2.1
  have hrm := hs1.2.2.2.2.1
  have hf := hR.pos (by omega)
  obtain ⟨p, hp⟩ : ∃ p, (f1 + l.length) % cs1.length = p := ⟨_, rfl⟩
  have hpl : p < cs1.length := by rw [← hp]; exact Nat.mod_lt _ (by omega)
  have hR2 := hR.last hlt x
  rw [hp] at hR2
  obtain ⟨g, c, y, rfl, hgb, hy, hcl, hcl1, hfl, hfl1⟩ := hs1.spot hpl
  have hadd : IntKind.i64.wrap ((f1 : Int) + l.length) = (f1 : Int) + l.length := IntWalk.i64_in _ (by omega)
  have hmod2 : ((f1 : Int) + l.length) % (cs1.length : Int) = (p : Int) := by rw [← hp]; rfl
  have hmod : ((f1 : Int) + l.length).tmod (cs1.length : Int) = (p : Int) := by rw [← hp]; rfl
  have hC1 : ¬ ((cs1.length : Int) = 0) := by omega
  have hC2 : ¬ (cs1 = []) := by rintro rfl; simp at hpl
  have hp0 : (0 : Int) ≤ (p : Int) := Int.natCast_nonneg _
  have hp1 : (p : Int) < (cs1.length : Int) := by omega
  have c2 := hs1.1.cell 2 rfl
  have c3 := hs1.1.cell 3 rfl
  have c4 := hs1.1.cell 4 rfl
  have c5 := hs1.1.cell 5 rfl
  have f4 := hs1.1.frozen 4
  have f5 := hs1.1.frozen 5
  have HS := Lib.hid hs1
  have HR := Lib.hid hR2
  have HP := Lib.hid hp
  have HF := Lib.hid hft
  have HK := Lib.hid hk
  clear hs1 hR2 hp hft hk hR hf hy hgN
  have hbg : ¬ b = g := fun e => hgb e.symm
  have hmx : (if high < (l.length : Int) + 1 then (l.length : Int) + 1 else high) = mxi high ((l.length : Int) + 1) := rfl
  go_wp2_with fail
  go_still_tail 21, (by kernel_rfl)
  go_upto_region 8 with (fail)
  have ho := HS.out.2.2.1
  have nb := ((((HS.out.1.other (p := ⟨g, p * 2, none⟩) hgb (.string x.1)).other (p := ⟨g, p * 2 + 1, none⟩) hgb (.int .i64 x.2)).set 4 (.int .i64 ((l.length : Int) + 1)))).drew
  have nr := row_drewN (row_setCell_other (rowx_set x HS.out.2.1 hpl) (a := ⟨b, 4, none⟩) ho (.int .i64 ((l.length : Int) + 1))) 1
  have nk := ((((Kept.refl (foot b (.slice (some ⟨g, 0, none⟩) cs1.length c)) w1).setCell (p := ⟨g, p * 2, none⟩) (Or.inl (Or.inr rfl)) (.string x.1)).setCell (p := ⟨g, p * 2 + 1, none⟩) (Or.inl (Or.inr rfl)) (.int .i64 x.2)).setCell (p := ⟨b, 4, none⟩) (Or.inl (Or.inl rfl)) (.int .i64 ((l.length : Int) + 1))).drew
  obtain ⟨w2, hw2⟩ : ∃ w2, (((w1.setCell ⟨g, p * 2, none⟩ (.string x.1)).setCell ⟨g, p * 2 + 1, none⟩ (.int .i64 x.2)).setCell ⟨b, 4, none⟩ (.int .i64 ((l.length : Int) + 1))).drew = w2 := ⟨_, rfl⟩
  change Row (World.drew _) _ _ _ _ _ at nr
  rw [hw2] at nb nr nk ⊢
  clear c2 c3 c4 c5 f4 f5 hw2 hcl hfl hcl1 hfl1
  have c4 := nb.cell 4 rfl
  have c5 := nb.cell 5 rfl
  have f5 := nb.frozen 5
  have NB := Lib.hid nb
  have NR := Lib.hid nr
  have NK := Lib.hid nk
  clear nb nr nk
  go_still_tail 12, (by kernel_rfl)
  go_wp2_with fail
  go_ret
  have hl : ((l ++ [x]).length : Int) = (l.length : Int) + 1 := by simp
  refine ⟨rfl, _, f1, cs1.set p x, ⟨?_, ?_, ho, by simpa using hcr, hrm, HR.out⟩, HF.out, ?_⟩
  · rw [hl]; exact Blk.heap (NB.out.set 5 _) rfl
  · rw [List.length_set]; exact row_heap (row_setCell_other NR.out (a := ⟨b, 5, none⟩) ho _) (fun _ _ => rfl)
  · exact (((HK.out.mono (fun _ _ e => Or.inl e)).then NK.out (fun i hi => HF.out i hi)).set (b := b) 5 (Or.inl (Or.inl rfl)) _).same rfl rfl rfl rfl

set_option maxRecDepth 100000 in
set_option maxHeartbeats 2000000 in
theorem first_room (x : Tx) (hs : IsRing w b v room f high cs l) (h : l.length < room) : Calls Try.prog 17 #[.pointer (some ⟨b, 0, none⟩), valX x] w fun e w' =>
    e = .returned (.int .i64 0) ∧ ∃ v' f' cs', IsRing w' b v' room f' (mxi high (l.length + 1)) cs' (x :: l) ∧ (∀ i, foot b v' i → foot b v i ∨ w.heap.size ≤ i) ∧ Kept (foot b v) w w' := by
  have kA := (Kept.refl (fun _ => False) w).alloc (.cells #[.string x.1, .int .i64 x.2] 31)
  have hsA := hs.kept kA (fun _ _ h => h)
  have bx0 := Blk.new w [.string x.1, .int .i64 x.2] 31
  have hblt := hs.1.lt
  clear hs
  go_enter Try.func17, Try.ntmps17
  go_wp2_with (go_at_call 46; refine (alive_ok hsA).mono ?_; rintro e w' ⟨rfl, rfl⟩)
  refine (space_ok hsA h).mono ?_
  rintro e w1 ⟨rfl, v1, f1, cs1, hs1, hlt, hft0, hk0⟩
  have hft : ∀ i, foot b v1 i → foot b v i ∨ w.heap.size ≤ i := fun i hi => (hft0 i hi).imp id (fun h => by rw [World.size_alloc] at h; omega)
  have hk := (kA.mono (S' := fun k => k = b) (fun _ _ h => h.elim)).then hk0 (fun i h => Or.inl h)
  have hNb : w.heap.size ≠ b := by omega
  have bx := bx0.kept hk0 hNb
  have x0 := bx.cell 0 rfl
  have x1 := bx.cell 1 rfl
  have hgN : ∀ g c, v1 = .slice (some ⟨g, 0, none⟩) cs1.length c → g < w1.heap.size := fun g c e => hs1.lt g (Or.inr (by rw [e]; rfl))
  clear hft0 hk0 kA bx0 hsA
  have hR := hs1.2.2.2.2.2
  have hcr := hs1.2.2.2.1
  have hrm := hs1.2.2.2.2.1
  have hf := hR.pos (by omega)
  obtain ⟨p, hp⟩ : ∃ p, (f1 + cs1.length - 1) % cs1.length = p := ⟨_, rfl⟩
  have hpl : p < cs1.length := by rw [← hp]; exact Nat.mod_lt _ (by omega)
  have hR2 := hR.first hlt x
  rw [hp] at hR2
  obtain ⟨g, c, y, rfl, hgb, hy, hcl, hcl1, hfl, hfl1⟩ := hs1.spot hpl
  have hadd : IntKind.i64.wrap ((f1 : Int) + cs1.length) = (f1 : Int) + cs1.length := IntWalk.i64_in _ (by omega)
  have hsub : IntKind.i64.wrap ((f1 : Int) + cs1.length - 1) = (f1 : Int) + cs1.length - 1 := IntWalk.i64_in _ (by omega)
  have hcast : (f1 : Int) + cs1.length - 1 = ((f1 + cs1.length - 1 : Nat) : Int) := by omega
  have hmod : ((f1 : Int) + cs1.length - 1).tmod (cs1.length : Int) = (p : Int) := by rw [hcast, ← hp]; rfl
  have hC1 : ¬ ((cs1.length : Int) = 0) := by omega
  have hC2 : ¬ (cs1 = []) := by rintro rfl; simp at hpl
  have hp0 : (0 : Int) ≤ (p : Int) := Int.natCast_nonneg _
  have hp1 : (p : Int) < (cs1.length : Int) := by omega
  have c2 := hs1.1.cell 2 rfl
  have c3 := hs1.1.cell 3 rfl
  have f3 := hs1.1.frozen 3
  have HS := Lib.hid hs1
  have HR := Lib.hid hR2
  have HP := Lib.hid hp
  have HF := Lib.hid hft
  have HK := Lib.hid hk
  clear hs1 hR2 hp hft hk hR hf hy hgN hcast
  have hbg : ¬ b = g := fun e => hgb e.symm
  have hmx : (if high < (l.length : Int) + 1 then (l.length : Int) + 1 else high) = mxi high ((l.length : Int) + 1) := rfl
  have ho := HS.out.2.2.1
  go_wp2_with fail
  go_still_tail 20, (by kernel_rfl)
  go_upto_region 7 with (fail)
  have nb := (HS.out.1.set 3 (.int .i64 p)).drew
  have nr := row_drewN (row_setCell_other HS.out.2.1 (a := ⟨b, 3, none⟩) ho (.int .i64 p)) 1
  have nk := ((Kept.refl (foot b (.slice (some ⟨g, 0, none⟩) cs1.length c)) w1).setCell (p := ⟨b, 3, none⟩) (Or.inl (Or.inl rfl)) (.int .i64 p)).drew
  have bx2 := (bx.other (p := ⟨b, 3, none⟩) (fun e => hNb e.symm) (.int .i64 p)).drew
  clear bx x0 x1
  obtain ⟨w2, hw2⟩ : ∃ w2, (w1.setCell ⟨b, 3, none⟩ (.int .i64 p)).drew = w2 := ⟨_, rfl⟩
  change Row (World.drew _) _ _ _ _ _ at nr
  rw [hw2] at nb nr nk bx2 ⊢
  have x0 := bx2.cell 0 rfl
  have x1 := bx2.cell 1 rfl
  clear c2 c3 f3 hw2 hcl hfl hcl1 hfl1
  have c2 := nb.cell 2 rfl
  have c3 := nb.cell 3 rfl
  have c4 := nb.cell 4 rfl
  have f4 := nb.frozen 4
  obtain ⟨y, hy⟩ : ∃ y, cs1[p]? = some y := ⟨_, List.getElem?_eq_getElem hpl⟩
  have hcl : w2.cell? ⟨g, p * 2, none⟩ = some (.string y.1) := rows_cell (i := 0) (u := .string y.1) encX_len nr hy rfl
  have hcl1 : w2.cell? ⟨g, p * 2 + 1, none⟩ = some (.int .i64 y.2) := rows_cell (i := 1) (u := .int .i64 y.2) encX_len nr hy rfl
  have hfl : w2.frozen? ⟨g, p * 2, none⟩ = false := row_frozen nr (p * 2)
  have hfl1 : w2.frozen? ⟨g, p * 2 + 1, none⟩ = false := row_frozen nr (p * 2 + 1)
  have NB := Lib.hid nb
  have NR := Lib.hid nr
  have NK := Lib.hid nk
  clear nb nr nk hy
  go_still_tail 10, (by kernel_rfl)
  go_upto_region 9 with (fail)
  have nb := (((NB.out.other (p := ⟨g, p * 2, none⟩) hgb (.string x.1)).other (p := ⟨g, p * 2 + 1, none⟩) hgb (.int .i64 x.2)).set 4 (.int .i64 ((l.length : Int) + 1))).drew
  have nr := row_drewN (row_setCell_other (rowx_set x NR.out hpl) (a := ⟨b, 4, none⟩) ho (.int .i64 ((l.length : Int) + 1))) 1
  have nk := (((NK.out.setCell (p := ⟨g, p * 2, none⟩) (Or.inl (Or.inr rfl)) (.string x.1)).setCell (p := ⟨g, p * 2 + 1, none⟩) (Or.inl (Or.inr rfl)) (.int .i64 x.2)).setCell (p := ⟨b, 4, none⟩) (Or.inl (Or.inl rfl)) (.int .i64 ((l.length : Int) + 1))).drew
  obtain ⟨w3, hw3⟩ : ∃ w3, (((w2.setCell ⟨g, p * 2, none⟩ (.string x.1)).setCell ⟨g, p * 2 + 1, none⟩ (.int .i64 x.2)).setCell ⟨b, 4, none⟩ (.int .i64 ((l.length : Int) + 1))).drew = w3 := ⟨_, rfl⟩
  change Row (World.drew _) _ _ _ _ _ at nr
  rw [hw3] at nb nr nk ⊢
  clear c2 c3 c4 f4 hw3 hcl hfl hcl1 hfl1 NB NR NK
  have c4 := nb.cell 4 rfl
  have c5 := nb.cell 5 rfl
  have f5 := nb.frozen 5
  have NB := Lib.hid nb
  have NR := Lib.hid nr
  have NK := Lib.hid nk
  clear nb nr nk
  go_still_tail 12, (by kernel_rfl)
  go_wp2_with fail
  go_ret
  have hl : ((x :: l).length : Int) = (l.length : Int) + 1 := by simp
  refine ⟨rfl, _, p, cs1.set p x, ⟨?_, ?_, ho, by simpa using hcr, hrm, HR.out⟩, HF.out, ?_⟩
  · rw [hl]; exact Blk.heap (NB.out.set 5 _) rfl
  · rw [List.length_set]; exact row_heap (row_setCell_other NR.out (a := ⟨b, 5, none⟩) ho _) (fun _ _ => rfl)
  · exact (((HK.out.mono (fun _ _ e => Or.inl e)).then NK.out (fun i hi => HF.out i hi)).set (b := b) 5 (Or.inl (Or.inl rfl)) _).same rfl rfl rfl rfl
end
end Go.Proofs.Ytibgoipdaeaigaa.RX
