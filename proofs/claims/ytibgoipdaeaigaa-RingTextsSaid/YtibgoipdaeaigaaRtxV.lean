/- Take of ring.Ring[Text]. -/
import Derived.Test.YtibgoipdaeaigaaRtxU
namespace Go.Proofs.Ytibgoipdaeaigaa.RX
open Go.RowKit Go.Fr

section
variable {w : World} {b : Nat} {v : Value} {room f : Nat} {high : Int} {cs l : List Tx}

set_option maxRecDepth 100000 in
set_option maxHeartbeats 4000000 in
theorem take_ok (x : Tx) (hs : IsRing w b v room f high cs (x :: l)) : Calls Try.prog 18 #[.pointer (some ⟨b, 0, none⟩)] w fun e w' =>
    e = .returned (.tuple #[valX x, .int .i64 0]) ∧ ∃ f' cs', IsRing w' b v room f' high cs' l ∧ Kept (foot b v) w w' := by
  have kA := ((Kept.refl (fun _ => False) w).alloc (.cells #[.string ⟨#[]⟩, .int .i64 0] 31)).alloc (.cells #[.string ⟨#[]⟩, .int .i64 0] 31)
  have hlt0 := hs.lt
  have hs := hs.kept kA (fun _ _ h => h)
  have hR := hs.2.2.2.2.2
  have hcr := hs.2.2.2.1
  have hrm := hs.2.2.2.2.1
  obtain ⟨hf, hfx⟩ := hR.head
  have hle := hR.le
  have hR2 := hR.take ((⟨#[]⟩, 0) : Tx)
  obtain ⟨q, hq⟩ : ∃ q, (f + 1) % cs.length = q := ⟨_, rfl⟩
  rw [hq] at hR2
  obtain ⟨g, c, y, rfl, hgb, hy, hcl, hcl1, hfl, hfl1⟩ := hs.spot hf
  obtain rfl : x = y := by rw [hfx] at hy; exact Option.some.inj hy
  have ho := hs.2.2.1
  have hcap := row_cap hs.2.1
  have hbl : b < w.heap.size := hlt0 b (Or.inl rfl)
  have hgl : g < w.heap.size := hlt0 g (Or.inr rfl)
  obtain ⟨n, hn⟩ : ∃ n, l.length = n := ⟨_, rfl⟩
  have hn1 : ((x :: l).length : Int) = (n : Int) + 1 := by simp [hn]
  rw [List.length_cons, hn] at hle
  have hnb : n ≤ 65536 := by omega
  have hadd : IntKind.i64.wrap ((f : Int) + 1) = (f : Int) + 1 := IntWalk.i64_in _ (by omega)
  have hsub : IntKind.i64.wrap ((n : Int) + 1 - 1) = (n : Int) := by rw [IntWalk.i64_in _ (by omega)]; omega
  have hmod : ((f : Int) + 1).tmod (cs.length : Int) = (q : Int) := by rw [← hq]; rfl
  have hC1 : ¬ ((cs.length : Int) = 0) := by omega
  have hC2 : ¬ (cs = []) := by rintro rfl; simp at hf
  have hf0 : (0 : Int) ≤ (f : Int) := Int.natCast_nonneg _
  have hf1 : (f : Int) < (cs.length : Int) := by omega
  have hB := hs.1
  rw [hn1] at hB
  have hnz : ¬ ((n : Int) + 1 = 0) := by omega
  have c2 := hB.cell 2 rfl
  have c3 := hB.cell 3 rfl
  have c4 := hB.cell 4 rfl
  have d2 : ∀ o : Obj, (((w.alloc (.cells #[.string ⟨#[]⟩, .int .i64 0] 31)).alloc (.cells #[.string ⟨#[]⟩, .int .i64 0] 31)).alloc o).cell? ⟨b, 2, none⟩ = some (.slice (some ⟨g, 0, none⟩) cs.length c) := fun o => (hB.alloc o).cell 2 rfl
  have d3 : ∀ o : Obj, (((w.alloc (.cells #[.string ⟨#[]⟩, .int .i64 0] 31)).alloc (.cells #[.string ⟨#[]⟩, .int .i64 0] 31)).alloc o).cell? ⟨b, 3, none⟩ = some (.int .i64 f) := fun o => (hB.alloc o).cell 3 rfl
  have hz0 : ∀ (o : Obj), (((w.alloc (.cells #[.string ⟨#[]⟩, .int .i64 0] 31)).alloc (.cells #[.string ⟨#[]⟩, .int .i64 0] 31)).alloc o).cell? ⟨g, f * 2, none⟩ = some (.string x.1) := fun o => rows_cell (i := 0) encX_len (row_alloc hs.2.1 o) hfx rfl
  have hz1 : ∀ (o : Obj), (((w.alloc (.cells #[.string ⟨#[]⟩, .int .i64 0] 31)).alloc (.cells #[.string ⟨#[]⟩, .int .i64 0] 31)).alloc o).cell? ⟨g, f * 2 + 1, none⟩ = some (.int .i64 x.2) := fun o => rows_cell (i := 1) encX_len (row_alloc hs.2.1 o) hfx rfl
  have HR := Lib.hid hR2
  have ha := alive_ok hs
  have HS := Lib.hid hs.2.1
  have HB := Lib.hid hB
  have KA := Lib.hid kA
  clear hR2 hR hy hq hle hn1 hs hB kA hlt0
  go_enter Try.func18, Try.ntmps18
  go_wp2_with (go_at_call 46; refine ha.mono ?_; rintro e w' ⟨rfl, rfl⟩)
  go_cut [5] from 18 to 27 (fun t5 wx => t5 = .pointer (some ⟨w.heap.size + 1 + 1, 0, none⟩) ∧ ∃ m, wx = (((w.alloc (.cells #[.string ⟨#[]⟩, .int .i64 0] 31)).alloc (.cells #[.string ⟨#[]⟩, .int .i64 0] 31)).alloc (.cells #[.string x.1, .int .i64 x.2] 31)).drewN m)
  case first =>
    refine wp_region_noPanic ?_
    go_region_law fail
    all_goals
      refine NoPanic.normal ?_
      go_wp2_with fail
      go_meet
      exact ⟨rfl, 1, rfl⟩
  case rest =>
    obtain ⟨rfl, m, rfl⟩ := hcut
    have kX := (KA.out.alloc (.cells #[.string x.1, .int .i64 x.2] 31)).drewN m
    have nb := (HB.out.alloc (.cells #[.string x.1, .int .i64 x.2] 31)).drewN m
    have nr := row_drewN (row_alloc HS.out (.cells #[.string x.1, .int .i64 x.2] 31)) m
    have bx := (Blk.new ((w.alloc (.cells #[.string ⟨#[]⟩, .int .i64 0] 31)).alloc (.cells #[.string ⟨#[]⟩, .int .i64 0] 31)) [.string x.1, .int .i64 x.2] 31).drewN m
    have b2 := (((Blk.new w [.string ⟨#[]⟩, .int .i64 0] 31).alloc (.cells #[.string ⟨#[]⟩, .int .i64 0] 31)).alloc (.cells #[.string x.1, .int .i64 x.2] 31)).drewN m
    rw [World.size_alloc, World.size_alloc] at bx
    clear c2 c3 c4 d2 d3 hz0 hz1 hcl hcl1 hfl hfl1 ha HS HB KA
    obtain ⟨w2, hw2⟩ : ∃ w2, (((w.alloc (.cells #[.string ⟨#[]⟩, .int .i64 0] 31)).alloc (.cells #[.string ⟨#[]⟩, .int .i64 0] 31)).alloc (.cells #[.string x.1, .int .i64 x.2] 31)).drewN m = w2 := ⟨_, rfl⟩
    rw [hw2] at kX nb nr bx b2 ⊢
    clear hw2
    have nbN : b ≠ w.heap.size := by omega
    have nbM : b ≠ w.heap.size + 1 + 1 := by omega
    have ngN : g ≠ w.heap.size := by omega
    have ngM : g ≠ w.heap.size + 1 + 1 := by omega
    have c2 := nb.cell 2 rfl
    have c3 := nb.cell 3 rfl
    have hcl : w2.cell? ⟨g, f * 2, none⟩ = some (.string x.1) := rows_cell (i := 0) encX_len nr hfx rfl
    have hcl1 : w2.cell? ⟨g, f * 2 + 1, none⟩ = some (.int .i64 x.2) := rows_cell (i := 1) encX_len nr hfx rfl
    have hfl : w2.frozen? ⟨g, f * 2, none⟩ = false := row_frozen nr _
    have hfl1 : w2.frozen? ⟨g, f * 2 + 1, none⟩ = false := row_frozen nr _
    have hrun : (Builtin.clear_ #[25] 0 #[.slice (some ⟨g, f * 2, none⟩) 1 (c - f)]).run Try.prog w2.drew = .ok (.tuple #[]) ((w2.drew.setCell ⟨g, f * 2, none⟩ (.string ⟨#[]⟩)).setCell ⟨g, f * 2 + 1, none⟩ (.int .i64 0)) :=
      run_clear_one2 w2.drew _ _ 0 _ _ _ Try.underlying25 zero_tx rfl rfl rfl g (f * 2) (c - f) (Option.isSome_iff_exists.2 ⟨_, hcl⟩) (Option.isSome_iff_exists.2 ⟨_, hcl1⟩) hfl hfl1
    have hfc : (f : Int) + 1 ≤ (c : Int) := by omega
    have hfc' : ¬ (f = c) := by omega
    have NB := Lib.hid nb
    have NR := Lib.hid nr
    have NK := Lib.hid kX
    have BX := Lib.hid bx
    have B2 := Lib.hid b2
    clear nb nr kX bx b2
    go_upto_region 7 with (fail)
    go_still_tail 13, (by kernel_rfl)
    go_upto_region 8 with (fail)
    have nb := ((NB.out.other (p := ⟨g, f * 2, none⟩) hgb (.string ⟨#[]⟩)).other (p := ⟨g, f * 2 + 1, none⟩) hgb (.int .i64 0)).drew
    have nr := row_drewN (rowx_set ((⟨#[]⟩, 0) : Tx) NR.out hf) 1
    have nk := (((NK.out.mono (S' := foot b (.slice (some ⟨g, 0, none⟩) cs.length c)) (fun _ _ h => h.elim)).setCell (p := ⟨g, f * 2, none⟩) (Or.inl (Or.inr rfl)) (.string ⟨#[]⟩)).setCell (p := ⟨g, f * 2 + 1, none⟩) (Or.inl (Or.inr rfl)) (.int .i64 0)).drew
    have bx := ((BX.out.other (p := ⟨g, f * 2, none⟩) ngM (.string ⟨#[]⟩)).other (p := ⟨g, f * 2 + 1, none⟩) ngM (.int .i64 0)).drew
    have b2 := ((B2.out.other (p := ⟨g, f * 2, none⟩) ngN (.string ⟨#[]⟩)).other (p := ⟨g, f * 2 + 1, none⟩) ngN (.int .i64 0)).drew
    obtain ⟨w3, hw3⟩ : ∃ w3, ((w2.setCell ⟨g, f * 2, none⟩ (.string ⟨#[]⟩)).setCell ⟨g, f * 2 + 1, none⟩ (.int .i64 0)).drew = w3 := ⟨_, rfl⟩
    change Row (World.drew _) _ _ _ _ _ at nr
    rw [hw3] at nb nr nk bx b2 ⊢
    clear hw3 c2 c3 hcl hcl1 hfl hfl1 hrun NB NR NK BX B2
    have c2 := nb.cell 2 rfl
    have c3 := nb.cell 3 rfl
    have f3 := nb.frozen 3
    have NB := Lib.hid nb
    have NR := Lib.hid nr
    have NK := Lib.hid nk
    have BX := Lib.hid bx
    have B2 := Lib.hid b2
    clear nb nr nk bx b2
    go_still_tail 14, (by kernel_rfl)
    go_upto_region 9 with (fail)
    have nb := (NB.out.set 3 (.int .i64 q)).drew
    have nr := row_drewN (row_setCell_other NR.out (a := ⟨b, 3, none⟩) ho (.int .i64 q)) 1
    have nk := (NK.out.set (b := b) 3 (Or.inl (Or.inl rfl)) (.int .i64 q)).drew
    have bx := (BX.out.other (p := ⟨b, 3, none⟩) nbM (.int .i64 q)).drew
    have b2 := (B2.out.other (p := ⟨b, 3, none⟩) nbN (.int .i64 q)).drew
    obtain ⟨w4, hw4⟩ : ∃ w4, (w3.setCell ⟨b, 3, none⟩ (.int .i64 q)).drew = w4 := ⟨_, rfl⟩
    change Row (World.drew _) _ _ _ _ _ at nr
    rw [hw4] at nb nr nk bx b2 ⊢
    clear hw4 c2 c3 f3 NB NR NK BX B2
    have c4 := nb.cell 4 rfl
    have f4 := nb.frozen 4
    have nb5 := nb.set 4 (.int .i64 n)
    have nr5 := row_setCell_other nr (a := ⟨b, 4, none⟩) ho (.int .i64 n)
    have nk5 := nk.set (b := b) 4 (Or.inl (Or.inl rfl)) (.int .i64 n)
    have bx5 := bx.other (p := ⟨b, 4, none⟩) nbM (.int .i64 n)
    have b25 := b2.other (p := ⟨b, 4, none⟩) nbN (.int .i64 n)
    have NB := Lib.hid nb5
    have NR := Lib.hid nr5
    have NK := Lib.hid nk5
    have BX := Lib.hid bx5
    have B2 := Lib.hid b25
    clear nb nr nk bx b2 nb5 nr5 nk5 bx5 b25
    go_upto_region 10 with (fail)
    obtain ⟨w5, hw5⟩ : ∃ w5, w4.setCell ⟨b, 4, none⟩ (.int .i64 n) = w5 := ⟨_, rfl⟩
    have nb := NB.out
    have nr := NR.out
    have nk := NK.out
    have bx := BX.out
    have b2 := B2.out
    rw [hw5] at nb nr nk bx b2 ⊢
    clear hw5 c4 f4 NB NR NK BX B2
    have y0 := bx.cell 0 rfl
    have y1 := bx.cell 1 rfl
    have z0 := b2.cell 0 rfl
    have z1 := b2.cell 1 rfl
    have g0 := b2.frozen 0
    have g1 := b2.frozen 1
    have NB := Lib.hid ((nb.other (p := ⟨w.heap.size, 0, none⟩) nbN.symm (.string x.1)).other (p := ⟨w.heap.size, 1, none⟩) nbN.symm (.int .i64 x.2))
    have hoN : (Value.slice (some ⟨g, 0, none⟩) cs.length c).ownBlock ≠ some w.heap.size := by simp [Value.ownBlock]; omega
    have NR := Lib.hid (row_setCell_other (row_setCell_other nr (a := ⟨w.heap.size, 0, none⟩) hoN (.string x.1)) (a := ⟨w.heap.size, 1, none⟩) hoN (.int .i64 x.2))
    have NK := Lib.hid ((nk.setCell (p := ⟨w.heap.size, 0, none⟩) (Or.inr (Nat.le_refl _)) (.string x.1)).setCell (p := ⟨w.heap.size, 1, none⟩) (Or.inr (Nat.le_refl _)) (.int .i64 x.2))
    clear nb nr nk bx b2
    go_wp2
    refine bodyPost_ret (v := .tuple #[valX x, .int .i64 0]) (by rw [results_cell_tmp rfl]; go_simp) rfl ⟨rfl, q, cs.set f ((⟨#[]⟩, 0) : Tx), ⟨?_, ?_, ho, by simpa using hcr, hrm, HR.out⟩, NK.out⟩
    · rw [hn]; exact NB.out
    · rw [List.length_set]; exact NR.out
end
end Go.Proofs.Ytibgoipdaeaigaa.RX
