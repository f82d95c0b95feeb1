/- Take, At, Clear of ring.Ring[int]. -/
import Derived.Test.YtdjdnfjfomeldaaRiT
import Derived.Lib.SliceRun
namespace Go.Proofs.Ytdjdnfjfomeldaa.RI
open Go.RowKit Go.Fr

section
variable {w : World} {b : Nat} {v : Value} {room f : Nat} {high : Int} {cs l : List Int}

theorem take_none (hs : IsRing w b v room f high cs []) : Calls Try.prog 37 #[.pointer (some ⟨b, 0, none⟩)] w fun e w' =>
    e = .returned (.tuple #[.int .i64 0, .int .i64 122]) ∧ w = w' := by
  have c4 := hs.1.cell 4 rfl
  simp only [List.length_nil] at c4
  go_enter Try.func37, Try.ntmps37
  go_wp2_with (go_at_call 52; refine (alive_ok hs).mono ?_; rintro e w' ⟨rfl, rfl⟩)
  go_ret2
  exact ⟨rfl, rfl⟩

set_option maxRecDepth 100000 in
set_option maxHeartbeats 2000000 in
theorem take_ok (x : Int) (hs : IsRing w b v room f high cs (x :: l)) : Calls Try.prog 37 #[.pointer (some ⟨b, 0, none⟩)] w fun e w' =>
    e = .returned (.tuple #[.int .i64 x, .int .i64 0]) ∧ ∃ f' cs', IsRing w' b v room f' high cs' l ∧ Kept (foot b v) w w' := by
  have hR := hs.2.2.2.2.2
  have hcr := hs.2.2.2.1
  have hrm := hs.2.2.2.2.1
  have hlt := hs.1.lt
  obtain ⟨hf, hfx⟩ := hR.head
  have hle := hR.le
  have hR2 := hR.take 0
  obtain ⟨q, hq⟩ : ∃ q, (f + 1) % cs.length = q := ⟨_, rfl⟩
  rw [hq] at hR2
  obtain ⟨g, c, y, rfl, hgb, hy, hcl, hfl⟩ := hs.spot hf
  obtain rfl : x = y := by rw [hfx] at hy; exact Option.some.inj hy
  have ho := hs.2.2.1
  have hcap := row_cap hs.2.1
  obtain ⟨n, hn⟩ : ∃ n, l.length = n := ⟨_, rfl⟩
  have hn1 : ((x :: l).length : Int) = (n : Int) + 1 := by simp [hn]
  rw [List.length_cons, hn] at hle
  have hnb : n ≤ 65536 := by omega
  have hadd : IntKind.i64.wrap ((f : Int) + 1) = (f : Int) + 1 := IntWalk.i64_in _ (by omega)
  have hsub : IntKind.i64.wrap ((n : Int) + 1 - 1) = (n : Int) := by rw [IntWalk.i64_in _ (by omega)]; omega
  have hmod : ((f : Int) + 1).tmod (cs.length : Int) = (q : Int) := by rw [← hq]; rfl
  have hC1 : ¬ ((cs.length : Int) = 0) := by omega
  have hC2 : ¬ (cs = []) := by rintro rfl; simp at hf
  have hf0 : (0 : Int) ≤ (f : Int) := Int.natCast_nonneg _
  have hf1 : (f : Int) < (cs.length : Int) := by omega
  have hB := hs.1
  rw [hn1] at hB
  have hnz : ¬ ((n : Int) + 1 = 0) := by omega
  have c2 := hB.cell 2 rfl
  have c3 := hB.cell 3 rfl
  have c4 := hB.cell 4 rfl
  have HS := Lib.hid hs
  have HR := Lib.hid hR2
  have HB := Lib.hid hB
  clear hB hR2 hR hy hq hle hn1
  have ha := alive_ok hs
  clear hs
  go_enter Try.func37, Try.ntmps37
  go_wp2_with (go_at_call 52; refine ha.mono ?_; rintro e w' ⟨rfl, rfl⟩)
  go_quiet (fail)
  go_upto_region 7 with (fail)
  obtain ⟨w2, hw2⟩ : ∃ w2, w.drewN nq = w2 := ⟨_, rfl⟩
  have nb := HB.out.drewN nq
  have nr := row_drewN HS.out.2.1 nq
  have nk := (Kept.refl (foot b (.slice (some ⟨g, 0, none⟩) cs.length c)) w).drewN nq
  rw [hw2] at nr nb nk ⊢
  clear hw2 c2 c3 c4 hcl hfl ha
  have c2 := nb.cell 2 rfl
  have c3 := nb.cell 3 rfl
  have hcl := row_cell nr f (u := .int .i64 x) (by rw [List.getElem?_map, hfx]; rfl)
  have hfl := row_frozen nr f
  have hrun : (Builtin.clear_ #[75] 0 #[.slice (some ⟨g, f, none⟩) 1 (c - f)]).run Try.prog w2.drew = .ok (.tuple #[]) (w2.drew.setCell ⟨g, f, none⟩ (.int .i64 0)) :=
    Lib.run_clear_slice w2.drew _ _ 0 _ Try.underlying75 zero_int rfl rfl g f 1 (c - f) (by decide) (fun j hj => by rw [show j = 0 by omega]; exact Option.isSome_iff_exists.2 ⟨_, hcl⟩) (fun j hj => by rw [show j = 0 by omega]; exact hfl)
  have hfc : (f : Int) + 1 ≤ (c : Int) := by omega
  have hfc' : ¬ (f = c) := by omega
  have NB := Lib.hid nb
  have NR := Lib.hid nr
  have NK := Lib.hid nk
  clear nb nr nk
  go_still_tail 13, (by kernel_rfl)
  go_upto_region 8 with (fail)
  have nb := (NB.out.other (p := ⟨g, f, none⟩) hgb (.int .i64 0)).drew
  have nr := row_drewN (row_set NR.out f (.int .i64 0)) 1
  have nk := (NK.out.setCell (p := ⟨g, f, none⟩) (Or.inl (Or.inr rfl)) (.int .i64 0)).drew
  obtain ⟨w3, hw3⟩ : ∃ w3, (w2.setCell ⟨g, f, none⟩ (.int .i64 0)).drew = w3 := ⟨_, rfl⟩
  change Row (World.drew _) _ _ _ _ _ at nr
  rw [hw3] at nb nr nk ⊢
  clear hw3 c2 c3 hcl hfl hrun NB NR NK
  have c2 := nb.cell 2 rfl
  have c3 := nb.cell 3 rfl
  have f3 := nb.frozen 3
  have c4 := nb.cell 4 rfl
  have f4 := nb.frozen 4
  have NB := Lib.hid nb
  have NR := Lib.hid nr
  have NK := Lib.hid nk
  clear nb nr nk
  go_still_tail 14, (by kernel_rfl)
  go_wp2_with fail
  go_ret2
  refine ⟨rfl, q, cs.set f 0, ⟨?_, ?_, ho, by simpa using hcr, hrm, HR.out⟩, ?_⟩
  · rw [hn]; exact Blk.heap ((NB.out.set 3 _).set 4 _) rfl
  · rw [List.length_set, List.map_set]; exact row_heap (row_setCell_other (row_setCell_other NR.out (a := ⟨b, 3, none⟩) ho _) (a := ⟨b, 4, none⟩) ho _) (fun _ _ => rfl)
  · exact ((NK.out.set (b := b) 3 (Or.inl (Or.inl rfl)) _).set (b := b) 4 (Or.inl (Or.inl rfl)) _).same rfl rfl rfl rfl

set_option maxRecDepth 100000 in
set_option maxHeartbeats 2000000 in
theorem clear_ok (hs : IsRing w b v room f high cs l) : Calls Try.prog 48 #[.pointer (some ⟨b, 0, none⟩)] w fun e w' =>
    e = .returned (.int .i64 l.length) ∧ ∃ cs', IsRing w' b v room 0 high cs' [] ∧ Kept (foot b v) w w' := by
  have hcr := hs.2.2.2.1
  have hrm := hs.2.2.2.2.1
  have ho := hs.2.2.1
  obtain ⟨ao, c, rfl, hc⟩ := row_any hs.2.1
  have c2 := hs.1.cell 2 rfl
  have c4 := hs.1.cell 4 rfl
  obtain ⟨w1, hrun, r1, k1⟩ := run_clear_row (P := Try.prog) (ty := 0) (enc := fun x => [Value.int .i64 x]) (fun _ => rfl) (by decide) 0 (.int .i64 0) Try.underlying75 zero_int rfl (by simp [Value.oneCell']) hs.2.1
  have nb := hs.1.kept k1 (fun e => ho e)
  have NB := Lib.hid nb
  have NR := Lib.hid r1
  have NK := Lib.hid k1
  have d4 := nb.cell 4 rfl
  have d3 := nb.cell 3 rfl
  have e4 := nb.frozen 4
  have e3 := nb.frozen 3
  clear nb r1 k1
  have ha := alive_ok hs
  clear hs
  go_enter Try.func48, Try.ntmps48
  go_wp2_with (go_at_call 52; refine ha.mono ?_; rintro e w' ⟨rfl, rfl⟩)
  go_ret
  have hd : (List.replicate cs.length (0 : Int)).flatMap (fun x => [Value.int .i64 x]) = (List.replicate cs.length (0 : Int)).map (Value.int .i64) := by simp [← List.map_eq_flatMap]
  have r1 := NR.out
  rw [hd] at r1
  refine ⟨rfl, List.replicate cs.length 0, ⟨?_, ?_, ho, by simpa using hcr, hrm, Ringed.clear _ _⟩, ?_⟩
  · exact Blk.heap ((NB.out.set 4 _).set 3 _) rfl
  · rw [List.length_replicate]; exact row_heap (row_setCell_other (row_setCell_other r1 (a := ⟨b, 4, none⟩) ho _) (a := ⟨b, 3, none⟩) ho _) (fun _ _ => rfl)
  · exact (((NK.out.mono (fun i _ hi => (Or.inr hi : foot b (.slice ao cs.length c) i))).set (b := b) 4 (Or.inl (Or.inl rfl)) _).set (b := b) 3 (Or.inl (Or.inl rfl)) _)
end
end Go.Proofs.Ytdjdnfjfomeldaa.RI
