/- space of ring.Ring[int]: room for one thing more. -/
import Derived.Test.YtdjdnfjfomeldaaRiInt
namespace Go.Proofs.Ytdjdnfjfomeldaa.RI
open Go.RowKit Go.Fr

section
variable {w : World} {b : Nat} {v : Value} {room f : Nat} {high : Int} {cs l : List Int}

set_option maxRecDepth 100000 in
theorem space_full (hs : IsRing w b v room f high cs l) (h : room ≤ l.length) : Calls Try.prog 53 #[.pointer (some ⟨b, 0, none⟩)] w fun e w' =>
    e = .returned (.int .i64 121) ∧ ∃ n, w' = w.drewN n := by
  have c1 := hs.1.cell 1 rfl
  have c4 := hs.1.cell 4 rfl
  have h' : (room : Int) ≤ l.length := by omega
  go_enter Try.func53, Try.ntmps53
  go_wp2
  go_quiet (fail)
  go_wp2
  go_ret
  exact ⟨rfl, _, rfl⟩

set_option maxRecDepth 100000 in
theorem space_has (hs : IsRing w b v room f high cs l) (h : l.length < cs.length) : Calls Try.prog 53 #[.pointer (some ⟨b, 0, none⟩)] w fun e w' =>
    e = .returned (.int .i64 0) ∧ ∃ n, w' = w.drewN n := by
  have c1 := hs.1.cell 1 rfl
  have c2 := hs.1.cell 2 rfl
  have c4 := hs.1.cell 4 rfl
  have hcr := hs.2.2.2.1
  have h1 : ¬ (room : Int) ≤ l.length := by omega
  have h2 : ((l.length : Int) == (cs.length : Int)) = false := by simp; omega
  have h3 : ¬ (l.length = cs.length) := by omega
  obtain ⟨ao, c, rfl, hc⟩ := row_any hs.2.1
  go_enter Try.func53, Try.ntmps53
  go_wp2
  go_quiet (fail)
  go_wp2
  go_quiet (fail)
  go_wp2
  go_ret
  exact ⟨rfl, _, World.drewN_drewN _ _ _⟩

theorem ints_one (l : List Int) : ∀ u ∈ l.map (Value.int .i64), u.oneCell' = true := by
  intro u hu
  obtain ⟨_, _, rfl⟩ := List.mem_map.1 hu
  rfl

theorem zero_int (w : World) : (zeroValue 3).run Try.prog w = .ok (.int .i64 0) w := by kernel_rfl

set_option maxRecDepth 100000 in
set_option maxHeartbeats 1000000 in
theorem space_grow (hs : IsRing w b v room f high cs l) (h0 : l.length = cs.length) (h : l.length < room) : Calls Try.prog 53 #[.pointer (some ⟨b, 0, none⟩)] w fun e w' =>
    e = .returned (.int .i64 0) ∧ ∃ v' cs', IsRing w' b v' room 0 high cs' l ∧ l.length < cs'.length ∧ (∀ i, v'.ownBlock = some i → w.heap.size ≤ i) ∧ Kept (fun k => k = b) w w' := by
  have hbl := hs.1.lt
  have c1 := hs.1.cell 1 rfl
  have c2 := hs.1.cell 2 rfl
  have c4 := hs.1.cell 4 rfl
  have hcr := hs.2.2.2.1
  have hrm := hs.2.2.2.2.1
  have h1 : ¬ (room : Int) ≤ l.length := by omega
  have h2 : ((l.length : Int) == (cs.length : Int)) = true := by simp; omega
  obtain ⟨i0, hi, hz0, hz1, hz2⟩ := info_parts info
  obtain ⟨ao, c, rfl, hc⟩ := row_any hs.2.1
  obtain ⟨m, hm⟩ : ∃ m, min room (2 * l.length + 4) = m := ⟨_, rfl⟩
  have hm1 : l.length < m := by omega
  have hm2 : m ≤ room := by omega
  have hmul : IntKind.i64.wrap (2 * (l.length : Int)) = 2 * (l.length : Int) := IntWalk.i64_in _ (by omega)
  have hadd : IntKind.i64.wrap (2 * (l.length : Int) + 4) = 2 * (l.length : Int) + 4 := IntWalk.i64_in _ (by omega)
  have hmk : ∀ w, (Instr.makeSlice 75 (.int .i64 (m : Int)) (.int .i64 (m : Int))).run Try.prog w = .ok (.slice (some ⟨w.heap.size, 0, none⟩) m m) (w.alloc (.cells ((List.replicate m (0 : Int)).flatMap (fun x => [Value.int .i64 x])).toArray 3)) :=
    fun w => run_make_flat (enc := fun x => [Value.int .i64 x]) (fun _ => rfl) (by decide) 0 _ _ i0 _ Try.underlying75 hi hz0 hz1 rfl .i64 .i64 m (by rw [hz2]; omega) (by omega) w
  have H0 := Lib.hid h0
  clear h0
  go_enter Try.func53, Try.ntmps53
  go_wp2
  go_quiet (fail)
  go_wp2
  go_quiet (fail)
  go_wp2_with fail
  refine (list_ok (hs.drewN _)).mono ?_
  rintro e w1 ⟨al, cl, rfl, hrl, hfl, hkl⟩
  have hk1 := hkl.undrew
  clear hkl
  have hs1 := hs.kept hk1 (fun _ _ h => h)
  have hz := hk1.size
  clear c1 c2 c4
  have c1 := hs1.1.cell 1 rfl
  have c4 := hs1.1.cell 4 rfl
  have c2 := hs1.1.cell 2 rfl
  have f2 := hs1.1.frozen 2
  have hlt1 := hs1.1.lt
  have f3 := hs1.1.frozen 3
  have HS1 := Lib.hid hs1
  have HK1 := Lib.hid hk1
  have HRL := Lib.hid hrl
  have HFL := Lib.hid hfl
  have HS := Lib.hid hs
  clear hs1 hk1 hrl hfl hs
  have hif : (if 2 * (l.length : Int) + 4 < (room : Int) then 2 * (l.length : Int) + 4 else (room : Int)) = (m : Int) := by split <;> omega
  go_wp2_with fail
  go_region
  obtain ⟨N, hN⟩ : ∃ N, w1.heap.size = N := ⟨_, rfl⟩
  have hbN : b < N := by omega
  have nb := (HS1.out.1.set 2 (.slice (some ⟨N, 0, none⟩) m m)).alloc (.cells ((List.replicate m (0 : Int)).flatMap (fun x => [Value.int .i64 x])).toArray 3)
  have nr := row_new (w1.setCell ⟨b, 2, none⟩ (.slice (some ⟨N, 0, none⟩) m m)) 3 1 m ((List.replicate m (0 : Int)).flatMap (fun x => [Value.int .i64 x])) (by simp) (by unfold maxLen; omega)
  have nl := row_alloc (row_setCell_other HRL.out (a := ⟨b, 2, none⟩) (fun e => by have := HFL.out _ e; simp at this; omega) (.slice (some ⟨N, 0, none⟩) m m)) (.cells ((List.replicate m (0 : Int)).flatMap (fun x => [Value.int .i64 x])).toArray 3)
  have nk := ((Kept.refl (fun k => k = b) w1).setCell (p := ⟨b, 2, none⟩) (Or.inl rfl) (.slice (some ⟨N, 0, none⟩) m m)).alloc (.cells ((List.replicate m (0 : Int)).flatMap (fun x => [Value.int .i64 x])).toArray 3)
  rw [World.size_setCell] at nr
  rw [hN] at nr ⊢
  obtain ⟨w2, hw2⟩ : ∃ w2, ((w1.setCell ⟨b, 2, none⟩ (.slice (some ⟨N, 0, none⟩) m m)).alloc (.cells ((List.replicate m (0 : Int)).flatMap (fun x => [Value.int .i64 x])).toArray 3)).drew = w2 := ⟨_, rfl⟩
  have nb2 := nb.drew
  have nr2 := row_drewN nr 1
  have nl2 := row_drewN nl 1
  have nk2 := nk.drew
  rw [hw2] at nb2 nk2 ⊢
  change Row (World.drew _) _ _ _ _ _ at nr2 nl2
  rw [hw2] at nr2 nl2
  have HL2 := Lib.hid nl2
  have HK2 := Lib.hid nk2
  have HB2 := Lib.hid nb2
  clear hw2 nb nr nl nk nl2 nk2 c1 c2 c4 f2 f3 hif hmk hmul hadd h2
  have c2 := nb2.cell 2 rfl
  have HR2 := Lib.hid nr2
  clear nb2 nr2
  obtain ⟨w3, hrun, r3, k3⟩ := run_copy_flat (P := Try.prog) (sT := 75) (ty := 3) (sc := cl) Try.underlying75 hi hz1 HR2.out HL2.out.shows (Nat.le_of_lt hm1) (ints_one l)
  have nb3 := HB2.out.kept k3 (fun e => by simp [Value.ownBlock] at e; omega)
  have c3 := nb3.cell 3 rfl
  have f3 := nb3.frozen 3
  have HB3 := Lib.hid nb3
  have HR3 := Lib.hid r3
  have HK3 := Lib.hid k3
  clear nb3 r3 k3
  go_wp2
  go_ret
  have hd : l.map (Value.int .i64) ++ ((List.replicate m (0 : Int)).flatMap (fun x => [Value.int .i64 x])).drop (l.length * 1) = (l ++ List.replicate (m - l.length) (0 : Int)).map (Value.int .i64) := by
    simp [← List.map_eq_flatMap]
  have hl : (l ++ List.replicate (m - l.length) (0 : Int)).length = m := by simp; omega
  have r4 := HR3.out
  rw [hd] at r4
  refine ⟨rfl, .slice (some ⟨N, 0, none⟩) m m, l ++ List.replicate (m - l.length) 0, ⟨HB3.out.set 3 _, ?_, by simp [Value.ownBlock]; omega, by rw [hl]; exact hm2, hrm, Ringed.fresh _ _⟩, by rw [hl]; exact hm1, ?_, ?_⟩
  · rw [hl]; exact row_setCell_other r4 (a := ⟨b, 3, none⟩) (by simp [Value.ownBlock]; omega) _
  · intro i hi; simp [Value.ownBlock] at hi; omega
  · exact (((HK1.out.mono (fun _ _ h => h.elim)).then HK2.out (fun i hi => Or.inl hi)).then HK3.out (fun i hi => by simp [Value.ownBlock] at hi; right; omega)).set (b := b) 3 (Or.inl rfl) _

/-- space: no room, or room for one thing more -/
theorem space_ok (hs : IsRing w b v room f high cs l) (h : l.length < room) : Calls Try.prog 53 #[.pointer (some ⟨b, 0, none⟩)] w fun e w' =>
    e = .returned (.int .i64 0) ∧ ∃ v' f' cs', IsRing w' b v' room f' high cs' l ∧ l.length < cs'.length ∧ (∀ i, foot b v' i → foot b v i ∨ w.heap.size ≤ i) ∧ Kept (fun k => k = b) w w' := by
  rcases Nat.lt_or_ge l.length cs.length with h1 | h1
  · refine (space_has hs h1).mono ?_
    rintro e w' ⟨rfl, n, rfl⟩
    exact ⟨rfl, v, f, cs, hs.drewN n, h1, fun _ h => Or.inl h, (Kept.refl _ _).drewN _⟩
  · refine (space_grow hs (Nat.le_antisymm hs.2.2.2.2.2.le h1) h).mono ?_
    rintro e w' ⟨rfl, v', cs', h2, h3, h4, h5⟩
    exact ⟨rfl, v', 0, cs', h2, h3, fun i hi => hi.elim (fun e => Or.inl (Or.inl e)) (fun e => Or.inr (h4 i e)), h5⟩
end
end Go.Proofs.Ytdjdnfjfomeldaa.RI
