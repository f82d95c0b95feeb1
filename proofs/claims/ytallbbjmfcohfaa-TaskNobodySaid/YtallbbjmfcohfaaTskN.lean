/- Package task: New, Those, Reset, Copy. -/
import Derived.Test.YtallbbjmfcohfaaTskC
import Derived.Laws.IdiomCopy
namespace Go.Proofs.Ytallbbjmfcohfaa.TK
open Go.RowKit Go.Fr

def goodR (r : Int × Bool) : Bool := decide (1 ≤ r.1) && decide (r.1 ≤ 255) && !(r.2 && decide (1 < r.1))
def mkT (r : Int × Bool) : Tk := (r.1, r.2, 3, 0)
theorem info_t : (Try.prog.info? 67).map (fun i => (i.zero, i.size, i.bytes)) = some (some (.agg #[.int .i64 0, .bool false, .int .i64 0, .int .i64 0]), 4, 32) := by kernel_rfl

theorem new_big (ao : Option Addr) (n c : Nat) (w : World) (h : 256 < n) : Calls Try.prog 10 #[.slice ao n c] w fun e w' => e = .returned (.tuple #[.pointer none, .int .i64 182]) ∧ w = w' := by
  go_enter Try.func10, Try.ntmps10
  go_wp2
  go_ret2
  exact ⟨rfl, rfl⟩

/-- the table under way -/
structure Mk (w wr : World) (b k : Nat) (v : Value) (rs : List (Int × Bool)) : Prop where
  blk : Blk wr b [.bool true, v, .int .i64 (-1)] 64
  row : Row wr 67 4 v k (((rs.take k).map mkT).flatMap encT)
  own : ∀ g, v.ownBlock = some g → b < g
  kept : Kept (fun _ => False) w wr
  b0 : w.heap.size ≤ b

theorem Mk.step {w wr wa w1 wf : World} {b k c' : Nat} {v : Value} {ao' : Option Addr} {rs : List (Int × Bool)} {r : Int × Bool} (h : Mk w wr b k v rs) (hx : rs[k]? = some r) (he : Kept (fun _ => False) wr wa)
    (r1 : Row w1 67 4 (.slice ao' (k + 1) c') (k + 1) (((rs.take k).map mkT).flatMap encT ++ encT (mkT r))) (r2 : wa.grownBy w1 v.ownBlock) (r3 : ∀ g, (Value.slice ao' (k + 1) c').ownBlock = some g → v.ownBlock = some g ∨ wa.heap.size ≤ g)
    (hf : Kept (fun _ => False) (w1.setCell ⟨b, 1, none⟩ (.slice ao' (k + 1) c')) wf) : Mk w wf b (k + 1) (.slice ao' (k + 1) c') rs := by
  have hbl := h.blk.lt
  have hz := he.size
  have hown : ∀ g, (Value.slice ao' (k + 1) c').ownBlock = some g → b < g := fun g hg => (r3 g hg).elim (fun e => h.own g e) (fun e => by omega)
  have hnb : v.ownBlock ≠ some b := fun e => by have := h.own b e; omega
  refine ⟨?_, ?_, hown, ?_, h.b0⟩
  · exact (((h.blk.kept he (fun h => h)).grown r2 (fun e => hnb e.symm)).set 1 _).kept hf (fun h => h)
  · have e : (((rs.take (k + 1)).map mkT).flatMap encT) = ((rs.take k).map mkT).flatMap encT ++ encT (mkT r) := by
      rw [List.take_add_one, hx]; simp
    rw [e]
    exact row_kept (row_setCell_other r1 (a := ⟨b, 1, none⟩) (fun e => by have := hown _ e; simp at this) _) hf (fun _ _ h => h)
  · have k0 : Kept (fun i => w.heap.size ≤ i) w wa := (h.kept.mono (fun _ _ h => False.elim h)).then he (fun _ h => False.elim h)
    have k1 : Kept (fun i => w.heap.size ≤ i) w w1 := k0.grown r2 (fun k hk => Or.inl (by have := h.own k hk; have := h.b0; omega))
    have k2 := (k1.set (b := b) 1 (Or.inl h.b0) (.slice ao' (k + 1) c')).then hf (fun _ h => False.elim h)
    exact k2.mono (fun i hi h => by omega)

set_option maxRecDepth 100000 in
set_option maxHeartbeats 4000000 in
theorem new_ok (ao : Option Addr) (c : Nat) (rs : List (Int × Bool)) (w : World) (h : rs.length ≤ 256) (hc : CameL w 2 (encKB .i64) ao rs) (hgd : ∀ (j : Nat) (r : Int × Bool), j < rs.length → rs[j]? = some r → goodR r = true) : Calls Try.prog 10 #[.slice ao rs.length c] w fun e w' =>
    ∃ b v, e = .returned (.tuple #[.pointer (some ⟨b, 0, none⟩), .int .i64 0]) ∧ IsTk w' b v (-1) (rs.map mkT) ∧ (∀ i, foot b v i → w.heap.size ≤ i) ∧ Kept (fun _ => False) w w' := by
  obtain ⟨i0, hi, hz0, hz1, hz2⟩ := info_parts info_t
  have M0 : Hid (Mk w (w.alloc (.cells #[.bool true, .slice none 0 0, .int .i64 (-1)] 64)) w.heap.size 0 (.slice none 0 0) rs) :=
    ⟨Blk.new w [.bool true, .slice none 0 0, .int .i64 (-1)] _, World.ownsRow_nil _ _ _ _, by simp [Value.ownBlock], (Kept.refl _ w).alloc _, Nat.le_refl _⟩
  have HC := Lib.hid hc
  have HG := Lib.hid hgd

  obtain ⟨b, hb0⟩ : ∃ b, w.heap.size = b := ⟨_, rfl⟩
  rw [hb0] at M0
  clear hc hgd
  go_enter Try.func10, Try.ntmps10
  go_wp2
  have HB0 := Lib.hid hb0
  clear hb0
  go_loopw [14] (fun i wr => ∃ (k : Nat) (ao' : Option Addr) (c' : Nat), k ≤ rs.length ∧ i = .int .i64 k ∧ Hid (Mk w wr b k (.slice ao' k c') rs)) (fun i _ => rs.length - (intOf i).toNat)
  case atStart => exact ⟨0, none, 0, Nat.zero_le _, rfl, M0⟩
  case round =>
    clear M0
    obtain ⟨k, av, cv, hk, rfl, hM⟩ := hrel
    by_cases hlt : k < rs.length
    · obtain ⟨⟨lm, ex⟩, hx⟩ : ∃ r, rs[k]? = some r := ⟨_, List.getElem?_eq_getElem (by omega)⟩
      have hgk := HG.out k _ hlt hx
      obtain ⟨sb, so, rfl, hsb, hcc⟩ := HC.out (by rintro rfl; simp at hx)
      have hc0 : ∀ (j : Nat) (u : Value), (encKB .i64 (lm, ex))[j]? = some u → wr.cell? ⟨sb, so + k * 2 + j, none⟩ = some u := fun j u hu => by
        rw [hM.out.kept.cell (p := ⟨sb, so + k * 2 + j, none⟩) hsb (fun h => h)]
        exact hcc k _ hx j u hu
      have q0 : wr.cell? ⟨sb, so + k * 2, none⟩ = some (.int .i64 lm) := hc0 0 _ rfl
      have q1 : wr.cell? ⟨sb, so + k * 2 + 1, none⟩ = some (.bool ex) := hc0 1 _ rfl
      have hk0 : (0 : Int) ≤ (k : Int) := by omega
      have hk1 : (k : Int) < (rs.length : Int) := by omega
      have hbw := hM.out.blk.lt
      have HX := Lib.hid hx
      simp only [goodR, Bool.and_eq_true, decide_eq_true_eq, Bool.not_eq_true', Bool.and_eq_false_iff, decide_eq_false_iff_not] at hgk
      have d1 : decide (lm < 1) = false := by rw [decide_eq_false_iff_not]; omega
      have d2 : decide (255 < lm) = false := by rw [decide_eq_false_iff_not]; omega
      have nb := (hM.out.blk.alloc (.cells #[.int .i64 lm, .bool ex] 29)).cell 1 rfl
      clear hcc hc0 hx
      cases ex with
      | false =>
        clear hgk
        go_wp2
        refine wp_region_noPanic ?_
        go_region_law (refine step_append_any (by rfl) (.tmp 39) (.tmp 45) 62 (by rfl) 67 i0 (.agg #[.int .i64 0, .bool false, .int .i64 0, .int .i64 0]) 4 32 Try.underlying62 hi hz0 hz1 hz2 (by rfl) (by decide) av k cv (((rs.take k).map mkT).flatMap encT) (by simp [Act.eval, Act.put]) (row_heap (row_alloc (row_alloc hM.out.row (.cells #[.int .i64 lm, .bool false] 29)) (.cells #[.int .i64 lm, .bool false, .int .i64 3, .int .i64 0] 67)) (fun _ _ => rfl)) (some ⟨wr.heap.size + 1, 0, none⟩) 1 1 (encT (mkT (lm, false))) (by simp [Act.eval, Act.put]) (shows_new _ _ _ (by simp) (by rfl)) (by intro u hu; simp only [encT, mkT, List.mem_cons, List.not_mem_nil, or_false] at hu; rcases hu with rfl | rfl | rfl | rfl <;> rfl) (by unfold maxLen; omega) (by omega) ?_; intro ao3 c3 w3 r1 r2 r3; have hn1 := blk_after r2 ((hM.out.blk.alloc (.cells #[.int .i64 lm, .bool false] 29)).alloc (.cells #[.int .i64 lm, .bool false, .int .i64 3, .int .i64 0] 67)) rfl (fun e => by have := hM.out.own _ e; omega); have k2 := hn1.frozen 1; have k3 := hn1.cell 1 rfl)
        all_goals
          refine NoPanic.normal ?_
          have hst := Lib.hid (fun (wf : World) (hf : Kept (fun _ => False) (w3.setCell ⟨b, 1, none⟩ (.slice ao3 (k + 1) c3)) wf) => hM.out.step HX.out (by exact (((Kept.refl (fun _ => False) wr).alloc (.cells #[.int .i64 lm, .bool false] 29)).alloc (.cells #[.int .i64 lm, .bool false, .int .i64 3, .int .i64 0] 67)).same rfl rfl rfl rfl) r1 r2 r3 hf)
          clear r1 r2 r3 hn1
          go_wp2
          go_roundw
          case rel => exact ⟨k + 1, ao3, c3, by omega, by go_num, hst.out _ (by exact (Kept.refl (fun _ => False) _).same rfl rfl rfl rfl)⟩
          case measure => simp [intOf]; omega
      | true =>
        have d3 : decide (1 < lm) = false := by rw [decide_eq_false_iff_not]; rcases hgk.2 with h | h; cases h; omega
        clear hgk
        go_wp2
        refine wp_region_noPanic ?_
        go_region_law (refine step_append_any (by rfl) (.tmp 39) (.tmp 45) 62 (by rfl) 67 i0 (.agg #[.int .i64 0, .bool false, .int .i64 0, .int .i64 0]) 4 32 Try.underlying62 hi hz0 hz1 hz2 (by rfl) (by decide) av k cv (((rs.take k).map mkT).flatMap encT) (by simp [Act.eval, Act.put]) (row_heap (row_alloc (row_alloc hM.out.row (.cells #[.int .i64 lm, .bool true] 29)) (.cells #[.int .i64 lm, .bool true, .int .i64 3, .int .i64 0] 67)) (fun _ _ => rfl)) (some ⟨wr.heap.size + 1, 0, none⟩) 1 1 (encT (mkT (lm, true))) (by simp [Act.eval, Act.put]) (shows_new _ _ _ (by simp) (by rfl)) (by intro u hu; simp only [encT, mkT, List.mem_cons, List.not_mem_nil, or_false] at hu; rcases hu with rfl | rfl | rfl | rfl <;> rfl) (by unfold maxLen; omega) (by omega) ?_; intro ao3 c3 w3 r1 r2 r3; have hn1 := blk_after r2 ((hM.out.blk.alloc (.cells #[.int .i64 lm, .bool true] 29)).alloc (.cells #[.int .i64 lm, .bool true, .int .i64 3, .int .i64 0] 67)) rfl (fun e => by have := hM.out.own _ e; omega); have k2 := hn1.frozen 1; have k3 := hn1.cell 1 rfl)
        all_goals
          refine NoPanic.normal ?_
          have hst := Lib.hid (fun (wf : World) (hf : Kept (fun _ => False) (w3.setCell ⟨b, 1, none⟩ (.slice ao3 (k + 1) c3)) wf) => hM.out.step HX.out (by exact (((Kept.refl (fun _ => False) wr).alloc (.cells #[.int .i64 lm, .bool true] 29)).alloc (.cells #[.int .i64 lm, .bool true, .int .i64 3, .int .i64 0] 67)).same rfl rfl rfl rfl) r1 r2 r3 hf)
          clear r1 r2 r3 hn1
          go_wp2
          go_roundw
          case rel => exact ⟨k + 1, ao3, c3, by omega, by go_num, hst.out _ (by exact (Kept.refl (fun _ => False) _).same rfl rfl rfl rfl)⟩
          case measure => simp [intOf]; omega
    · have hkk : k = rs.length := by omega
      subst hkk
      have hM2 := hM.out
      have e : (rs.take rs.length).map mkT = rs.map mkT := by rw [List.take_length]
      go_wp2
      go_ret2
      refine ⟨b, _, rfl, ⟨hM2.blk, ?_, fun e => by have := hM2.own _ e; omega, by rw [List.length_map]; exact h⟩, ?_, hM2.kept⟩
      · have := hM2.row; rw [e] at this; rw [List.length_map]; exact this
      · rintro i (rfl | hi)
        · exact hM2.b0
        · have := hM2.own i hi; have := hM2.b0; omega

set_option maxRecDepth 100000 in
set_option maxHeartbeats 4000000 in
theorem new_bad (ao : Option Addr) (c : Nat) (rs : List (Int × Bool)) (w : World) (h : rs.length ≤ 256) (hc : CameL w 2 (encKB .i64) ao rs) {p : Nat} {rb : Int × Bool} (hp : rs[p]? = some rb) (hb : goodR rb = false) (hgd : ∀ (j : Nat) (r : Int × Bool), j < p → rs[j]? = some r → goodR r = true) : Calls Try.prog 10 #[.slice ao rs.length c] w fun e w' =>
    e = .returned (.tuple #[.pointer none, .int .i64 182]) ∧ Kept (fun _ => False) w w' := by
  obtain ⟨i0, hi, hz0, hz1, hz2⟩ := info_parts info_t
  have hpl := (List.getElem?_eq_some_iff.1 hp).1
  have M0 : Hid (Mk w (w.alloc (.cells #[.bool true, .slice none 0 0, .int .i64 (-1)] 64)) w.heap.size 0 (.slice none 0 0) rs) :=
    ⟨Blk.new w [.bool true, .slice none 0 0, .int .i64 (-1)] _, World.ownsRow_nil _ _ _ _, by simp [Value.ownBlock], (Kept.refl _ w).alloc _, Nat.le_refl _⟩
  have HC := Lib.hid hc
  have HG := Lib.hid hgd
  have HP := Lib.hid hp
  obtain ⟨b, hb0⟩ : ∃ b, w.heap.size = b := ⟨_, rfl⟩
  rw [hb0] at M0
  clear hc hgd hp
  go_enter Try.func10, Try.ntmps10
  go_wp2
  have HB0 := Lib.hid hb0
  clear hb0
  go_loopw [14] (fun i wr => ∃ (k : Nat) (ao' : Option Addr) (c' : Nat), k ≤ p ∧ i = .int .i64 k ∧ Hid (Mk w wr b k (.slice ao' k c') rs)) (fun i _ => rs.length - (intOf i).toNat)
  case atStart => exact ⟨0, none, 0, Nat.zero_le _, rfl, M0⟩
  case round =>
    clear M0
    obtain ⟨k, av, cv, hk, rfl, hM⟩ := hrel
    by_cases hlt : k < p
    · obtain ⟨⟨lm, ex⟩, hx⟩ : ∃ r, rs[k]? = some r := ⟨_, List.getElem?_eq_getElem (by omega)⟩
      have hgk := HG.out k _ hlt hx
      obtain ⟨sb, so, rfl, hsb, hcc⟩ := HC.out (by rintro rfl; simp at hx)
      have hc0 : ∀ (j : Nat) (u : Value), (encKB .i64 (lm, ex))[j]? = some u → wr.cell? ⟨sb, so + k * 2 + j, none⟩ = some u := fun j u hu => by
        rw [hM.out.kept.cell (p := ⟨sb, so + k * 2 + j, none⟩) hsb (fun h => h)]
        exact hcc k _ hx j u hu
      have q0 : wr.cell? ⟨sb, so + k * 2, none⟩ = some (.int .i64 lm) := hc0 0 _ rfl
      have q1 : wr.cell? ⟨sb, so + k * 2 + 1, none⟩ = some (.bool ex) := hc0 1 _ rfl
      have hk0 : (0 : Int) ≤ (k : Int) := by omega
      have hk1 : (k : Int) < (rs.length : Int) := by omega
      have hbw := hM.out.blk.lt
      have HX := Lib.hid hx
      simp only [goodR, Bool.and_eq_true, decide_eq_true_eq, Bool.not_eq_true', Bool.and_eq_false_iff, decide_eq_false_iff_not] at hgk
      have d1 : decide (lm < 1) = false := by rw [decide_eq_false_iff_not]; omega
      have d2 : decide (255 < lm) = false := by rw [decide_eq_false_iff_not]; omega
      have nb := (hM.out.blk.alloc (.cells #[.int .i64 lm, .bool ex] 29)).cell 1 rfl
      clear hcc hc0 hx
      cases ex with
      | false =>
        clear hgk
        go_wp2
        refine wp_region_noPanic ?_
        go_region_law (refine step_append_any (by rfl) (.tmp 39) (.tmp 45) 62 (by rfl) 67 i0 (.agg #[.int .i64 0, .bool false, .int .i64 0, .int .i64 0]) 4 32 Try.underlying62 hi hz0 hz1 hz2 (by rfl) (by decide) av k cv (((rs.take k).map mkT).flatMap encT) (by simp [Act.eval, Act.put]) (row_heap (row_alloc (row_alloc hM.out.row (.cells #[.int .i64 lm, .bool false] 29)) (.cells #[.int .i64 lm, .bool false, .int .i64 3, .int .i64 0] 67)) (fun _ _ => rfl)) (some ⟨wr.heap.size + 1, 0, none⟩) 1 1 (encT (mkT (lm, false))) (by simp [Act.eval, Act.put]) (shows_new _ _ _ (by simp) (by rfl)) (by intro u hu; simp only [encT, mkT, List.mem_cons, List.not_mem_nil, or_false] at hu; rcases hu with rfl | rfl | rfl | rfl <;> rfl) (by unfold maxLen; omega) (by omega) ?_; intro ao3 c3 w3 r1 r2 r3; have hn1 := blk_after r2 ((hM.out.blk.alloc (.cells #[.int .i64 lm, .bool false] 29)).alloc (.cells #[.int .i64 lm, .bool false, .int .i64 3, .int .i64 0] 67)) rfl (fun e => by have := hM.out.own _ e; omega); have k2 := hn1.frozen 1; have k3 := hn1.cell 1 rfl)
        all_goals
          refine NoPanic.normal ?_
          have hst := Lib.hid (fun (wf : World) (hf : Kept (fun _ => False) (w3.setCell ⟨b, 1, none⟩ (.slice ao3 (k + 1) c3)) wf) => hM.out.step HX.out (by exact (((Kept.refl (fun _ => False) wr).alloc (.cells #[.int .i64 lm, .bool false] 29)).alloc (.cells #[.int .i64 lm, .bool false, .int .i64 3, .int .i64 0] 67)).same rfl rfl rfl rfl) r1 r2 r3 hf)
          clear r1 r2 r3 hn1
          go_wp2
          go_roundw
          case rel => exact ⟨k + 1, ao3, c3, by omega, by go_num, hst.out _ (by exact (Kept.refl (fun _ => False) _).same rfl rfl rfl rfl)⟩
          case measure => simp [intOf]; omega
      | true =>
        have d3 : decide (1 < lm) = false := by rw [decide_eq_false_iff_not]; rcases hgk.2 with h | h; cases h; omega
        clear hgk
        go_wp2
        refine wp_region_noPanic ?_
        go_region_law (refine step_append_any (by rfl) (.tmp 39) (.tmp 45) 62 (by rfl) 67 i0 (.agg #[.int .i64 0, .bool false, .int .i64 0, .int .i64 0]) 4 32 Try.underlying62 hi hz0 hz1 hz2 (by rfl) (by decide) av k cv (((rs.take k).map mkT).flatMap encT) (by simp [Act.eval, Act.put]) (row_heap (row_alloc (row_alloc hM.out.row (.cells #[.int .i64 lm, .bool true] 29)) (.cells #[.int .i64 lm, .bool true, .int .i64 3, .int .i64 0] 67)) (fun _ _ => rfl)) (some ⟨wr.heap.size + 1, 0, none⟩) 1 1 (encT (mkT (lm, true))) (by simp [Act.eval, Act.put]) (shows_new _ _ _ (by simp) (by rfl)) (by intro u hu; simp only [encT, mkT, List.mem_cons, List.not_mem_nil, or_false] at hu; rcases hu with rfl | rfl | rfl | rfl <;> rfl) (by unfold maxLen; omega) (by omega) ?_; intro ao3 c3 w3 r1 r2 r3; have hn1 := blk_after r2 ((hM.out.blk.alloc (.cells #[.int .i64 lm, .bool true] 29)).alloc (.cells #[.int .i64 lm, .bool true, .int .i64 3, .int .i64 0] 67)) rfl (fun e => by have := hM.out.own _ e; omega); have k2 := hn1.frozen 1; have k3 := hn1.cell 1 rfl)
        all_goals
          refine NoPanic.normal ?_
          have hst := Lib.hid (fun (wf : World) (hf : Kept (fun _ => False) (w3.setCell ⟨b, 1, none⟩ (.slice ao3 (k + 1) c3)) wf) => hM.out.step HX.out (by exact (((Kept.refl (fun _ => False) wr).alloc (.cells #[.int .i64 lm, .bool true] 29)).alloc (.cells #[.int .i64 lm, .bool true, .int .i64 3, .int .i64 0] 67)).same rfl rfl rfl rfl) r1 r2 r3 hf)
          clear r1 r2 r3 hn1
          go_wp2
          go_roundw
          case rel => exact ⟨k + 1, ao3, c3, by omega, by go_num, hst.out _ (by exact (Kept.refl (fun _ => False) _).same rfl rfl rfl rfl)⟩
          case measure => simp [intOf]; omega
    · have hkk : k = p := by omega
      subst hkk
      obtain ⟨lm, ex⟩ := rb
      have hgk := hb
      obtain ⟨sb, so, rfl, hsb, hcc⟩ := HC.out (by rintro rfl; have := HP.out; simp at this)
      have hc0 : ∀ (j : Nat) (u : Value), (encKB .i64 (lm, ex))[j]? = some u → wr.cell? ⟨sb, so + k * 2 + j, none⟩ = some u := fun j u hu => by
        rw [hM.out.kept.cell (p := ⟨sb, so + k * 2 + j, none⟩) hsb (fun h => h)]
        exact hcc k _ HP.out j u hu
      have q0 : wr.cell? ⟨sb, so + k * 2, none⟩ = some (.int .i64 lm) := hc0 0 _ rfl
      have q1 : wr.cell? ⟨sb, so + k * 2 + 1, none⟩ = some (.bool ex) := hc0 1 _ rfl
      have hk0 : (0 : Int) ≤ (k : Int) := by omega
      have hk1 : (k : Int) < (rs.length : Int) := by omega
      have KZ := Lib.hid (hM.out.kept.alloc (.cells #[.int .i64 lm, .bool ex] 29))
      clear hcc hc0 hM
      by_cases t1 : lm < 1
      · have d1 : decide (lm < 1) = true := by simpa using t1
        clear hgk hb
        go_wp2
        go_ret2
        exact ⟨rfl, KZ.out⟩
      · have d1 : decide (lm < 1) = false := by simpa using t1
        by_cases t2 : 255 < lm
        · have d2 : decide (255 < lm) = true := by simpa using t2
          clear hgk hb
          go_wp2
          go_ret2
          exact ⟨rfl, KZ.out⟩
        · have d2 : decide (255 < lm) = false := by simpa using t2
          have hex : ex = true ∧ 1 < lm := by
            unfold goodR at hgk
            rw [decide_eq_true (show 1 ≤ lm by omega), decide_eq_true (show lm ≤ 255 by omega)] at hgk
            cases ex <;> simp at hgk ⊢
            exact hgk
          obtain ⟨rfl, h1⟩ := hex
          have d3 : decide (1 < lm) = true := by simpa using h1
          clear hgk hb
          go_wp2
          go_ret2
          exact ⟨rfl, KZ.out⟩
end Go.Proofs.Ytallbbjmfcohfaa.TK
