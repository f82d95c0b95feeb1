/- The document's tables: Rings. -/
import Derived.Test.YtemhfonneggneaaTbC
import Derived.Deep.Light
import Derived.StillTailTactics
/- Package table: tick, action. -/
namespace Go.Proofs.Ytemhfonneggneaa.TC
open Go.RowKit Go.Fr Go.Tb
attribute [local go_sem] Oper.semAt_some
theorem tick_ok (n : Int) (w : World) : Calls Try.prog 82 #[.int .u32 n] w fun e w' => BoolIs e (1 ≤ n ∧ n ≤ 2147483647) ∧ w = w' := by
  go_enter Try.func82, Try.ntmps82
  go_wp2_with fail
  all_goals
    go_ret
    refine ⟨bool_is _ ?_, rfl⟩
    simp only [decide_eq_true_eq, Bool.false_eq_true, false_iff]
    omega

theorem tick_dec (n : Int) (w : World) : Calls Try.prog 82 #[.int .u32 n] w fun e w' => e = .returned (.bool (decide (1 ≤ n ∧ n ≤ 2147483647))) ∧ w = w' := by
  refine (tick_ok n w).mono ?_
  rintro e w' ⟨⟨b, rfl, hb⟩, rfl⟩
  refine ⟨?_, rfl⟩
  rw [show b = decide (1 ≤ n ∧ n ≤ 2147483647) by rw [Bool.eq_iff_iff, hb, decide_eq_true_eq]]

/-- an action of a kind from lo to hi may be -/
def ActP (T : Tb) (kind task mask lo hi : Int) : Prop := lo ≤ kind ∧ kind ≤ hi ∧
  ((kind ≠ 1 ∧ kind ≠ 2 ∧ task = 0 ∧ mask = 0) ∨ ((kind = 1 ∨ kind = 2) ∧ 0 ≤ task ∧ task < T.tasks.length ∧ ((kind = 1 ∧ mask = 0) ∨ (kind = 2 ∧ mask ≠ 0 ∧ ∃ x, T.tasks[task.toNat]? = some x ∧ bits .andNot .u32 mask x.mask = 0))))

set_option maxRecDepth 100000 in
set_option maxHeartbeats 4000000 in
theorem action_ok {w : World} {T : Tb} (kind task mask lo hi : Int) (hT : TabIn w T) (hW : T.Wf) :
    Calls Try.prog 83 #[.agg T.cells.toArray, .agg #[.int .i64 kind, .int .i64 task, .int .u32 mask], .int .i64 lo, .int .i64 hi] w fun e w' => BoolIs e (ActP T kind task mask lo hi) ∧ Kept (fun _ => False) w w' := by
  have k0 : Kept (fun _ => False) w ((box w T).alloc (.cells #[.int .i64 kind, .int .i64 task, .int .u32 mask] 81)) := ((Kept.refl _ w).alloc _).alloc _
  have nb : Blk ((box w T).alloc (.cells #[.int .i64 kind, .int .i64 task, .int .u32 mask] 81)) w.heap.size T.cells 37 := (Blk.new w T.cells 37).alloc _
  have na := Blk.new (box w T) [.int .i64 kind, .int .i64 task, .int .u32 mask] 81
  have hz : (box w T).heap.size = w.heap.size + 1 := World.size_alloc _ _
  rw [hz] at na
  have c2 := nb.cell 2 rfl
  have y0 := na.cell 0 rfl
  have y1 := na.cell 1 rfl
  have y2 := na.cell 2 rfl
  have hle := hW.lens.1
  have HT1 := Lib.hid (camel_same hT.tasks k0)
  have K0 := Lib.hid k0
  clear hT hW nb na k0 hz
  have ht : (∃ n : Nat, task = (n : Int) ∧ n < T.tasks.length) ∨ ¬ (0 ≤ task ∧ task < (T.tasks.length : Int)) := by
    by_cases h : 0 ≤ task ∧ task < (T.tasks.length : Int)
    · exact Or.inl ⟨task.toNat, by omega, by omega⟩
    · exact Or.inr h
  obtain ⟨w1, hw1⟩ : ∃ w1, box w T = w1 := ⟨_, rfl⟩
  obtain ⟨B, hB⟩ : ∃ B, w.heap.size = B := ⟨_, rfl⟩
  rw [hw1] at K0 HT1 c2 y0 y1 y2
  rw [hB] at c2 y0 y1 y2
  have hs : T.cells.toArray.size = 13 := rfl
  have hn0 : (T.cells.toArray = #[]) = False := by simp [Tb.cells]
  unfold box at hw1
  generalize T.cells.toArray = Z at hw1 hs hn0 ⊢
  have hz1 : w1.heap.size = B + 1 := by rw [← hw1, World.size_alloc, hB]
  go_enter Try.func83, Try.ntmps83
  go_upto_region 1 with fail
  obtain ⟨w2, hw2⟩ : ∃ w2, w1.alloc (.cells #[.int .i64 kind, .int .i64 task, .int .u32 mask] 81) = w2 := ⟨_, rfl⟩
  rw [hw2] at K0 HT1 c2 y0 y1 y2 ⊢
  clear hs hn0 hw1 hB hw2 hz1
  rcases ht with ⟨n, rfl, hn⟩ | hout
  · obtain ⟨x, hx, _⟩ := at_of hn
    obtain ⟨b2, off2, hta, hb2, hcl2⟩ := camel_at HT1.out hx
    have f4 := hcl2 4 _ rfl
    rw [hta] at c2
    have HX := Lib.hid hx
    have n0 : (0 : Int) ≤ (n : Int) := by omega
    have n1 : (n : Int) < (T.tasks.length : Int) := by omega
    clear hcl2 hx hta
    have ex : ∀ m, (∃ y, T.tasks[((n : Nat) : Int).toNat]? = some y ∧ bits .andNot .u32 m y.mask = 0) ↔ bits .andNot .u32 m x.mask = 0 := by
      intro m
      rw [show ((n : Nat) : Int).toNat = n from Int.toNat_natCast n, HX.out]
      exact ⟨fun ⟨y, h, h2⟩ => by cases h; exact h2, fun h => ⟨x, rfl, h⟩⟩
    have EX := Lib.hid ex
    clear ex
    by_cases hm : mask = 0
    · subst hm
      go_wp2_with fail
      all_goals first
        | (go_ret
           refine ⟨bool_is _ ?_, K0.out⟩
           unfold ActP
           rw [EX.out]
           go_light
           grind)
        | (go_quiet (fail)
           go_wp2_with fail
           go_ret
           refine ⟨bool_is _ ?_, K0.out.drewN _⟩
           unfold ActP
           rw [EX.out]
           go_light
           grind)
    · have m0 : (mask != 0) = true := by simpa using hm
      have m1 : (mask == 0) = false := by simpa using hm
      go_wp2_with fail
      all_goals first
        | (go_ret
           refine ⟨bool_is _ ?_, K0.out⟩
           unfold ActP
           rw [EX.out]
           go_light
           grind)
        | (go_quiet (fail)
           go_wp2_with fail
           go_ret
           refine ⟨bool_is _ ?_, K0.out.drewN _⟩
           unfold ActP
           rw [EX.out]
           go_light
           grind)
  · go_wp2_with fail
    all_goals
      go_ret
      refine ⟨bool_is _ ?_, K0.out⟩
      unfold ActP
      go_light
      grind
end Go.Proofs.Ytemhfonneggneaa.TC
/- The document's tables: actionRow. -/
namespace Go.Proofs.Ytemhfonneggneaa.TR
open Go.RowKit Go.Fr Go.Tb Go.Proofs.Ytemhfonneggneaa.TC
attribute [local go_sem] Oper.semAt_some

set_option maxRecDepth 100000 in
set_option maxHeartbeats 4000000 in
theorem action_ok {w : World} {T : Tb} (kind task mask lo hi : Int) (hT : TabIn w T) (hW : T.Wf) :
    Calls Try.prog 89 #[.agg T.cells.toArray, .agg #[.int .i64 kind, .int .i64 task, .int .u32 mask], .int .i64 lo, .int .i64 hi] w fun e w' => BoolIs e (ActP T kind task mask lo hi) ∧ Kept (fun _ => False) w w' := by
  have k0 : Kept (fun _ => False) w ((box w T).alloc (.cells #[.int .i64 kind, .int .i64 task, .int .u32 mask] 81)) := ((Kept.refl _ w).alloc _).alloc _
  have nb : Blk ((box w T).alloc (.cells #[.int .i64 kind, .int .i64 task, .int .u32 mask] 81)) w.heap.size T.cells 37 := (Blk.new w T.cells 37).alloc _
  have na := Blk.new (box w T) [.int .i64 kind, .int .i64 task, .int .u32 mask] 81
  have hz : (box w T).heap.size = w.heap.size + 1 := World.size_alloc _ _
  rw [hz] at na
  have c2 := nb.cell 2 rfl
  have y0 := na.cell 0 rfl
  have y1 := na.cell 1 rfl
  have y2 := na.cell 2 rfl
  have hle := hW.lens.1
  have HT1 := Lib.hid (camel_same hT.tasks k0)
  have K0 := Lib.hid k0
  clear hT hW nb na k0 hz
  have ht : (∃ n : Nat, task = (n : Int) ∧ n < T.tasks.length) ∨ ¬ (0 ≤ task ∧ task < (T.tasks.length : Int)) := by
    by_cases h : 0 ≤ task ∧ task < (T.tasks.length : Int)
    · exact Or.inl ⟨task.toNat, by omega, by omega⟩
    · exact Or.inr h
  obtain ⟨w1, hw1⟩ : ∃ w1, box w T = w1 := ⟨_, rfl⟩
  obtain ⟨B, hB⟩ : ∃ B, w.heap.size = B := ⟨_, rfl⟩
  rw [hw1] at K0 HT1 c2 y0 y1 y2
  rw [hB] at c2 y0 y1 y2
  have hs : T.cells.toArray.size = 13 := rfl
  have hn0 : (T.cells.toArray = #[]) = False := by simp [Tb.cells]
  unfold box at hw1
  generalize T.cells.toArray = Z at hw1 hs hn0 ⊢
  have hz1 : w1.heap.size = B + 1 := by rw [← hw1, World.size_alloc, hB]
  go_enter Try.func89, Try.ntmps89
  go_upto_region 1 with fail
  obtain ⟨w2, hw2⟩ : ∃ w2, w1.alloc (.cells #[.int .i64 kind, .int .i64 task, .int .u32 mask] 81) = w2 := ⟨_, rfl⟩
  rw [hw2] at K0 HT1 c2 y0 y1 y2 ⊢
  clear hs hn0 hw1 hB hw2 hz1
  rcases ht with ⟨n, rfl, hn⟩ | hout
  · obtain ⟨x, hx, _⟩ := at_of hn
    obtain ⟨b2, off2, hta, hb2, hcl2⟩ := camel_at HT1.out hx
    have f4 := hcl2 4 _ rfl
    rw [hta] at c2
    have HX := Lib.hid hx
    have n0 : (0 : Int) ≤ (n : Int) := by omega
    have n1 : (n : Int) < (T.tasks.length : Int) := by omega
    clear hcl2 hx hta
    have ex : ∀ m, (∃ y, T.tasks[((n : Nat) : Int).toNat]? = some y ∧ bits .andNot .u32 m y.mask = 0) ↔ bits .andNot .u32 m x.mask = 0 := by
      intro m
      rw [show ((n : Nat) : Int).toNat = n from Int.toNat_natCast n, HX.out]
      exact ⟨fun ⟨y, h, h2⟩ => by cases h; exact h2, fun h => ⟨x, rfl, h⟩⟩
    have EX := Lib.hid ex
    clear ex
    by_cases hm : mask = 0
    · subst hm
      go_wp2_with fail
      all_goals first
        | (go_ret
           refine ⟨bool_is _ ?_, K0.out⟩
           unfold ActP
           rw [EX.out]
           go_light
           grind)
        | (go_quiet (fail)
           go_wp2_with fail
           go_ret
           refine ⟨bool_is _ ?_, K0.out.drewN _⟩
           unfold ActP
           rw [EX.out]
           go_light
           grind)
    · have m0 : (mask != 0) = true := by simpa using hm
      have m1 : (mask == 0) = false := by simpa using hm
      go_wp2_with fail
      all_goals first
        | (go_ret
           refine ⟨bool_is _ ?_, K0.out⟩
           unfold ActP
           rw [EX.out]
           go_light
           grind)
        | (go_quiet (fail)
           go_wp2_with fail
           go_ret
           refine ⟨bool_is _ ?_, K0.out.drewN _⟩
           unfold ActP
           rw [EX.out]
           go_light
           grind)
  · go_wp2_with fail
    all_goals
      go_ret
      refine ⟨bool_is _ ?_, K0.out⟩
      unfold ActP
      go_light
      grind
end Go.Proofs.Ytemhfonneggneaa.TR
/- The document's tables: owned, actionRow. -/
namespace Go.Proofs.Ytemhfonneggneaa.TR
open Go.RowKit Go.Fr Go.Tb Go.Proofs.Ytemhfonneggneaa.TC
attribute [local go_sem] Oper.semAt_some

theorem cell_al {w : World} {p : Addr} {v : Value} (o : Obj) (h : w.cell? p = some v) : (w.alloc o).cell? p = some v :=
  (((Kept.refl (fun _ => False) w).alloc o).cell (World.block_lt_of_cell? w _ h) (fun x => x)).trans h

set_option maxRecDepth 100000 in
set_option maxHeartbeats 4000000 in
theorem owned_ok {w : World} {T : Tb} {ao : Option Addr} {c : Nat} {l : List Int} (pr : Int) (hT : TabIn w T) (hW : T.Wf) (hl : CameL w 1 (encK .i64) ao l) (hn : l.length ≤ 140737488355328) (hi : ∀ r ∈ l, I64 r) :
    Calls Try.prog 88 #[.agg T.cells.toArray, .slice ao l.length c, .int .i64 pr] w fun e w' => BoolIs e (OwnP T pr l) ∧ Kept (fun _ => False) w w' := by
  have k0 : Kept (fun _ => False) w (box w T) := (Kept.refl _ w).alloc _
  have nb : Blk (box w T) w.heap.size T.cells 37 := Blk.new _ _ _
  have hle := hW.lens.2.2.1
  have HT1 := Lib.hid (camel_same hT.ress k0)
  have HL1 := Lib.hid (camel_same hl k0)
  have HI := Lib.hid hi
  have K0 := Lib.hid k0
  have NB := Lib.hid nb
  clear hT hW hl hi nb
  obtain ⟨w1, hw1⟩ : ∃ w1, box w T = w1 := ⟨_, rfl⟩
  obtain ⟨B, hB⟩ : ∃ B, w.heap.size = B := ⟨_, rfl⟩
  rw [hw1] at K0 HT1 HL1 NB
  rw [hB] at NB
  have hs : T.cells.toArray.size = 13 := rfl
  have hn0 : (T.cells.toArray = #[]) = False := by simp [Tb.cells]
  unfold box at hw1
  generalize T.cells.toArray = Z at hw1 hs hn0 ⊢
  go_enter Try.func88, Try.ntmps88
  go_upto_region 1 with fail
  clear hs hn0 hw1 hB
  go_wp2_with fail
  go_loopw [7] (fun i wr => ∃ k : Nat, k ≤ l.length ∧ i = .int .i64 k ∧ Hid (Kept (fun _ => False) w1 wr) ∧ Hid (∀ i, i < k → OwnAt T pr l i)) (fun i _ => l.length - (intOf i).toNat)
  case atStart => exact ⟨0, Nat.zero_le _, rfl, Kept.refl _ _, fun i h => by omega⟩
  case round =>
    obtain ⟨k, hk, rfl, hK, hP⟩ := hrel
    by_cases hkl : k < l.length
    · obtain ⟨r, hx, hm⟩ := at_of hkl
      have hk0 : (0 : Int) ≤ (k : Int) := by omega
      have hk1 : (k : Int) < (l.length : Int) := by omega
      have HL2 := Lib.hid (camel_same HL1.out hK.out)
      have HT2 := Lib.hid (camel_same HT1.out hK.out)
      have c4 := (NB.out.kept hK.out (fun x => x)).cell 4 rfl
      have KR := Lib.hid (K0.out.then hK.out (fun _ x => x.elim))
      obtain ⟨b, off, rfl, hb, e0⟩ := camel_one HL2.out hx rfl
      have hri := HI.out r hm
      have HX := Lib.hid hx
      clear hm hx
      unfold I64 at hri
      have no : (∀ r' e, l[k]? = some r' → T.ress[r'.toNat]? = some e → ¬ (0 ≤ r' ∧ (k = 0 ∨ ∃ q, l[k - 1]? = some q ∧ q < r') ∧ e.1 = false ∧ pr ≤ e.2)) → ¬ OwnP T pr l := by
        intro h hP
        obtain ⟨r', e, h1, h2, h3, h4, h5, h6⟩ := hP k hkl
        exact h r' e h1 h3 ⟨h2, h4, h5, h6⟩
      have NO := Lib.hid no
      clear no
      by_cases h0 : r < 0
      · have d0 : decide (r < 0) = true := by simpa using h0
        go_wp2_with fail
        go_quiet (fail)
        go_wp2_with fail
        go_ret
        exact ⟨bool_no (NO.out (fun r' e h1 _ h2 => by rw [HX.out] at h1; cases h1; omega)), KR.out.drewN _⟩
      have d0 : decide (r < 0) = false := by simpa using h0
      by_cases h1 : (T.ress.length : Int) ≤ r
      · have d1 : decide ((T.ress.length : Int) ≤ r) = true := by simpa using h1
        go_wp2_with fail
        go_quiet (fail)
        go_wp2_with fail
        go_ret
        exact ⟨bool_no (NO.out (fun r' e h1 h3 h2 => by rw [HX.out] at h1; cases h1; have := (List.getElem?_eq_some_iff.1 h3).1; omega)), KR.out.drewN _⟩
      have d1 : decide ((T.ress.length : Int) ≤ r) = false := by simpa using h1
      obtain ⟨n, rfl⟩ := Int.eq_ofNat_of_zero_le (a := r) (by omega)
      obtain ⟨⟨ei, ec⟩, hxe, _⟩ := at_of (l := T.ress) (k := n) (by omega)
      obtain ⟨b2, off2, hea, hb2, hcl2⟩ := camel_at HT2.out hxe
      have f0 := hcl2 0 _ rfl
      have f1 := hcl2 1 _ rfl
      simp only [Nat.add_zero] at f0
      have HXE := Lib.hid hxe
      clear hcl2 hxe
      have n0 : (0 : Int) ≤ (n : Int) := by omega
      have n1 : (n : Int) < (T.ress.length : Int) := by omega
      rw [hea] at c4
      clear hea
      have fin : ((k = 0 ∨ ∃ q, l[k - 1]? = some q ∧ q < (n : Int)) ∧ ei = false ∧ pr ≤ ec) ↔ OwnAt T pr l k := by
        refine ⟨fun h => ⟨n, (ei, ec), HX.out, by omega, HXE.out, h.1, h.2.1, h.2.2⟩, ?_⟩
        rintro ⟨r', e, h1, h2, h3, h4, h5, h6⟩
        rw [HX.out] at h1; cases h1
        have := HXE.out
        rw [show ((n : Nat) : Int).toNat = n from Int.toNat_natCast n] at h3
        rw [this] at h3; cases h3
        exact ⟨h4, h5, h6⟩
      have d2 : decide (T.ress.length ≤ n) = false := by rw [decide_eq_false_iff_not]; omega
      have FIN := Lib.hid fin
      clear fin
      by_cases hkz : k = 0
      · have z0 : decide ((0 : Int) < (k : Int)) = false := by rw [decide_eq_false_iff_not]; omega
        have z1 : decide (0 < k) = false := by rw [decide_eq_false_iff_not]; omega
        have HKZ := Lib.hid hkz
        clear hkz
        go_wp2_with fail
        go_quiet (fail)
        go_wp2_with fail
        clear d0 d1 d2 z0 z1
        obtain ⟨wq, hwq⟩ : ∃ wq, wr.drewN nq = wq := ⟨_, rfl⟩
        have kq := (Kept.refl (fun _ => False) wr).drewN nq
        rw [hwq] at kq ⊢
        have a0 : wq.cell? ⟨b, off + k, none⟩ = some (.int .i64 n) := (kq.cell (World.block_lt_of_cell? wr _ e0) (fun h => h)).trans e0
        have a1 : wq.cell? ⟨B, 4, none⟩ = some (.slice (some ⟨b2, off2, none⟩) T.ress.length T.ec) := (kq.cell (World.block_lt_of_cell? wr _ c4) (fun h => h)).trans c4
        have a2 : wq.cell? ⟨b2, off2 + n * 2, none⟩ = some (.bool ei) := (kq.cell (World.block_lt_of_cell? wr _ f0) (fun h => h)).trans f0
        have a3 : wq.cell? ⟨b2, off2 + n * 2 + 1, none⟩ = some (.int .i64 ec) := (kq.cell (World.block_lt_of_cell? wr _ f1) (fun h => h)).trans f1
        have KQ := Lib.hid (KR.out.then kq (fun _ x => x.elim))
        have KW := Lib.hid (hK.out.then kq (fun _ x => x.elim))
        clear e0 c4 f0 f1 hwq kq hK KR
        go_cut [8] from 46 to 54 (fun p wx => ∃ g, p = .pointer (some ⟨g, 0, none⟩) ∧ wx.cell? ⟨g, 0, none⟩ = some (.bool ei) ∧ wx.cell? ⟨g, 1, none⟩ = some (.int .i64 ec) ∧ Hid (Kept (fun _ => False) wq wx))
        case first =>
          have b0 : ∀ o : Obj, (wq.alloc o).cell? ⟨b, off + k, none⟩ = some (.int .i64 n) := fun o => cell_al o a0
          have b1 : ∀ o : Obj, (wq.alloc o).cell? ⟨B, 4, none⟩ = some (.slice (some ⟨b2, off2, none⟩) T.ress.length T.ec) := fun o => cell_al o a1
          have b2' : ∀ o : Obj, (wq.alloc o).cell? ⟨b2, off2 + n * 2, none⟩ = some (.bool ei) := fun o => cell_al o a2
          have b3 : ∀ o : Obj, (wq.alloc o).cell? ⟨b2, off2 + n * 2 + 1, none⟩ = some (.int .i64 ec) := fun o => cell_al o a3
          refine wp_region_noPanic ?_
          go_region_law fail
          all_goals
            refine NoPanic.normal ?_
            go_wp2_with fail
            go_meet
            have nb := Blk.new wq [.bool ei, .int .i64 ec] 132
            exact ⟨_, rfl, nb.cell 0 rfl, nb.cell 1 rfl, by exact (((Kept.refl (fun _ => False) wq).alloc _).same rfl rfl rfl rfl)⟩
        case rest =>
          obtain ⟨g, rfl, y0, y1, hKw⟩ := hcut
          clear a0 a1 a2 a3
          have KE := Lib.hid (KQ.out.then hKw.out (fun _ x => x.elim))
          have KF := Lib.hid (KW.out.then hKw.out (fun _ x => x.elim))
          clear KQ KW hKw
          cases ei with
          | true =>
            go_wp2_with fail
            go_ret
            exact ⟨bool_no (fun h => by have := (FIN.out.2 (h k hkl)).2.1; cases this), KE.out⟩
          | false =>
            by_cases h6 : ec < pr
            · have d6 : decide (ec < pr) = true := by simpa using h6
              go_wp2_with fail
              go_ret
              exact ⟨bool_no (fun h => by have := (FIN.out.2 (h k hkl)).2.2; omega), KE.out⟩
            · have d6 : decide (ec < pr) = false := by simpa using h6
              have hP2 : Hid (∀ i, i < k + 1 → OwnAt T pr l i) := fun i hi => by
                rcases Nat.lt_or_ge i k with h | h
                · exact hP.out i h
                · obtain rfl : i = k := by omega
                  exact FIN.out.1 ⟨Or.inl HKZ.out, rfl, by omega⟩
              clear hP FIN
              go_wp2_with fail
              go_roundw
              case rel => exact ⟨k + 1, by omega, by go_num, KF.out, hP2⟩
              case measure => simp [intOf]; omega
      · obtain ⟨q, hxq, hmq⟩ := at_of (l := l) (k := k - 1) (by omega)
        have hqi := HI.out q hmq
        obtain ⟨b', off', hab, hb', e1⟩ := camel_one HL2.out hxq rfl
        cases hab
        obtain ⟨k', rfl⟩ : ∃ k', k = k' + 1 := ⟨k - 1, by omega⟩
        simp only [Nat.add_sub_cancel] at e1 hxq
        have HXQ := Lib.hid hxq
        have hwr : IntKind.i64.wrap (((k' + 1 : Nat) : Int) - 1) = (k' : Int) := by rw [IntWalk.i64_in _ (by omega)]; omega
        have hk2 : (0 : Int) ≤ (k' : Int) := by omega
        have hk3 : (k' : Int) < (l.length : Int) := by omega
        unfold I64 at hqi
        have hkp : (0 : Int) < (k' : Int) + 1 := by omega
        have hkq : (k' : Int) + 1 < (l.length : Int) := by omega
        have hkr : (0 : Int) ≤ (k' : Int) + 1 := by omega
        have hkn : decide (0 < k' + 1) = true := by rw [decide_eq_true_eq]; omega
        clear hxq hmq hkz
        by_cases h5 : (n : Int) ≤ q
        · have d5 : decide ((n : Int) ≤ q) = true := by simpa using h5
          have d7 : decide (T.ress.length ≤ n) = false := d2
          go_wp2_with fail
          go_quiet (fail)
          go_wp2_with fail
          go_ret
          refine ⟨bool_no (fun h => ?_), KR.out.drewN _⟩
          have := (FIN.out.2 (h _ hkl)).1
          rcases this with h | ⟨q', h1, h2⟩
          · omega
          · simp only [Nat.add_sub_cancel] at h1
            rw [HXQ.out] at h1
            cases h1
            omega
        · have d5 : decide ((n : Int) ≤ q) = false := by simpa using h5
          have d7 : decide (T.ress.length ≤ n) = false := d2
          go_wp2_with fail
          go_quiet (fail)
          go_wp2_with fail
          clear d0 d1 d2 d5 d7 e1 hwr hk2 hk3 hkp hkn
          obtain ⟨wq, hwq⟩ : ∃ wq, wr.drewN nq = wq := ⟨_, rfl⟩
          have kq := (Kept.refl (fun _ => False) wr).drewN nq
          rw [hwq] at kq ⊢
          have a0 : wq.cell? ⟨b, off + (k' + 1), none⟩ = some (.int .i64 n) := (kq.cell (World.block_lt_of_cell? wr _ e0) (fun h => h)).trans e0
          have a1 : wq.cell? ⟨B, 4, none⟩ = some (.slice (some ⟨b2, off2, none⟩) T.ress.length T.ec) := (kq.cell (World.block_lt_of_cell? wr _ c4) (fun h => h)).trans c4
          have a2 : wq.cell? ⟨b2, off2 + n * 2, none⟩ = some (.bool ei) := (kq.cell (World.block_lt_of_cell? wr _ f0) (fun h => h)).trans f0
          have a3 : wq.cell? ⟨b2, off2 + n * 2 + 1, none⟩ = some (.int .i64 ec) := (kq.cell (World.block_lt_of_cell? wr _ f1) (fun h => h)).trans f1
          have KQ := Lib.hid (KR.out.then kq (fun _ x => x.elim))
          have KW := Lib.hid (hK.out.then kq (fun _ x => x.elim))
          clear e0 c4 f0 f1 hwq kq hK KR
          go_cut [8] from 46 to 54 (fun p wx => ∃ g, p = .pointer (some ⟨g, 0, none⟩) ∧ wx.cell? ⟨g, 0, none⟩ = some (.bool ei) ∧ wx.cell? ⟨g, 1, none⟩ = some (.int .i64 ec) ∧ Hid (Kept (fun _ => False) wq wx))
          case first =>
            have b0 : ∀ o : Obj, (wq.alloc o).cell? ⟨b, off + (k' + 1), none⟩ = some (.int .i64 n) := fun o => cell_al o a0
            have b1 : ∀ o : Obj, (wq.alloc o).cell? ⟨B, 4, none⟩ = some (.slice (some ⟨b2, off2, none⟩) T.ress.length T.ec) := fun o => cell_al o a1
            have b2' : ∀ o : Obj, (wq.alloc o).cell? ⟨b2, off2 + n * 2, none⟩ = some (.bool ei) := fun o => cell_al o a2
            have b3 : ∀ o : Obj, (wq.alloc o).cell? ⟨b2, off2 + n * 2 + 1, none⟩ = some (.int .i64 ec) := fun o => cell_al o a3
            refine wp_region_noPanic ?_
            go_region_law fail
            all_goals
              refine NoPanic.normal ?_
              go_wp2_with fail
              go_meet
              have nb := Blk.new wq [.bool ei, .int .i64 ec] 132
              exact ⟨_, rfl, nb.cell 0 rfl, nb.cell 1 rfl, by exact (((Kept.refl (fun _ => False) wq).alloc _).same rfl rfl rfl rfl)⟩
          case rest =>
            obtain ⟨g, rfl, y0, y1, hKw⟩ := hcut
            clear a0 a1 a2 a3
            have KE := Lib.hid (KQ.out.then hKw.out (fun _ x => x.elim))
            have KF := Lib.hid (KW.out.then hKw.out (fun _ x => x.elim))
            clear KQ KW hKw
            cases ei with
            | true =>
              go_wp2_with fail
              go_ret
              exact ⟨bool_no (fun h => by have := (FIN.out.2 (h _ hkl)).2.1; cases this), KE.out⟩
            | false =>
              by_cases h6 : ec < pr
              · have d6 : decide (ec < pr) = true := by simpa using h6
                go_wp2_with fail
                go_ret
                exact ⟨bool_no (fun h => by have := (FIN.out.2 (h _ hkl)).2.2; omega), KE.out⟩
              · have d6 : decide (ec < pr) = false := by simpa using h6
                have hP2 : Hid (∀ i, i < k' + 1 + 1 → OwnAt T pr l i) := fun i hi => by
                  rcases Nat.lt_or_ge i (k' + 1) with h | h
                  · exact hP.out i h
                  · obtain rfl : i = k' + 1 := by omega
                    exact FIN.out.1 ⟨Or.inr ⟨q, HXQ.out, by omega⟩, rfl, by omega⟩
                clear hP FIN
                go_wp2_with fail
                go_roundw
                case rel => exact ⟨k' + 1 + 1, by omega, by push_cast; rfl, KF.out, hP2⟩
                case measure => simp [intOf]; omega
    · obtain rfl : k = l.length := by omega
      go_wp2_with fail
      go_ret
      exact ⟨bool_yes hP.out, K0.out.then hK.out (fun _ x => x.elim)⟩
end Go.Proofs.Ytemhfonneggneaa.TR
/- Package table: rings; slices.Equal over rings' rows. -/
namespace Go.Proofs.Ytemhfonneggneaa.TC
open Go.RowKit Go.Fr Go.Tb
attribute [local go_sem] Oper.semAt_some

abbrev encG : Int × Int → List Value := encKK .i64 .i64
theorem infoG : (Try.prog.info? 99).map (fun i => (i.zero, i.size, i.bytes)) = some (some (.agg #[.int .i64 0, .int .i64 0]), 2, 16) := by kernel_rfl

/-- the sum of the limits of a priority's tasks -/
def sumAt (l : List TaskR) (p : Int) : Int := (l.map (fun x => if x.pr = p then x.limit else 0)).sum
/-- the rings of the priorities below q, falling -/
def ringsB (l : List TaskR) : Nat → List (Int × Int)
  | 0 => []
  | q + 1 => (if 0 < sumAt l q then [((q : Int), sumAt l q)] else []) ++ ringsB l q
theorem sumAt_take {l : List TaskR} {k : Nat} {x : TaskR} (p : Int) (hx : l[k]? = some x) : sumAt (l.take (k + 1)) p = sumAt (l.take k) p + (if x.pr = p then x.limit else 0) := by
  rw [List.take_add_one, hx]
  simp [sumAt]
theorem sumAt_le {l : List TaskR} (p : Int) (h : ∀ x ∈ l, 0 ≤ x.limit ∧ x.limit ≤ 255) : 0 ≤ sumAt l p ∧ sumAt l p ≤ 255 * l.length := by
  induction l with
  | nil => simp [sumAt]
  | cons a l ih =>
    have h1 := h a (by simp)
    have h2 := ih (fun x hx => h x (by simp [hx]))
    have h3 : sumAt (a :: l) p = (if a.pr = p then a.limit else 0) + sumAt l p := by simp [sumAt]
    rw [h3]
    simp only [List.length_cons]
    split <;> omega
theorem ringsB_len (l : List TaskR) : ∀ q, (ringsB l q).length ≤ q
  | 0 => by simp [ringsB]
  | q + 1 => by
    have := ringsB_len l q
    rw [ringsB, List.length_append]
    split <;> simp <;> omega

structure Rb (w wr : World) (ao : Option Addr) (c : Nat) (O : List (Int × Int)) : Prop where
  row : Row wr 99 2 (.slice ao O.length c) O.length (O.flatMap encG)
  own : ∀ g, (Value.slice ao O.length c).ownBlock = some g → w.heap.size ≤ g
  kept : Kept (fun _ => False) w wr
theorem Rb.same {w wr wf : World} {ao : Option Addr} {c : Nat} {O : List (Int × Int)} (h : Rb w wr ao c O) (k : Kept (fun _ => False) wr wf) : Rb w wf ao c O :=
  ⟨row_kept h.row k (fun _ _ x => x), h.own, h.kept.then k (fun _ x => x.elim)⟩

set_option maxRecDepth 100000 in
set_option maxHeartbeats 4000000 in
theorem rings_ok {w : World} {ao : Option Addr} (c : Nat) {l : List TaskR} (hl : CameL w 8 encT ao l) (hn : l.length ≤ 256) (hlim : ∀ x ∈ l, 0 ≤ x.limit ∧ x.limit ≤ 255) :
    Calls Try.prog 81 #[.slice ao l.length c] w fun e w' => ∃ ao' c', e = .returned (.slice ao' (ringsB l 64).length c') ∧ Rb w w' ao' c' (ringsB l 64) := by
  obtain ⟨i0, hi, hz0, hz1, hz2⟩ := info_parts infoG
  have B0 : Hid (Rb w w none 0 []) := ⟨World.ownsRow_nil _ _ _ _, by simp [Value.ownBlock], Kept.refl _ _⟩
  have HL := Lib.hid hl
  have HM := Lib.hid hlim
  obtain ⟨F, hF⟩ : ∃ F, ringsB l 64 = F := ⟨_, rfl⟩
  have hO0 : Hid (([] : List (Int × Int)) ++ ringsB l 64 = F) := hF
  rw [hF]
  clear hl hlim hF
  go_enter Try.func81, Try.ntmps81
  go_wp2_with fail
  go_loopw [3, 4] (fun o p wr => ∃ (q : Nat) (O : List (Int × Int)) (ao : Option Addr) (c : Nat), q ≤ 64 ∧ p = .int .i64 ((q : Int) - 1) ∧ o = .slice ao O.length c ∧ Hid (Rb w wr ao c O) ∧ Hid (O ++ ringsB l q = F) ∧ O.length + q ≤ 64) (fun _ p _ => (intOf p + 1).toNat)
  case atStart => exact ⟨64, [], none, 0, Nat.le_refl _, rfl, rfl, B0, hO0, by simp⟩
  case round =>
    clear B0
    obtain ⟨q, O, ao2, c2, hq, rfl, rfl, hB, hO, hOl⟩ := hrel
    cases q with
    | zero =>
      go_wp2_with fail
      go_ret
      have h := hO.out
      rw [ringsB, List.append_nil] at h
      subst h
      exact ⟨_, _, rfl, hB.out⟩
    | succ q =>
      obtain ⟨v, hv⟩ : ∃ v, ((q + 1 : Nat) : Int) - 1 = v := ⟨_, rfl⟩
      rw [hv]
      obtain rfl : v = (q : Int) := by omega
      have hq0 : (0 : Int) ≤ (q : Int) := by omega
      have hq1 : (q : Int) < 64 := by omega
      clear hv
      go_wp2_with fail
      have S0 : Hid ((0 : Int) = sumAt (l.take 0) q) := by simp [sumAt, Hid]
      go_loopw [5, 14] (fun n i wx => ∃ (k : Nat) (s : Int), k ≤ l.length ∧ i = .int .i64 k ∧ n = .int .i64 s ∧ Hid (s = sumAt (l.take k) q) ∧ Hid (Rb w wx ao2 c2 O)) (fun _ i _ => l.length - (intOf i).toNat)
      case atStart => exact ⟨0, 0, Nat.zero_le _, rfl, rfl, S0, hB⟩
      case round =>
        clear hB S0
        obtain ⟨k, s, hk, rfl, rfl, hS, hB⟩ := hrel
        have hsb := sumAt_le (l := l.take k) (q : Int) (fun x hx => HM.out x (List.mem_of_mem_take hx))
        have hsl : (l.take k).length ≤ 256 := by rw [List.length_take]; omega
        rw [← hS.out] at hsb
        by_cases hkl : k < l.length
        · obtain ⟨x, hx, hm⟩ := at_of hkl
          obtain ⟨xpr, xring, xfull, xlim, xmask, xinl, xoa, xoc, xown, xauto⟩ := x
          have hk0 : (0 : Int) ≤ (k : Int) := by omega
          have hk1 : (k : Int) < (l.length : Int) := by omega
          obtain ⟨b, off, rfl, hb, hcl⟩ := camel_at (camel_same HL.out hB.out.kept) hx
          have hlm := HM.out _ hm
          have e0 := hcl 0 _ rfl
          have e1 := hcl 1 _ rfl
          have e2 := hcl 2 _ rfl
          have e3 := hcl 3 _ rfl
          have e4 := hcl 4 _ rfl
          have e5 := hcl 5 _ rfl
          have e6 := hcl 6 _ rfl
          have e7 := hcl 7 _ rfl
          have hst := sumAt_take (q : Int) hx
          rw [← hS.out] at hst
          have HST := Lib.hid hst
          simp only [Nat.add_zero] at e0
          dsimp only at e0 e1 e2 e3 e4 e5 e6 e7 hlm
          have HB2 := Lib.hid (hB.out.same ((Kept.refl _ wr).alloc (.cells #[.int .i64 xpr, .int .i64 xring, .bool xfull, .int .i64 xlim, .int .u32 xmask, .int .i64 xinl, .slice xoa xown.length xoc, .int .u32 xauto] 97)))
          have hw : IntKind.i64.wrap (s + xlim) = s + xlim := IntWalk.i64_in _ (by omega)
          clear hcl hm hx hst hB
          by_cases hp : xpr = (q : Int)
          · subst hp
            go_wp2_with fail
            go_roundw
            case rel => exact ⟨k + 1, s + xlim, by omega, by go_num, rfl, by unfold Hid; rw [HST.out, if_pos rfl], HB2⟩
            case measure => simp [intOf]; omega
          · have d0 : (xpr == (q : Int)) = false := by simpa using hp
            have HP := Lib.hid hp
            clear hp
            go_wp2_with fail
            go_roundw
            case rel => exact ⟨k + 1, s, by omega, by go_num, rfl, by unfold Hid; rw [HST.out, if_neg HP.out]; simp, HB2⟩
            case measure => simp [intOf]; omega
        · obtain rfl : k = l.length := by omega
          have hS2 := hS.out
          rw [List.take_length] at hS2
          have HS2 := Lib.hid hS2
          clear hS2 hS
          by_cases h0 : 0 < s
          · have d0 : decide (0 < s) = true := by simpa using h0
            have hOO : O ++ [((q : Int), s)] ++ ringsB l q = F := by
              rw [← hO.out, ringsB, ← HS2.out, if_pos h0, List.append_assoc]
            have HO := Lib.hid hOO
            clear hOO
            go_wp2_with (at_builtin; refine wpList_append_any rfl (.tmp 29) (.tmp 33) 30 rfl 99 i0 (.agg #[.int .i64 0, .int .i64 0]) 2 16 Try.underlying30 hi hz0 hz1 hz2 rfl (by decide) _ _ _ (O.flatMap encG) rfl (row_alloc hB.out.row _) _ 1 1 [.int .i64 (q : Int), .int .i64 s] rfl (shows_new _ [_, _] _ (by simp) rfl) (by simp [Value.oneCell']) (by unfold maxLen; omega) (by omega) ?_; intro ao5 c5 w5 r1 r2 r3)
            have hl1 : (O ++ [((q : Int), s)]).length = O.length + 1 := by simp
            have hfm : (O ++ [((q : Int), s)]).flatMap encG = O.flatMap encG ++ [.int .i64 (q : Int), .int .i64 s] := by rw [List.flatMap_append]; rfl
            have kc : Kept (fun i => (Value.slice ao2 O.length c2).ownBlock = some i) wr w5 := ((Kept.refl _ wr).alloc _).grown r2 (fun i e => Or.inl e)
            have HB5 : Hid (Rb w w5 ao5 c5 (O ++ [((q : Int), s)])) := by
              refine ⟨by rw [hl1, hfm]; exact r1, ?_, hB.out.kept.then kc (fun i hi => Or.inr (hB.out.own i hi))⟩
              rw [hl1]
              intro g hg
              rcases r3 g hg with h | h
              · exact hB.out.own g h
              · rw [World.size_alloc] at h; have := hB.out.kept.size; omega
            have HL1 := Lib.hid hl1
            clear r1 r2 r3 hl1 hfm kc hB
            go_wp2_with fail
            go_roundw
            case rel => exact ⟨q, O ++ [((q : Int), s)], ao5, c5, by omega, by go_num, by rw [HL1.out], HB5, HO, by rw [HL1.out]; omega⟩
            case measure => simp [intOf]
          · have d0 : decide (0 < s) = false := by simpa using h0
            have hOO : O ++ ringsB l q = F := by
              rw [← hO.out, ringsB, ← HS2.out, if_neg h0, List.nil_append]
            have HO := Lib.hid hOO
            clear hOO
            go_wp2_with fail
            go_roundw
            case rel => exact ⟨q, O, ao2, c2, by omega, by go_num, rfl, hB, HO, by omega⟩
            case measure => simp [intOf]
end Go.Proofs.Ytemhfonneggneaa.TC
namespace Go.Proofs.Ytemhfonneggneaa.TR
open Go.RowKit Go.Fr Go.Tb Go.Proofs.Ytemhfonneggneaa.TC
attribute [local go_sem] Oper.semAt_some

set_option maxRecDepth 100000 in
set_option maxHeartbeats 4000000 in
theorem Rings_ok {w : World} {aq bq : Option Addr} (c d : Nat) {l : List TaskR} (hl : CameL w 1 (encK .i64) aq (l.map (·.pr))) (hl2 : CameL w 1 (encK .i64) bq (l.map (·.limit))) (hn : l.length ≤ 256) (hlim : ∀ x ∈ l, 0 ≤ x.limit ∧ x.limit ≤ 255) :
    Calls Try.prog 87 #[.slice aq l.length c, .slice bq l.length d] w fun e w' => ∃ ao' c', e = .returned (.slice ao' (ringsB l 64).length c') ∧ Rb w w' ao' c' (ringsB l 64) := by
  obtain ⟨i0, hi, hz0, hz1, hz2⟩ := info_parts infoG
  have B0 : Hid (Rb w w none 0 []) := ⟨World.ownsRow_nil _ _ _ _, by simp [Value.ownBlock], Kept.refl _ _⟩
  have HL := Lib.hid hl
  have HL2 := Lib.hid hl2
  have HM := Lib.hid hlim
  obtain ⟨F, hF⟩ : ∃ F, ringsB l 64 = F := ⟨_, rfl⟩
  have hO0 : Hid (([] : List (Int × Int)) ++ ringsB l 64 = F) := hF
  rw [hF]
  clear hl hl2 hlim hF
  go_enter Try.func87, Try.ntmps87
  go_wp2_with fail
  go_loopw [5, 6] (fun o p wr => ∃ (q : Nat) (O : List (Int × Int)) (ao : Option Addr) (c : Nat), q ≤ 64 ∧ p = .int .i64 ((q : Int) - 1) ∧ o = .slice ao O.length c ∧ Hid (Rb w wr ao c O) ∧ Hid (O ++ ringsB l q = F) ∧ O.length + q ≤ 64) (fun _ p _ => (intOf p + 1).toNat)
  case atStart => exact ⟨64, [], none, 0, Nat.le_refl _, rfl, rfl, B0, hO0, by simp⟩
  case round =>
    clear B0
    obtain ⟨q, O, ao2, c2, hq, rfl, rfl, hB, hO, hOl⟩ := hrel
    cases q with
    | zero =>
      go_wp2_with fail
      go_ret
      have h := hO.out
      rw [ringsB, List.append_nil] at h
      subst h
      exact ⟨_, _, rfl, hB.out⟩
    | succ q =>
      obtain ⟨v, hv⟩ : ∃ v, ((q + 1 : Nat) : Int) - 1 = v := ⟨_, rfl⟩
      rw [hv]
      obtain rfl : v = (q : Int) := by omega
      have hq0 : (0 : Int) ≤ (q : Int) := by omega
      have hq1 : (q : Int) < 64 := by omega
      clear hv
      go_wp2_with fail
      have S0 : Hid ((0 : Int) = sumAt (l.take 0) q) := by simp [sumAt, Hid]
      go_loopw [7, 8] (fun n i wx => ∃ (k : Nat) (s : Int), k ≤ l.length ∧ i = .int .i64 k ∧ n = .int .i64 s ∧ Hid (s = sumAt (l.take k) q) ∧ Hid (Rb w wx ao2 c2 O)) (fun _ i _ => l.length - (intOf i).toNat)
      case atStart => exact ⟨0, 0, Nat.zero_le _, rfl, rfl, S0, hB⟩
      case round =>
        clear hB S0
        obtain ⟨k, s, hk, rfl, rfl, hS, hB⟩ := hrel
        have hsb := sumAt_le (l := l.take k) (q : Int) (fun x hx => HM.out x (List.mem_of_mem_take hx))
        have hsl : (l.take k).length ≤ 256 := by rw [List.length_take]; omega
        rw [← hS.out] at hsb
        by_cases hkl : k < l.length
        · obtain ⟨x, hx, hm⟩ := at_of hkl
          obtain ⟨xpr, xring, xfull, xlim, xmask, xinl, xoa, xoc, xown, xauto⟩ := x
          have hk0 : (0 : Int) ≤ (k : Int) := by omega
          have hk1 : (k : Int) < (l.length : Int) := by omega
          obtain ⟨b, off, rfl, hb, e0⟩ := camel_one (camel_same HL.out hB.out.kept) (k := k) (x := xpr) (by rw [List.getElem?_map, hx]; rfl) rfl
          obtain ⟨b', off', rfl, hb', e3⟩ := camel_one (camel_same HL2.out hB.out.kept) (k := k) (x := xlim) (by rw [List.getElem?_map, hx]; rfl) rfl
          have hlm := HM.out _ hm
          have hst := sumAt_take (q : Int) hx
          rw [← hS.out] at hst
          have HST := Lib.hid hst
          dsimp only at hlm
          have HB2 := hB
          have hw : IntKind.i64.wrap (s + xlim) = s + xlim := IntWalk.i64_in _ (by omega)
          clear hm hx hst hB
          by_cases hp : xpr = (q : Int)
          · subst hp
            go_wp2_with fail
            go_roundw
            case rel => exact ⟨k + 1, s + xlim, by omega, by go_num, rfl, by unfold Hid; rw [HST.out, if_pos rfl], HB2⟩
            case measure => simp [intOf]; omega
          · have d0 : (xpr == (q : Int)) = false := by simpa using hp
            have HP := Lib.hid hp
            clear hp
            go_wp2_with fail
            go_roundw
            case rel => exact ⟨k + 1, s, by omega, by go_num, rfl, by unfold Hid; rw [HST.out, if_neg HP.out]; simp, HB2⟩
            case measure => simp [intOf]; omega
        · obtain rfl : k = l.length := by omega
          have hS2 := hS.out
          rw [List.take_length] at hS2
          have HS2 := Lib.hid hS2
          clear hS2 hS
          by_cases h0 : 0 < s
          · have d0 : decide (0 < s) = true := by simpa using h0
            have hOO : O ++ [((q : Int), s)] ++ ringsB l q = F := by
              rw [← hO.out, ringsB, ← HS2.out, if_pos h0, List.append_assoc]
            have HO := Lib.hid hOO
            clear hOO
            go_wp2_with (at_builtin; refine wpList_append_any rfl (.tmp 33) (.tmp 37) 30 rfl 99 i0 (.agg #[.int .i64 0, .int .i64 0]) 2 16 Try.underlying30 hi hz0 hz1 hz2 rfl (by decide) _ _ _ (O.flatMap encG) rfl (row_alloc hB.out.row _) _ 1 1 [.int .i64 (q : Int), .int .i64 s] rfl (shows_new _ [_, _] _ (by simp) rfl) (by simp [Value.oneCell']) (by unfold maxLen; omega) (by omega) ?_; intro ao5 c5 w5 r1 r2 r3)
            have hl1 : (O ++ [((q : Int), s)]).length = O.length + 1 := by simp
            have hfm : (O ++ [((q : Int), s)]).flatMap encG = O.flatMap encG ++ [.int .i64 (q : Int), .int .i64 s] := by rw [List.flatMap_append]; rfl
            have kc : Kept (fun i => (Value.slice ao2 O.length c2).ownBlock = some i) wr w5 := ((Kept.refl _ wr).alloc _).grown r2 (fun i e => Or.inl e)
            have HB5 : Hid (Rb w w5 ao5 c5 (O ++ [((q : Int), s)])) := by
              refine ⟨by rw [hl1, hfm]; exact r1, ?_, hB.out.kept.then kc (fun i hi => Or.inr (hB.out.own i hi))⟩
              rw [hl1]
              intro g hg
              rcases r3 g hg with h | h
              · exact hB.out.own g h
              · rw [World.size_alloc] at h; have := hB.out.kept.size; omega
            have HL1 := Lib.hid hl1
            clear r1 r2 r3 hl1 hfm kc hB
            go_wp2_with fail
            go_roundw
            case rel => exact ⟨q, O ++ [((q : Int), s)], ao5, c5, by omega, by go_num, by rw [HL1.out], HB5, HO, by rw [HL1.out]; omega⟩
            case measure => simp [intOf]
          · have d0 : decide (0 < s) = false := by simpa using h0
            have hOO : O ++ ringsB l q = F := by
              rw [← hO.out, ringsB, ← HS2.out, if_neg h0, List.nil_append]
            have HO := Lib.hid hOO
            clear hOO
            go_wp2_with fail
            go_roundw
            case rel => exact ⟨q, O, ao2, c2, by omega, by go_num, rfl, hB, HO, by omega⟩
            case measure => simp [intOf]
end Go.Proofs.Ytemhfonneggneaa.TR
