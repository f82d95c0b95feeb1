/- The document's table of tasks: the calls that write. -/
import Derived.Test.YtallbbjmfcohfaaTskR
namespace Go.Proofs.Ytallbbjmfcohfaa.TR
open Go.RowKit Go.Fr Go.Proofs.Ytallbbjmfcohfaa.TK

section
variable {w : World} {b : Nat} {vr vs vn : Value} {m : Bool} {run : Int} {l : List Tk}

set_option maxRecDepth 100000 in
set_option maxHeartbeats 2000000 in
theorem act_all (i : Int) (hs : IsRef w b vr vs vn m l) (ho : Ok run l) : Calls Try.prog 38 #[.pointer (some ⟨b, 0, none⟩), .int .i64 i] w fun e w' =>
    e = .returned (.tuple #[.bool (actP l i).1, .int .i64 (actP l i).2.1]) ∧ IsRef w' b vr vs vn m (actP l i).2.2 ∧ Kept (foot b vr vs vn) w w' := by
  have hh := has_ok i hs
  cases ha : at? l i with
  | none =>
    have e : actP l i = (false, 3, l) := by unfold actP; rw [ha]
    rw [e]
    rw [hasT_none ha] at hh
    go_enter Try.func38, Try.ntmps38
    go_wp2_with (go_at_call 43; refine hh.mono ?_; rintro e w' ⟨rfl, rfl⟩)
    go_ret2
    exact ⟨rfl, hs, Kept.refl _ _⟩
  | some x =>
    obtain ⟨k, rfl, hx⟩ := at_some ha
    obtain ⟨lm, ex, st, ac⟩ := x
    rw [hasT_of hx] at hh
    have hk := (List.getElem?_eq_some_iff.1 hx).1
    have c1 := hs.blk.cell 1 rfl
    have c2 := hs.blk.cell 2 rfl
    have c3 := hs.blk.cell 3 rfl
    obtain ⟨g1, g2, g3, g4, g5, g6, g7, g8⟩ := ho.el _ _ _ _ _ hx
    clear g6 g7 g8 g1 g2
    have hk0 : (0 : Int) ≤ (k : Int) := by omega
    have hk1 : (k : Int) < (l.length : Int) := by omega
    by_cases hlm : lm ≤ ac
    · have e : actP l k = (false, 4, l) := by unfold actP; rw [ha]; dsimp only; rw [if_pos hlm]
      rw [e]
      have d1 : decide (lm ≤ ac) = true := by simpa using hlm
      obtain ⟨gr, cr, gs, cs, gn, cn, rfl, rfl, rfl, z0, z1, z2, z3, z4, z5, z6, z7, z8⟩ := hs.spot hx
      go_enter Try.func38, Try.ntmps38
      go_wp2_with (go_at_call 43; refine hh.mono ?_; rintro e w' ⟨rfl, rfl⟩)
      go_quiet (fail)
      go_wp2
      go_ret2
      exact ⟨rfl, hs.drewN _, (Kept.refl _ _).drewN _⟩
    · have e : actP l k = (decide (st = 3), 0, l.set k (lm, ex, (if st = 3 then 2 else st), ac + 1)) := by unfold actP; rw [ha]; dsimp only; rw [if_neg hlm]; rfl
      rw [e]
      have d1 : decide (lm ≤ ac) = false := by simpa using hlm
      obtain ⟨gr, cr, gs, cs, gn, cn, rfl, rfl, rfl, z0, z1, z2, z3, z4, z5, z6, z7, z8⟩ := hs.spot hx
      have q1 := fun n => (hs.drewN n).setN (ac + 1) rfl hx
      have k1 := fun n => ((Kept.refl (foot b (.slice (some ⟨gr, 0, none⟩) l.length cr) (.slice (some ⟨gs, 0, none⟩) l.length cs) (.slice (some ⟨gn, 0, none⟩) l.length cn)) w).drewN n).setCell (p := ⟨gn, k, none⟩) (Or.inl (Or.inr (Or.inr (Or.inr rfl)))) (.int .i64 (ac + 1))
      by_cases hst : st = 3
      · have d2 : (st == 3) = true := by simpa using hst
        rw [if_pos hst, decide_eq_true hst]
        have q2 := fun n => (q1 n).sAgain 2 hk
        have k2 := fun n => (k1 n).setCell (p := ⟨gs, k, none⟩) (Or.inl (Or.inr (Or.inr (Or.inl rfl)))) (.int .i64 2)
        have Q2 := Lib.hid q2
        have K2 := Lib.hid k2
        clear q1 q2 k1 k2 hst
        go_enter Try.func38, Try.ntmps38
        go_wp2_with (go_at_call 43; refine hh.mono ?_; rintro e w' ⟨rfl, rfl⟩)
        go_quiet (fail)
        go_wp2
        go_ret2
        exact ⟨rfl, Q2.out _, K2.out _⟩
      · have d2 : (st == 3) = false := by simpa using hst
        rw [if_neg hst, decide_eq_false hst]
        have Q1 := Lib.hid q1
        have K1 := Lib.hid k1
        clear q1 k1 hst
        go_enter Try.func38, Try.ntmps38
        go_wp2_with (go_at_call 43; refine hh.mono ?_; rintro e w' ⟨rfl, rfl⟩)
        go_quiet (fail)
        go_wp2
        go_ret2
        exact ⟨rfl, Q1.out _, K1.out _⟩

set_option maxRecDepth 100000 in
set_option maxHeartbeats 2000000 in
theorem start_all (i : Int) (hs : IsRef w b vr vs vn true l) (ho : Ok run l) : Calls Try.prog 39 #[.pointer (some ⟨b, 0, none⟩), .int .i64 i, .int .i64 2, .int .i64 0] w fun e w' =>
    (∃ x, e = .returned (.tuple #[.int .i64 x, .int .i64 (startP run l i).1])) ∧ IsRef w' b vr vs vn true (startP run l i).2.2 ∧ Kept (foot b vr vs vn) w w' := by
  have hh := has_ok i hs
  have hr := running_ok hs ho
  have c0 := hs.blk.cell 0 rfl
  have c2 := hs.blk.cell 2 rfl
  cases ha : at? l i with
  | none =>
    have e : startP run l i = (2, run, l) := by unfold startP; rw [ha]
    rw [e]
    rw [hasT_none ha] at hh
    go_enter Try.func39, Try.ntmps39
    go_wp2_with (go_at_call 43; refine hh.mono ?_; rintro e w' ⟨rfl, rfl⟩)
    go_ret2
    exact ⟨⟨_, rfl⟩, hs, Kept.refl _ _⟩
  | some x =>
    obtain ⟨k, rfl, hx⟩ := at_some ha
    obtain ⟨lm, ex, st, ac⟩ := x
    rw [hasT_of hx] at hh
    have hk := (List.getElem?_eq_some_iff.1 hx).1
    have hk0 : (0 : Int) ≤ (k : Int) := by omega
    have hk1 : (k : Int) < (l.length : Int) := by omega
    by_cases hru : 0 ≤ run
    · have e : startP run l k = (181, run, l) := by unfold startP; rw [ha]; dsimp only; rw [if_pos hru]
      rw [e]
      have d1 : decide (0 ≤ run) = true := by simpa using hru
      go_enter Try.func39, Try.ntmps39
      go_wp2_with (first | (go_at_call 43; refine hh.mono ?_; rintro e w' ⟨rfl, rfl⟩) | (go_at_call 34; refine hr.mono ?_; rintro e w' ⟨rfl, rfl⟩))
      go_ret2
      exact ⟨⟨_, rfl⟩, hs, Kept.refl _ _⟩
    · have d1 : decide (0 ≤ run) = false := by simpa using hru
      obtain ⟨gr, cr, gs, cs, gn, cn, rfl, rfl, rfl, z0, z1, z2, z3, z4, z5, z6, z7, z8⟩ := hs.spot hx
      by_cases hst : st = 2
      · have e : startP run l k = (0, (k : Int), l.set k (lm, ex, 0, ac)) := by unfold startP; rw [ha]; dsimp only; rw [if_neg hru, if_pos hst]; rfl
        rw [e]
        subst hst
        have Q1 := Lib.hid (hs.setS 0 rfl hx)
        have K1 := Lib.hid ((Kept.refl (foot b (.slice (some ⟨gr, 0, none⟩) l.length cr) (.slice (some ⟨gs, 0, none⟩) l.length cs) (.slice (some ⟨gn, 0, none⟩) l.length cn)) w).setCell (p := ⟨gs, k, none⟩) (Or.inl (Or.inr (Or.inr (Or.inl rfl)))) (.int .i64 0))
        go_enter Try.func39, Try.ntmps39
        go_wp2_with (first | (go_at_call 43; refine hh.mono ?_; rintro e w' ⟨rfl, rfl⟩) | (go_at_call 34; refine hr.mono ?_; rintro e w' ⟨rfl, rfl⟩))
        go_ret2
        exact ⟨⟨_, rfl⟩, Q1.out, K1.out⟩
      · have e : startP run l k = (180, run, l) := by unfold startP; rw [ha]; dsimp only; rw [if_neg hru, if_neg hst]
        rw [e]
        have d2 : (st != 2) = true := by simpa using hst
        have d3 : (st == 2) = false := by simpa using hst
        go_enter Try.func39, Try.ntmps39
        go_wp2_with (first | (go_at_call 43; refine hh.mono ?_; rintro e w' ⟨rfl, rfl⟩) | (go_at_call 34; refine hr.mono ?_; rintro e w' ⟨rfl, rfl⟩))
        go_ret2
        exact ⟨⟨_, rfl⟩, hs, Kept.refl _ _⟩

set_option maxRecDepth 100000 in
set_option maxHeartbeats 2000000 in
theorem release_all (i : Int) (hs : IsRef w b vr vs vn true l) : Calls Try.prog 39 #[.pointer (some ⟨b, 0, none⟩), .int .i64 i, .int .i64 1, .int .i64 2] w fun e w' =>
    (∃ x, e = .returned (.tuple #[.int .i64 x, .int .i64 (relP l i).1])) ∧ IsRef w' b vr vs vn true (relP l i).2 ∧ Kept (foot b vr vs vn) w w' := by
  have hh := has_ok i hs
  have c0 := hs.blk.cell 0 rfl
  have c2 := hs.blk.cell 2 rfl
  cases ha : at? l i with
  | none =>
    have e : relP l i = (2, l) := by unfold relP; rw [ha]
    rw [e]
    rw [hasT_none ha] at hh
    go_enter Try.func39, Try.ntmps39
    go_wp2_with (go_at_call 43; refine hh.mono ?_; rintro e w' ⟨rfl, rfl⟩)
    go_ret2
    exact ⟨⟨_, rfl⟩, hs, Kept.refl _ _⟩
  | some x =>
    obtain ⟨k, rfl, hx⟩ := at_some ha
    obtain ⟨lm, ex, st, ac⟩ := x
    rw [hasT_of hx] at hh
    have hk := (List.getElem?_eq_some_iff.1 hx).1
    have hk0 : (0 : Int) ≤ (k : Int) := by omega
    have hk1 : (k : Int) < (l.length : Int) := by omega
    obtain ⟨gr, cr, gs, cs, gn, cn, rfl, rfl, rfl, z0, z1, z2, z3, z4, z5, z6, z7, z8⟩ := hs.spot hx
    by_cases hst : st = 1
    · have e : relP l k = (0, l.set k (lm, ex, 2, ac)) := by unfold relP; rw [ha]; dsimp only; rw [if_pos hst]; rfl
      rw [e]
      subst hst
      have Q1 := Lib.hid (hs.setS 2 rfl hx)
      have K1 := Lib.hid ((Kept.refl (foot b (.slice (some ⟨gr, 0, none⟩) l.length cr) (.slice (some ⟨gs, 0, none⟩) l.length cs) (.slice (some ⟨gn, 0, none⟩) l.length cn)) w).setCell (p := ⟨gs, k, none⟩) (Or.inl (Or.inr (Or.inr (Or.inl rfl)))) (.int .i64 2))
      go_enter Try.func39, Try.ntmps39
      go_wp2_with (go_at_call 43; refine hh.mono ?_; rintro e w' ⟨rfl, rfl⟩)
      go_ret2
      exact ⟨⟨_, rfl⟩, Q1.out, K1.out⟩
    · have e : relP l k = (180, l) := by unfold relP; rw [ha]; dsimp only; rw [if_neg hst]
      rw [e]
      have d2 : (st != 1) = true := by simpa using hst
      have d3 : (st == 1) = false := by simpa using hst
      go_enter Try.func39, Try.ntmps39
      go_wp2_with (go_at_call 43; refine hh.mono ?_; rintro e w' ⟨rfl, rfl⟩)
      go_ret2
      exact ⟨⟨_, rfl⟩, hs, Kept.refl _ _⟩

set_option maxRecDepth 100000 in
set_option maxHeartbeats 2000000 in
theorem preempt_all (hs : IsRef w b vr vs vn true l) (ho : Ok run l) : Calls Try.prog 39 #[.pointer (some ⟨b, 0, none⟩), .int .i64 (-1), .int .i64 0, .int .i64 2] w fun e w' =>
    e = .returned (.tuple #[.int .i64 (preP run l).1, .int .i64 (preP run l).2.1]) ∧ IsRef w' b vr vs vn true (preP run l).2.2.2 ∧ Kept (foot b vr vs vn) w w' := by
  have hr := running_ok hs ho
  have c0 := hs.blk.cell 0 rfl
  have c2 := hs.blk.cell 2 rfl
  unfold preP
  rcases ho.at with ⟨rfl, e⟩ | ⟨k, lm, ex, ac, rfl, hx, e, h1, h2, h3⟩
  · rw [e]
    go_enter Try.func39, Try.ntmps39
    go_wp2_with (go_at_call 34; refine hr.mono ?_; rintro e w' ⟨rfl, rfl⟩)
    go_ret2
    exact ⟨rfl, hs, Kept.refl _ _⟩
  · rw [e]
    have hk := (List.getElem?_eq_some_iff.1 hx).1
    have hk0 : (0 : Int) ≤ (k : Int) := by omega
    have hk1 : (k : Int) < (l.length : Int) := by omega
    have d1 : decide ((k : Int) < 0) = false := by simp
    obtain ⟨gr, cr, gs, cs, gn, cn, rfl, rfl, rfl, z0, z1, z2, z3, z4, z5, z6, z7, z8⟩ := hs.spot hx
    have Q1 := Lib.hid (hs.setS 2 rfl hx)
    have K1 := Lib.hid ((Kept.refl (foot b (.slice (some ⟨gr, 0, none⟩) l.length cr) (.slice (some ⟨gs, 0, none⟩) l.length cs) (.slice (some ⟨gn, 0, none⟩) l.length cn)) w).setCell (p := ⟨gs, k, none⟩) (Or.inl (Or.inr (Or.inr (Or.inl rfl)))) (.int .i64 2))
    go_enter Try.func39, Try.ntmps39
    go_wp2_with (go_at_call 34; refine hr.mono ?_; rintro e w' ⟨rfl, rfl⟩)
    go_ret2
    exact ⟨rfl, Q1.out, K1.out⟩

set_option maxRecDepth 100000 in
set_option maxHeartbeats 2000000 in
theorem wait_all (hs : IsRef w b vr vs vn true l) (ho : Ok run l) : Calls Try.prog 39 #[.pointer (some ⟨b, 0, none⟩), .int .i64 (-1), .int .i64 0, .int .i64 1] w fun e w' =>
    e = .returned (.tuple #[.int .i64 (waitP run l).1, .int .i64 (waitP run l).2.1]) ∧ IsRef w' b vr vs vn true (waitP run l).2.2.2 ∧ Kept (foot b vr vs vn) w w' := by
  have hr := running_ok hs ho
  have c0 := hs.blk.cell 0 rfl
  have c1 := hs.blk.cell 1 rfl
  have c2 := hs.blk.cell 2 rfl
  unfold waitP
  rcases ho.at with ⟨rfl, e⟩ | ⟨k, lm, ex, ac, rfl, hx, e, h1, h2, h3⟩
  · rw [e]
    go_enter Try.func39, Try.ntmps39
    go_wp2_with (go_at_call 34; refine hr.mono ?_; rintro e w' ⟨rfl, rfl⟩)
    go_ret2
    exact ⟨rfl, hs, Kept.refl _ _⟩
  · rw [e]
    have hk := (List.getElem?_eq_some_iff.1 hx).1
    have hk0 : (0 : Int) ≤ (k : Int) := by omega
    have hk1 : (k : Int) < (l.length : Int) := by omega
    have d1 : decide ((k : Int) < 0) = false := by simp
    obtain ⟨gr, cr, gs, cs, gn, cn, rfl, rfl, rfl, z0, z1, z2, z3, z4, z5, z6, z7, z8⟩ := hs.spot hx
    cases ex with
    | false =>
      go_enter Try.func39, Try.ntmps39
      go_wp2_with (go_at_call 34; refine hr.mono ?_; rintro e w' ⟨rfl, rfl⟩)
      go_ret2
      exact ⟨rfl, hs, Kept.refl _ _⟩
    | true =>
      have Q1 := Lib.hid (hs.setS 1 rfl hx)
      have K1 := Lib.hid ((Kept.refl (foot b (.slice (some ⟨gr, 0, none⟩) l.length cr) (.slice (some ⟨gs, 0, none⟩) l.length cs) (.slice (some ⟨gn, 0, none⟩) l.length cn)) w).setCell (p := ⟨gs, k, none⟩) (Or.inl (Or.inr (Or.inr (Or.inl rfl)))) (.int .i64 1))
      go_enter Try.func39, Try.ntmps39
      go_wp2_with (go_at_call 34; refine hr.mono ?_; rintro e w' ⟨rfl, rfl⟩)
      go_ret2
      exact ⟨rfl, Q1.out, K1.out⟩

set_option maxRecDepth 100000 in
set_option maxHeartbeats 2000000 in
theorem end_all (hs : IsRef w b vr vs vn true l) (ho : Ok run l) : Calls Try.prog 40 #[.pointer (some ⟨b, 0, none⟩)] w fun e w' =>
    e = .returned (.tuple #[.int .i64 (endP run l).1, .int .i64 (endP run l).2.1, .int .i64 (endP run l).2.2.1]) ∧ IsRef w' b vr vs vn true (endP run l).2.2.2.2 ∧ Kept (foot b vr vs vn) w w' := by
  have hp := preempt_all hs ho
  unfold preP at hp
  unfold endP
  rcases ho.at with ⟨rfl, e⟩ | ⟨k, lm, ex, ac, rfl, hx, e, h1, h2, h3⟩
  · rw [e] at hp ⊢
    clear ho
    go_enter Try.func40, Try.ntmps40
    go_wp2_with fail
    refine hp.mono ?_
    rintro e w1 ⟨rfl, q1, k1⟩
    go_wp2
    go_ret3
    exact ⟨rfl, q1, k1⟩
  · rw [e] at hp ⊢
    clear ho
    have hk := (List.getElem?_eq_some_iff.1 hx).1
    have hk0 : (0 : Int) ≤ (k : Int) := by omega
    have hk1 : (k : Int) < (l.length : Int) := by omega
    have hkk : (k : Int).toNat = k := rfl
    dsimp only at hp ⊢
    rw [hkk] at hp ⊢
    have hxs : (l.set k (lm, ex, 2, ac))[k]? = some (lm, ex, 2, ac) := by rw [List.getElem?_set_self hk]
    by_cases hac : ac = 1
    · subst hac
      rw [if_pos rfl]
      go_enter Try.func40, Try.ntmps40
      go_wp2_with fail
      refine hp.mono ?_
      rintro e w1 ⟨rfl, q1, k1⟩
      have c2 := q1.blk.cell 2 rfl
      have c3 := q1.blk.cell 3 rfl
      have hl : (l.set k (lm, ex, 2, 1)).length = l.length := List.length_set
      obtain ⟨gr, cr, gs, cs, gn, cn, rfl, rfl, rfl, z0, z1, z2, z3, z4, z5, z6, z7, z8⟩ := q1.spot hxs
      rw [hl] at q1 k1 c2 c3
      have q2 := q1.nAgain (0) hk
      have k2 := k1.setCell (p := ⟨gn, k, none⟩) (Or.inl (Or.inr (Or.inr (Or.inr rfl)))) (.int .i64 (0))
      have q3 := fun n => (q2.sAgain 3 hk).drewN n
      have k3 := fun n => (k2.setCell (p := ⟨gs, k, none⟩) (Or.inl (Or.inr (Or.inr (Or.inl rfl)))) (.int .i64 3)).drewN n
      have Q := Lib.hid q3
      have K := Lib.hid k3
      have HL := Lib.hid hl
      have H2 := Lib.hid h2
      clear q1 k1 q2 k2 q3 k3 hp hl h2 h3 hs hxs
      go_wp2
      go_quiet (fail)
      go_wp2
      go_ret3
      rw [HL.out]
      exact ⟨rfl, Q.out _, K.out _⟩
    · have hd : (ac - 1 == 0) = false := by rw [beq_eq_false_iff_ne]; omega
      rw [if_neg hac]
      go_enter Try.func40, Try.ntmps40
      go_wp2_with fail
      refine hp.mono ?_
      rintro e w1 ⟨rfl, q1, k1⟩
      have c2 := q1.blk.cell 2 rfl
      have c3 := q1.blk.cell 3 rfl
      have hl : (l.set k (lm, ex, 2, ac)).length = l.length := List.length_set
      obtain ⟨gr, cr, gs, cs, gn, cn, rfl, rfl, rfl, z0, z1, z2, z3, z4, z5, z6, z7, z8⟩ := q1.spot hxs
      rw [hl] at q1 k1 c2 c3
      have q2 := q1.nAgain (ac - 1) hk
      have k2 := k1.setCell (p := ⟨gn, k, none⟩) (Or.inl (Or.inr (Or.inr (Or.inr rfl)))) (.int .i64 (ac - 1))
      have q3 := fun n => q2.drewN n
      have k3 := fun n => k2.drewN n
      have Q := Lib.hid q3
      have K := Lib.hid k3
      have HL := Lib.hid hl
      clear q1 k1 q2 k2 q3 k3 hp hl hs hxs
      go_wp2
      go_quiet (fail)
      go_wp2
      go_ret3
      rw [HL.out]
      exact ⟨rfl, Q.out _, K.out _⟩

set_option maxRecDepth 100000 in
set_option maxHeartbeats 4000000 in
theorem those_ok (s : Int) (hs : IsRef w b vr vs vn m l) : Calls Try.prog 37 #[.pointer (some ⟨b, 0, none⟩), .int .i64 s] w fun e w' =>
    ∃ ao c, e = .returned (.slice ao (those l s l.length).length c) ∧ Th w w' l s l.length (.slice ao (those l s l.length).length c) := by
  obtain ⟨i0, hi, hz0, hz1, hz2⟩ := info_parts info_i
  have hl := hs.n256
  have c1 := hs.blk.cell 2 rfl
  obtain ⟨ao, c, rfl, hc⟩ := row_any hs.rs
  have T0 : Hid (Th w w l s 0 (.slice none 0 0)) := ⟨World.ownsRow_nil _ _ _ _, by simp [Value.ownBlock], Kept.refl _ _⟩
  have HS := Lib.hid hs
  clear hs
  go_enter Try.func37, Try.ntmps37
  go_wp2
  clear c1
  go_loopw [5, 6] (fun r i wr => ∃ (k : Nat) (ao' : Option Addr) (c' : Nat), k ≤ l.length ∧ i = .int .i64 k ∧ r = .slice ao' (those l s k).length c' ∧ Hid (Th w wr l s k (.slice ao' (those l s k).length c'))) (fun _ i _ => l.length - (intOf i).toNat)
  case atStart => exact ⟨0, none, 0, Nat.zero_le _, rfl, rfl, T0⟩
  case round =>
    obtain ⟨k, ao', c', hk, rfl, rfl, hT⟩ := hrel
    clear T0
    have hsr := HS.out.kept hT.out.kept (fun _ _ h => h)
    have c2 := hsr.blk.cell 2 rfl
    by_cases hkl : k < l.length
    · obtain ⟨⟨lm, ex, st, ac⟩, hx⟩ : ∃ a, l[k]? = some a := ⟨_, List.getElem?_eq_getElem hkl⟩
      have hk0 : (0 : Int) ≤ (k : Int) := Int.natCast_nonneg _
      have hk1 : (k : Int) < (l.length : Int) := by omega
      obtain ⟨gr, cr, gs, cs, gn, cn, rfl, hv, rfl, z0, z1, z2, z3, z4, z5, z6, z7, z8⟩ := hsr.spot hx
      cases hv
      clear hsr
      have hle := those_len l s k
      by_cases hst : (st == s) = true
      · have hh := those_hit hx hst
        go_wp2_with ((at_builtin; refine wpList_append_any rfl (.tmp 25) (.tmp 27) 46 rfl 3 i0 (.int .i64 0) 1 8 Try.underlying46 hi hz0 hz1 hz2 rfl (by decide) _ _ _ ((those l s k).map (Value.int .i64)) rfl ?hrow _ 1 1 [.int .i64 k] rfl ?hnew (by simp [Value.oneCell']) ?b1 ?b2 ?_))
        case hrow => exact row_alloc hT.out.row _
        case hnew => exact shows_new _ [_] _ (by simp) rfl
        case b1 => unfold maxLen; omega
        case b2 => omega
        intro ao3 c3 wc r1 r2 r3
        have kc : Kept (fun _ => False) w wc := by
          have k1 : Kept (fun i => w.heap.size ≤ i) w wc := (((hT.out.kept.mono (fun _ _ h => False.elim h)).alloc _)).grown r2 (fun i e => Or.inl (hT.out.own i e))
          exact k1.mono (fun i hi h => by omega)
        have ho3 : ∀ i, (Value.slice ao3 ((those l s k).length + 1) c3).ownBlock = some i → w.heap.size ≤ i := fun i e => (r3 i e).elim (fun h => hT.out.own i h) (fun h => by have := hT.out.kept.size; have := World.size_alloc wr; omega)
        have hN : Hid (Th w wc l s (k + 1) (.slice ao3 (those l s (k + 1)).length c3)) := by
          refine ⟨?_, ?_, kc⟩
          · rw [hh, List.length_append, List.map_append]; exact r1
          · rw [hh, List.length_append]; exact ho3
        have hlen : (those l s (k + 1)).length = (those l s k).length + 1 := by rw [hh, List.length_append]; rfl
        clear r1 r2 r3 kc ho3 hT hh
        go_wp2
        go_roundw
        case rel => exact ⟨k + 1, ao3, c3, by omega, by go_num, by rw [hlen], hN⟩
        case measure => simp [intOf]; omega
      · have hst' : (st == s) = false := by simpa using hst
        have hN : Hid (Th w wr l s (k + 1) (.slice ao' (those l s (k + 1)).length c')) := by
          have hm := those_miss hx hst'
          exact ⟨by rw [hm]; exact hT.out.row, by rw [hm]; exact hT.out.own, hT.out.kept⟩
        clear hst
        go_wp2
        go_roundw
        case rel => exact ⟨k + 1, ao', c', by omega, by go_num, by rw [those_miss hx hst'], hN⟩
        case measure => simp [intOf]; omega
    · obtain rfl : k = l.length := by omega
      clear hsr
      go_wp2
      go_ret
      exact ⟨ao', c', rfl, hT.out⟩
end
end Go.Proofs.Ytallbbjmfcohfaa.TR
