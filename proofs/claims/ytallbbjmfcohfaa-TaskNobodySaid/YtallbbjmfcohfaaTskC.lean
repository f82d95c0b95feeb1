/- Package task: the calls. -/
import Derived.Test.YtallbbjmfcohfaaTsk
namespace Go.Proofs.Ytallbbjmfcohfaa.TK
open Go.RowKit Go.Fr
section
variable {w : World} {b : Nat} {v : Value} {run : Int} {l : List Tk}
theorem IsTk.drewN (hs : IsTk w b v run l) (n : Nat) : IsTk (w.drewN n) b v run l := hs.kept ((Kept.refl (fun _ => False) w).drewN n) (fun _ _ h => h)

set_option maxRecDepth 100000 in
theorem act_no (i : Int) (hs : IsTk w b v run l) (h : hasT l i = false) : Calls Try.prog 12 #[.pointer (some ⟨b, 0, none⟩), .int .i64 i] w fun e w' => e = .returned (.tuple #[.bool false, .int .i64 3]) ∧ w = w' := by
  have hh := has_ok i hs
  rw [h] at hh
  go_enter Try.func12, Try.ntmps12
  go_wp2_with (go_at_call 29; refine hh.mono ?_; rintro e w' ⟨rfl, rfl⟩)
  go_ret2
  exact ⟨rfl, rfl⟩
set_option maxRecDepth 100000 in
set_option maxHeartbeats 1000000 in
theorem act_full {k : Nat} {lm st ac : Int} {ex : Bool} (hs : IsTk w b v run l) (hx : l[k]? = some (lm, ex, st, ac)) (h : lm ≤ ac) : Calls Try.prog 12 #[.pointer (some ⟨b, 0, none⟩), .int .i64 k] w fun e w' => e = .returned (.tuple #[.bool false, .int .i64 4]) ∧ ∃ q, w' = w.drewN q := by
  have hh := has_ok k hs
  rw [hasT_of hx] at hh
  have hk := (List.getElem?_eq_some_iff.1 hx).1
  have c1 := hs.blk.cell 1 rfl
  have c2 := hs.blk.cell 2 rfl
  have hk0 : (0 : Int) ≤ (k : Int) := by omega
  have hk1 : (k : Int) < (l.length : Int) := by omega
  obtain ⟨g, c, rfl, hg, e0, e1, e2, e3, f2, f3⟩ := hs.cells hx
  go_enter Try.func12, Try.ntmps12
  go_wp2_with (go_at_call 29; refine hh.mono ?_; rintro e w' ⟨rfl, rfl⟩)
  go_quiet (fail)
  go_wp2
  go_ret2
  exact ⟨rfl, _, rfl⟩
set_option maxRecDepth 100000 in
set_option maxHeartbeats 2000000 in
theorem act_new {k : Nat} {lm st ac : Int} {ex : Bool} (hs : IsTk w b v run l) (hx : l[k]? = some (lm, ex, st, ac)) (h : ac < lm) (h0 : 0 ≤ ac) (h1 : lm ≤ 255) (hst : st = 3) : Calls Try.prog 12 #[.pointer (some ⟨b, 0, none⟩), .int .i64 k] w fun e w' =>
    e = .returned (.tuple #[.bool true, .int .i64 0]) ∧ IsTk w' b v run (l.set k (lm, ex, 2, ac + 1)) ∧ Kept (foot b v) w w' := by
  subst hst
  have hh := has_ok k hs
  rw [hasT_of hx] at hh
  have hk := (List.getElem?_eq_some_iff.1 hx).1
  have c1 := hs.blk.cell 1 rfl
  have c2 := hs.blk.cell 2 rfl
  have hk0 : (0 : Int) ≤ (k : Int) := by omega
  have hk1 : (k : Int) < (l.length : Int) := by omega
  obtain ⟨g, c, rfl, hg, e0, e1, e2, e3, f2, f3⟩ := hs.cells hx
  have q1 := fun n => (hs.drewN n).put (k := k) (i := 3) (lm, ex, 3, ac + 1) rfl hx (by decide) (u := .int .i64 (ac + 1)) rfl
  have kk := fun n => ((Kept.refl (foot b (.slice (some ⟨g, 0, none⟩) l.length c)) w).drewN n).setCell (p := ⟨g, k * 4 + 3, none⟩) (Or.inl (Or.inr rfl)) (.int .i64 (ac + 1))
  have hxs : (l.set k (lm, ex, 3, ac + 1))[k]? = some (lm, ex, 3, ac + 1) := by rw [List.getElem?_set_self hk]
  have Q1 := Lib.hid q1
  have KK := Lib.hid kk
  have HX := Lib.hid hxs
  clear q1 kk hxs
  go_enter Try.func12, Try.ntmps12
  go_wp2_with (go_at_call 29; refine hh.mono ?_; rintro e w' ⟨rfl, rfl⟩)
  go_quiet (fail)
  go_wp2_with fail
  refine (turn_ok 2 may_32 (Q1.out _) HX.out).mono ?_
  rintro e w2 ⟨rfl, t2, k2⟩
  go_wp2
  go_ret2
  refine ⟨rfl, ?_, (KK.out _).then k2 (fun _ h => Or.inl h)⟩
  rw [List.set_set] at t2
  exact t2
set_option maxRecDepth 100000 in
set_option maxHeartbeats 2000000 in
theorem act_more {k : Nat} {lm st ac : Int} {ex : Bool} (hs : IsTk w b v run l) (hx : l[k]? = some (lm, ex, st, ac)) (h : ac < lm) (h0 : 0 ≤ ac) (h1 : lm ≤ 255) (hst : (st == 3) = false) : Calls Try.prog 12 #[.pointer (some ⟨b, 0, none⟩), .int .i64 k] w fun e w' =>
    e = .returned (.tuple #[.bool false, .int .i64 0]) ∧ IsTk w' b v run (l.set k (lm, ex, st, ac + 1)) ∧ Kept (foot b v) w w' := by
  have hh := has_ok k hs
  rw [hasT_of hx] at hh
  have hk := (List.getElem?_eq_some_iff.1 hx).1
  have c1 := hs.blk.cell 1 rfl
  have c2 := hs.blk.cell 2 rfl
  have hk0 : (0 : Int) ≤ (k : Int) := by omega
  have hk1 : (k : Int) < (l.length : Int) := by omega
  obtain ⟨g, c, rfl, hg, e0, e1, e2, e3, f2, f3⟩ := hs.cells hx
  have q1 := fun n => (hs.drewN n).put (k := k) (i := 3) (lm, ex, st, ac + 1) rfl hx (by decide) (u := .int .i64 (ac + 1)) rfl
  have kk := fun n => ((Kept.refl (foot b (.slice (some ⟨g, 0, none⟩) l.length c)) w).drewN n).setCell (p := ⟨g, k * 4 + 3, none⟩) (Or.inl (Or.inr rfl)) (.int .i64 (ac + 1))
  have hxs : (l.set k (lm, ex, st, ac + 1))[k]? = some (lm, ex, st, ac + 1) := by rw [List.getElem?_set_self hk]
  have Q1 := Lib.hid q1
  have KK := Lib.hid kk
  have HX := Lib.hid hxs
  clear q1 kk hxs
  go_enter Try.func12, Try.ntmps12
  go_wp2_with (go_at_call 29; refine hh.mono ?_; rintro e w' ⟨rfl, rfl⟩)
  go_quiet (fail)
  go_wp2
  go_ret2
  exact ⟨rfl, Q1.out _, KK.out _⟩

theorem start_no (i : Int) (hs : IsTk w b v run l) (h : hasT l i = false) : Calls Try.prog 13 #[.pointer (some ⟨b, 0, none⟩), .int .i64 i] w fun e w' => e = .returned (.int .i64 2) ∧ w = w' := by
  have hh := has_ok i hs
  rw [h] at hh
  go_enter Try.func13, Try.ntmps13
  go_wp2_with (first | (go_at_call 29; refine hh.mono ?_; rintro e w' ⟨rfl, rfl⟩) | (go_at_call 31; refine (alive_ok hs).mono ?_; rintro e w' ⟨rfl, rfl⟩))
  go_ret
  exact ⟨rfl, rfl⟩
set_option maxRecDepth 100000 in
theorem start_busy {k : Nat} {lm st ac : Int} {ex : Bool} (hs : IsTk w b v run l) (hx : l[k]? = some (lm, ex, st, ac)) (h : 0 ≤ run) : Calls Try.prog 13 #[.pointer (some ⟨b, 0, none⟩), .int .i64 k] w fun e w' => e = .returned (.int .i64 181) ∧ w = w' := by
  have hh := has_ok k hs
  rw [hasT_of hx] at hh
  have hk := (List.getElem?_eq_some_iff.1 hx).1
  have c1 := hs.blk.cell 1 rfl
  have c2 := hs.blk.cell 2 rfl
  have hk0 : (0 : Int) ≤ (k : Int) := by omega
  have hk1 : (k : Int) < (l.length : Int) := by omega
  obtain ⟨g, c, rfl, hg, e0, e1, e2, e3, f2, f3⟩ := hs.cells hx
  have hbz := busy_ok hs
  rw [decide_eq_true h] at hbz
  go_enter Try.func13, Try.ntmps13
  go_wp2_with (first | (go_at_call 29; refine hh.mono ?_; rintro e w' ⟨rfl, rfl⟩) | (go_at_call 31; refine (alive_ok hs).mono ?_; rintro e w' ⟨rfl, rfl⟩) | (go_at_call 32; refine hbz.mono ?_; rintro e w' ⟨rfl, rfl⟩))
  go_ret
  exact ⟨rfl, rfl⟩
set_option maxRecDepth 100000 in
theorem start_state {k : Nat} {lm st ac : Int} {ex : Bool} (hs : IsTk w b v run l) (hx : l[k]? = some (lm, ex, st, ac)) (h : run < 0) (hst : (st == 2) = false) : Calls Try.prog 13 #[.pointer (some ⟨b, 0, none⟩), .int .i64 k] w fun e w' => e = .returned (.int .i64 180) ∧ w = w' := by
  have hh := has_ok k hs
  rw [hasT_of hx] at hh
  have hk := (List.getElem?_eq_some_iff.1 hx).1
  have c1 := hs.blk.cell 1 rfl
  have c2 := hs.blk.cell 2 rfl
  have hk0 : (0 : Int) ≤ (k : Int) := by omega
  have hk1 : (k : Int) < (l.length : Int) := by omega
  obtain ⟨g, c, rfl, hg, e0, e1, e2, e3, f2, f3⟩ := hs.cells hx
  have hbz := busy_ok hs
  rw [decide_eq_false (show ¬ 0 ≤ run by omega)] at hbz
  go_enter Try.func13, Try.ntmps13
  go_wp2_with (first | (go_at_call 29; refine hh.mono ?_; rintro e w' ⟨rfl, rfl⟩) | (go_at_call 31; refine (alive_ok hs).mono ?_; rintro e w' ⟨rfl, rfl⟩) | (go_at_call 32; refine hbz.mono ?_; rintro e w' ⟨rfl, rfl⟩))
  go_ret
  exact ⟨rfl, rfl⟩
set_option maxRecDepth 100000 in
set_option maxHeartbeats 1000000 in
theorem start_ok {k : Nat} {lm ac : Int} {ex : Bool} (hs : IsTk w b v run l) (hx : l[k]? = some (lm, ex, 2, ac)) (h : run < 0) : Calls Try.prog 13 #[.pointer (some ⟨b, 0, none⟩), .int .i64 k] w fun e w' =>
    e = .returned (.int .i64 0) ∧ IsTk w' b v k (l.set k (lm, ex, 0, ac)) ∧ Kept (foot b v) w w' := by
  have hh := has_ok k hs
  rw [hasT_of hx] at hh
  have hk := (List.getElem?_eq_some_iff.1 hx).1
  have c1 := hs.blk.cell 1 rfl
  have c2 := hs.blk.cell 2 rfl
  have hk0 : (0 : Int) ≤ (k : Int) := by omega
  have hk1 : (k : Int) < (l.length : Int) := by omega
  obtain ⟨g, c, rfl, hg, e0, e1, e2, e3, f2, f3⟩ := hs.cells hx
  have hbz := busy_ok hs
  rw [decide_eq_false (show ¬ 0 ≤ run by omega)] at hbz
  have ht := turn_ok 0 may_20 hs hx
  go_enter Try.func13, Try.ntmps13
  go_wp2_with (first | (go_at_call 29; refine hh.mono ?_; rintro e w' ⟨rfl, rfl⟩) | (go_at_call 31; refine (alive_ok hs).mono ?_; rintro e w' ⟨rfl, rfl⟩) | (go_at_call 32; refine hbz.mono ?_; rintro e w' ⟨rfl, rfl⟩))
  refine ht.mono ?_
  rintro e w1 ⟨rfl, t1, k1⟩
  have q2 := t1.blk.cell 2 rfl
  have z2 := t1.blk.frozen 2
  have hr := t1.setRun k
  have KR := Lib.hid (k1.setCell (p := ⟨b, 2, none⟩) (Or.inl (Or.inl rfl)) (.int .i64 k))
  have HR := Lib.hid hr
  clear t1 hr k1
  go_wp2
  go_ret
  exact ⟨rfl, HR.out, KR.out⟩

set_option maxRecDepth 100000 in
set_option maxHeartbeats 1000000 in
theorem stop_ok {k : Nat} {lm st ac : Int} {ex : Bool} (s2 : Int) (hmay : ∀ w : World, Calls Try.prog 42 #[.agg #[.int .i64 st, .int .i64 s2]] w fun e w' => e = .returned (.bool true) ∧ Kept (fun _ => False) w w') (hs : IsTk w b v k l) (hx : l[k]? = some (lm, ex, st, ac)) :
    Calls Try.prog 33 #[.pointer (some ⟨b, 0, none⟩), .int .i64 s2] w fun e w' => e = .returned (.int .i64 k) ∧ IsTk w' b v (-1) (l.set k (lm, ex, s2, ac)) ∧ Kept (foot b v) w w' := by
  have c2 := hs.blk.cell 2 rfl
  have ht := turn_ok s2 hmay hs hx
  go_enter Try.func33, Try.ntmps33
  go_wp2_with fail
  refine ht.mono ?_
  rintro e w1 ⟨rfl, t1, k1⟩
  have q2 := t1.blk.cell 2 rfl
  have z2 := t1.blk.frozen 2
  have hr := t1.setRun (-1)
  have KR := Lib.hid (k1.setCell (p := ⟨b, 2, none⟩) (Or.inl (Or.inl rfl)) (.int .i64 (-1)))
  have HR := Lib.hid hr
  clear t1 hr k1
  go_wp2
  go_ret
  exact ⟨rfl, HR.out, KR.out⟩

theorem preempt_no (hs : IsTk w b v run l) (h : run < 0) : Calls Try.prog 18 #[.pointer (some ⟨b, 0, none⟩)] w fun e w' => e = .returned (.tuple #[.int .i64 (-1), .int .i64 180]) ∧ w = w' := by
  have hbz := busy_ok hs
  rw [decide_eq_false (show ¬ 0 ≤ run by omega)] at hbz
  go_enter Try.func18, Try.ntmps18
  go_wp2_with (first | (go_at_call 31; refine (alive_ok hs).mono ?_; rintro e w' ⟨rfl, rfl⟩) | (go_at_call 32; refine hbz.mono ?_; rintro e w' ⟨rfl, rfl⟩))
  go_ret2
  exact ⟨rfl, rfl⟩
set_option maxRecDepth 100000 in
set_option maxHeartbeats 1000000 in
theorem preempt_ok {k : Nat} {lm ac : Int} {ex : Bool} (hs : IsTk w b v k l) (hx : l[k]? = some (lm, ex, 0, ac)) : Calls Try.prog 18 #[.pointer (some ⟨b, 0, none⟩)] w fun e w' =>
    e = .returned (.tuple #[.int .i64 k, .int .i64 0]) ∧ IsTk w' b v (-1) (l.set k (lm, ex, 2, ac)) ∧ Kept (foot b v) w w' := by
  have hbz := busy_ok hs
  rw [decide_eq_true (show (0 : Int) ≤ k by omega)] at hbz
  have ht := stop_ok 2 may_02 hs hx
  go_enter Try.func18, Try.ntmps18
  go_wp2_with (first | (go_at_call 31; refine (alive_ok hs).mono ?_; rintro e w' ⟨rfl, rfl⟩) | (go_at_call 32; refine hbz.mono ?_; rintro e w' ⟨rfl, rfl⟩))
  refine ht.mono ?_
  rintro e w1 ⟨rfl, t1, k1⟩
  go_wp2
  go_ret2
  exact ⟨rfl, t1, k1⟩

theorem again_no (hs : IsTk w b v run l) (h : run < 0) : Calls Try.prog 19 #[.pointer (some ⟨b, 0, none⟩)] w fun e w' => e = .returned (.tuple #[.int .i64 (-1), .int .i64 180]) ∧ w = w' := by
  go_enter Try.func19, Try.ntmps19
  go_wp2_with fail
  refine (preempt_no hs h).mono ?_
  rintro e w' ⟨rfl, rfl⟩
  go_wp2
  go_ret2
  exact ⟨rfl, rfl⟩
set_option maxRecDepth 100000 in
theorem again_ok {k : Nat} {lm ac : Int} {ex : Bool} (hs : IsTk w b v k l) (hx : l[k]? = some (lm, ex, 0, ac)) : Calls Try.prog 19 #[.pointer (some ⟨b, 0, none⟩)] w fun e w' =>
    e = .returned (.tuple #[.int .i64 k, .int .i64 0]) ∧ IsTk w' b v (-1) (l.set k (lm, ex, 2, ac)) ∧ Kept (foot b v) w w' := by
  go_enter Try.func19, Try.ntmps19
  go_wp2_with fail
  refine (preempt_ok hs hx).mono ?_
  rintro e w1 ⟨rfl, t1, k1⟩
  go_wp2
  go_ret2
  exact ⟨rfl, t1, k1⟩

set_option maxRecDepth 100000 in
theorem wait_no (hs : IsTk w b v run l) (h : run < 0) : Calls Try.prog 15 #[.pointer (some ⟨b, 0, none⟩)] w fun e w' => e = .returned (.tuple #[.int .i64 (-1), .int .i64 180]) ∧ ∃ q, w' = w.drewN q := by
  have hbz : ∀ n, Calls Try.prog 32 #[.pointer (some ⟨b, 0, none⟩)] (w.drewN n) fun e w' => e = .returned (.bool false) ∧ w' = w.drewN n := fun n => by
    have h2 := busy_ok (hs.drewN n)
    rw [decide_eq_false (show ¬ 0 ≤ run by omega)] at h2
    exact h2.mono (by rintro e w' ⟨rfl, rfl⟩; exact ⟨rfl, rfl⟩)
  go_enter Try.func15, Try.ntmps15
  go_wp2_with (go_at_call 31; refine (alive_ok hs).mono ?_; rintro e w' ⟨rfl, rfl⟩)
  go_quiet (first | (go_at_call 32; refine Calls.quiet_of_same (hbz _)))
  go_wp2
  go_ret2
  exact ⟨rfl, _, rfl⟩
set_option maxRecDepth 100000 in
set_option maxHeartbeats 1000000 in
theorem wait_basic {k : Nat} {lm st ac : Int} (hs : IsTk w b v k l) (hx : l[k]? = some (lm, false, st, ac)) : Calls Try.prog 15 #[.pointer (some ⟨b, 0, none⟩)] w fun e w' => e = .returned (.tuple #[.int .i64 (-1), .int .i64 180]) ∧ ∃ q, w' = w.drewN q := by
  have hh := has_ok k hs
  rw [hasT_of hx] at hh
  have hk := (List.getElem?_eq_some_iff.1 hx).1
  have c1 := hs.blk.cell 1 rfl
  have c2 := hs.blk.cell 2 rfl
  have hk0 : (0 : Int) ≤ (k : Int) := by omega
  have hk1 : (k : Int) < (l.length : Int) := by omega
  obtain ⟨g, c, rfl, hg, e0, e1, e2, e3, f2, f3⟩ := hs.cells hx
  have hbz : ∀ n, Calls Try.prog 32 #[.pointer (some ⟨b, 0, none⟩)] (w.drewN n) fun e w' => e = .returned (.bool true) ∧ w' = w.drewN n := fun n => by
    have h2 := busy_ok (hs.drewN n)
    rw [decide_eq_true (show (0 : Int) ≤ k by omega)] at h2
    exact h2.mono (by rintro e w' ⟨rfl, rfl⟩; exact ⟨rfl, rfl⟩)
  go_enter Try.func15, Try.ntmps15
  go_wp2_with (go_at_call 31; refine (alive_ok hs).mono ?_; rintro e w' ⟨rfl, rfl⟩)
  go_quiet (first | (go_at_call 32; refine Calls.quiet_of_same (hbz _)))
  go_wp2
  go_ret2
  exact ⟨rfl, _, rfl⟩
set_option maxRecDepth 100000 in
set_option maxHeartbeats 1000000 in
theorem wait_ok {k : Nat} {lm ac : Int} (hs : IsTk w b v k l) (hx : l[k]? = some (lm, true, 0, ac)) : Calls Try.prog 15 #[.pointer (some ⟨b, 0, none⟩)] w fun e w' =>
    e = .returned (.tuple #[.int .i64 k, .int .i64 0]) ∧ IsTk w' b v (-1) (l.set k (lm, true, 1, ac)) ∧ Kept (foot b v) w w' := by
  have hh := has_ok k hs
  rw [hasT_of hx] at hh
  have hk := (List.getElem?_eq_some_iff.1 hx).1
  have c1 := hs.blk.cell 1 rfl
  have c2 := hs.blk.cell 2 rfl
  have hk0 : (0 : Int) ≤ (k : Int) := by omega
  have hk1 : (k : Int) < (l.length : Int) := by omega
  obtain ⟨g, c, rfl, hg, e0, e1, e2, e3, f2, f3⟩ := hs.cells hx
  have hbz : ∀ n, Calls Try.prog 32 #[.pointer (some ⟨b, 0, none⟩)] (w.drewN n) fun e w' => e = .returned (.bool true) ∧ w' = w.drewN n := fun n => by
    have h2 := busy_ok (hs.drewN n)
    rw [decide_eq_true (show (0 : Int) ≤ k by omega)] at h2
    exact h2.mono (by rintro e w' ⟨rfl, rfl⟩; exact ⟨rfl, rfl⟩)
  have ht := fun n => stop_ok 1 may_01 (hs.drewN n) hx
  go_enter Try.func15, Try.ntmps15
  go_wp2_with (go_at_call 31; refine (alive_ok hs).mono ?_; rintro e w' ⟨rfl, rfl⟩)
  go_quiet (first | (go_at_call 32; refine Calls.quiet_of_same (hbz _)))
  go_wp2_with fail
  refine (ht _).mono ?_
  rintro e w1 ⟨rfl, t1, k1⟩
  go_wp2
  go_ret2
  exact ⟨rfl, t1, k1.undrew⟩

theorem release_no (i : Int) (hs : IsTk w b v run l) (h : hasT l i = false) : Calls Try.prog 17 #[.pointer (some ⟨b, 0, none⟩), .int .i64 i] w fun e w' => e = .returned (.int .i64 2) ∧ w = w' := by
  have hh := has_ok i hs
  rw [h] at hh
  go_enter Try.func17, Try.ntmps17
  go_wp2_with (first | (go_at_call 29; refine hh.mono ?_; rintro e w' ⟨rfl, rfl⟩) | (go_at_call 31; refine (alive_ok hs).mono ?_; rintro e w' ⟨rfl, rfl⟩))
  go_ret
  exact ⟨rfl, rfl⟩
set_option maxRecDepth 100000 in
theorem release_state {k : Nat} {lm st ac : Int} {ex : Bool} (hs : IsTk w b v run l) (hx : l[k]? = some (lm, ex, st, ac)) (hst : (st == 1) = false) : Calls Try.prog 17 #[.pointer (some ⟨b, 0, none⟩), .int .i64 k] w fun e w' => e = .returned (.int .i64 180) ∧ w = w' := by
  have hh := has_ok k hs
  rw [hasT_of hx] at hh
  have hk := (List.getElem?_eq_some_iff.1 hx).1
  have c1 := hs.blk.cell 1 rfl
  have c2 := hs.blk.cell 2 rfl
  have hk0 : (0 : Int) ≤ (k : Int) := by omega
  have hk1 : (k : Int) < (l.length : Int) := by omega
  obtain ⟨g, c, rfl, hg, e0, e1, e2, e3, f2, f3⟩ := hs.cells hx
  go_enter Try.func17, Try.ntmps17
  go_wp2_with (first | (go_at_call 29; refine hh.mono ?_; rintro e w' ⟨rfl, rfl⟩) | (go_at_call 31; refine (alive_ok hs).mono ?_; rintro e w' ⟨rfl, rfl⟩))
  go_ret
  exact ⟨rfl, rfl⟩
set_option maxRecDepth 100000 in
set_option maxHeartbeats 1000000 in
theorem release_ok {k : Nat} {lm ac : Int} {ex : Bool} (hs : IsTk w b v run l) (hx : l[k]? = some (lm, ex, 1, ac)) : Calls Try.prog 17 #[.pointer (some ⟨b, 0, none⟩), .int .i64 k] w fun e w' =>
    e = .returned (.int .i64 0) ∧ IsTk w' b v run (l.set k (lm, ex, 2, ac)) ∧ Kept (foot b v) w w' := by
  have hh := has_ok k hs
  rw [hasT_of hx] at hh
  have hk := (List.getElem?_eq_some_iff.1 hx).1
  have c1 := hs.blk.cell 1 rfl
  have c2 := hs.blk.cell 2 rfl
  have hk0 : (0 : Int) ≤ (k : Int) := by omega
  have hk1 : (k : Int) < (l.length : Int) := by omega
  obtain ⟨g, c, rfl, hg, e0, e1, e2, e3, f2, f3⟩ := hs.cells hx
  have ht := turn_ok 2 may_12 hs hx
  go_enter Try.func17, Try.ntmps17
  go_wp2_with (first | (go_at_call 29; refine hh.mono ?_; rintro e w' ⟨rfl, rfl⟩) | (go_at_call 31; refine (alive_ok hs).mono ?_; rintro e w' ⟨rfl, rfl⟩))
  refine ht.mono ?_
  rintro e w1 ⟨rfl, t1, k1⟩
  go_wp2
  go_ret
  exact ⟨rfl, t1, k1⟩

theorem end_no (hs : IsTk w b v run l) (h : run < 0) : Calls Try.prog 21 #[.pointer (some ⟨b, 0, none⟩)] w fun e w' => e = .returned (.tuple #[.int .i64 (-1), .int .i64 0, .int .i64 180]) ∧ w = w' := by
  have hbz := busy_ok hs
  rw [decide_eq_false (show ¬ 0 ≤ run by omega)] at hbz
  go_enter Try.func21, Try.ntmps21
  go_wp2_with (first | (go_at_call 31; refine (alive_ok hs).mono ?_; rintro e w' ⟨rfl, rfl⟩) | (go_at_call 32; refine hbz.mono ?_; rintro e w' ⟨rfl, rfl⟩))
  go_ret3
  exact ⟨rfl, rfl⟩
set_option maxRecDepth 100000 in
set_option maxHeartbeats 2000000 in
theorem end_last {k : Nat} {lm ac : Int} {ex : Bool} (hs : IsTk w b v k l) (hx : l[k]? = some (lm, ex, 0, ac)) (hac : ac = 1) : Calls Try.prog 21 #[.pointer (some ⟨b, 0, none⟩)] w fun e w' =>
    e = .returned (.tuple #[.int .i64 k, .int .i64 3, .int .i64 0]) ∧ IsTk w' b v (-1) (l.set k (lm, ex, 3, 0)) ∧ Kept (foot b v) w w' := by
  subst hac
  have hh := has_ok k hs
  rw [hasT_of hx] at hh
  have hk := (List.getElem?_eq_some_iff.1 hx).1
  have c1 := hs.blk.cell 1 rfl
  have c2 := hs.blk.cell 2 rfl
  have hk0 : (0 : Int) ≤ (k : Int) := by omega
  have hk1 : (k : Int) < (l.length : Int) := by omega
  obtain ⟨g, c, rfl, hg, e0, e1, e2, e3, f2, f3⟩ := hs.cells hx
  have hbz := busy_ok hs
  rw [decide_eq_true (show (0 : Int) ≤ k by omega)] at hbz
  have q1 := fun n => (hs.drewN n).put (k := k) (i := 3) (lm, ex, 0, 0) rfl hx (by decide) (u := .int .i64 (0)) rfl
  have kk := fun n => ((Kept.refl (foot b (.slice (some ⟨g, 0, none⟩) l.length c)) w).drewN n).setCell (p := ⟨g, k * 4 + 3, none⟩) (Or.inl (Or.inr rfl)) (.int .i64 (0))
  have hxs : (l.set k (lm, ex, 0, 0))[k]? = some (lm, ex, 0, 0) := by rw [List.getElem?_set_self hk]
  have ht := fun n => stop_ok 3 may_03 (q1 n) hxs
  have HT := Lib.hid ht
  have KK := Lib.hid kk
  clear ht kk hxs q1
  go_enter Try.func21, Try.ntmps21
  go_wp2_with (first | (go_at_call 31; refine (alive_ok hs).mono ?_; rintro e w' ⟨rfl, rfl⟩) | (go_at_call 32; refine hbz.mono ?_; rintro e w' ⟨rfl, rfl⟩))
  go_quiet (fail)
  go_wp2_with fail
  refine (HT.out _).mono ?_
  rintro e w1 ⟨rfl, t1, k1⟩
  go_wp2
  go_ret3
  rw [List.set_set] at t1
  exact ⟨rfl, t1, (KK.out _).then k1 (fun _ h => Or.inl h)⟩
set_option maxRecDepth 100000 in
set_option maxHeartbeats 2000000 in
theorem end_more {k : Nat} {lm ac : Int} {ex : Bool} (hs : IsTk w b v k l) (hx : l[k]? = some (lm, ex, 0, ac)) (hac : 1 < ac) (hb2 : ac ≤ 255) : Calls Try.prog 21 #[.pointer (some ⟨b, 0, none⟩)] w fun e w' =>
    e = .returned (.tuple #[.int .i64 k, .int .i64 2, .int .i64 0]) ∧ IsTk w' b v (-1) (l.set k (lm, ex, 2, ac - 1)) ∧ Kept (foot b v) w w' := by
  have hh := has_ok k hs
  rw [hasT_of hx] at hh
  have hk := (List.getElem?_eq_some_iff.1 hx).1
  have c1 := hs.blk.cell 1 rfl
  have c2 := hs.blk.cell 2 rfl
  have hk0 : (0 : Int) ≤ (k : Int) := by omega
  have hk1 : (k : Int) < (l.length : Int) := by omega
  obtain ⟨g, c, rfl, hg, e0, e1, e2, e3, f2, f3⟩ := hs.cells hx
  have hbz := busy_ok hs
  rw [decide_eq_true (show (0 : Int) ≤ k by omega)] at hbz
  have hne : ((ac - 1) == 0) = false := by rw [beq_eq_false_iff_ne]; omega
  have q1 := fun n => (hs.drewN n).put (k := k) (i := 3) (lm, ex, 0, ac - 1) rfl hx (by decide) (u := .int .i64 (ac - 1)) rfl
  have kk := fun n => ((Kept.refl (foot b (.slice (some ⟨g, 0, none⟩) l.length c)) w).drewN n).setCell (p := ⟨g, k * 4 + 3, none⟩) (Or.inl (Or.inr rfl)) (.int .i64 (ac - 1))
  have hxs : (l.set k (lm, ex, 0, ac - 1))[k]? = some (lm, ex, 0, ac - 1) := by rw [List.getElem?_set_self hk]
  have ht := fun n => stop_ok 2 may_02 (q1 n) hxs
  have HT := Lib.hid ht
  have KK := Lib.hid kk
  clear ht kk hxs q1
  go_enter Try.func21, Try.ntmps21
  go_wp2_with (first | (go_at_call 31; refine (alive_ok hs).mono ?_; rintro e w' ⟨rfl, rfl⟩) | (go_at_call 32; refine hbz.mono ?_; rintro e w' ⟨rfl, rfl⟩))
  go_quiet (fail)
  go_wp2_with fail
  refine (HT.out _).mono ?_
  rintro e w1 ⟨rfl, t1, k1⟩
  go_wp2
  go_ret3
  rw [List.set_set] at t1
  exact ⟨rfl, t1, (KK.out _).then k1 (fun _ h => Or.inl h)⟩
end
end Go.Proofs.Ytallbbjmfcohfaa.TK
