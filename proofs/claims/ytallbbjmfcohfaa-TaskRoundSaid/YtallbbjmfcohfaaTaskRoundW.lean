/- TaskRound: the walk. -/
import Derived.Test.YtallbbjmfcohfaaTskA
namespace Go.Proofs.Ytallbbjmfcohfaa.taskRoundW
open Go.RowKit Go.Fr Go.Proofs.Ytallbbjmfcohfaa.TK

theorem u8n {a : Int} (h : (Lit.int .u8 a).wf = true) : ∃ n : Nat, a = n ∧ n < 256 := by
  have hx : 0 ≤ a ∧ a ≤ 255 := by simpa [Lit.wf, IntKind.min, IntKind.max, IntKind.signed, IntKind.bits] using h
  exact ⟨a.toNat, by omega, by omega⟩
theorem below_of {w w' : World} (k : Kept (fun i => w.heap.size ≤ i) w w') : Below w.heap.size w w' := k.below (Nat.le_refl _) (fun _ h => h)
set_option maxRecDepth 100000 in
set_option maxHeartbeats 2000000 in
theorem walk_no (w : World) : Calls Try.prog 4 #[.int .u8 0, .bool false] w fun e w' => e = .returned (.bool true) ∧ Below w.heap.size w w' := by
  have n0 := new_bad (some ⟨w.heap.size, 0, none⟩) 2 [(1, false), (0, false)] _ (by decide) (came_two w (1, false) (0, false) 29) (p := 1) rfl (by decide) (by rintro (_ | j) r h hr; cases hr; decide; omega)
  have k0 := (Kept.refl (fun _ => False) w).alloc (.cells #[.int .i64 1, .bool false, .int .i64 0, .bool false] 29)
  have K0 := Lib.hid k0
  have N0 := Lib.hid n0
  clear k0 n0
  go_enter Try.func4, Try.ntmps4
  go_wp2_with fail
  refine N0.out.mono ?_
  rintro e w1 ⟨rfl, k1⟩
  have J1 := Lib.hid (K0.out.then k1 (fun _ h => h.elim))
  clear k1 N0 K0
  go_wp2_with (first | (go_at_call 9; refine (num_ok _ _).mono ?_; rintro e w' ⟨rfl, rfl⟩) | (go_at_call 11; refine (alive_law _).mono ?_; rintro e wz ⟨rfl, kz⟩))
  go_ret
  exact ⟨rfl, (J1.out.then kz (fun _ h => h.elim)).below (Nat.le_refl _) (fun _ h => False.elim h)⟩

set_option maxRecDepth 100000 in
set_option maxHeartbeats 2000000 in
theorem walk_basic (w : World) (n : Nat) (hn : n < 256) (h1 : 1 ≤ n) : Calls Try.prog 4 #[.int .u8 n, .bool false] w fun e w' => e = .returned (.bool true) ∧ Below w.heap.size w w' := by
  have hn1 : decide ((n : Int) < 1) = false := by rw [decide_eq_false_iff_not]; omega
  have hlm : (0 : Int) < n := by omega
  have hlx : (n : Int) ≤ 255 := by omega
  have n0 := new_ok (some ⟨w.heap.size, 0, none⟩) 2 [(1, false), (n, false)] _ (by simp) (came_two w (1, false) (n, false) 29) (good_lt _ (by simp [goodR]; omega))
  have k0 := (Kept.refl (fun i => w.heap.size ≤ i) w).alloc (.cells #[.int .i64 1, .bool false, .int .i64 n, .bool false] 29)
  have K0 := Lib.hid k0
  have N0 := Lib.hid n0
  clear k0 n0
  go_enter Try.func4, Try.ntmps4
  go_wp2_with fail
  refine N0.out.mono ?_
  rintro e w1 ⟨b, v, rfl, h1, hf, k1⟩
  have J1 := Lib.hid (K0.out.then k1 (fun _ h => h.elim))
  have HF := Lib.hid (fun i hi => Nat.le_trans (Nat.le_of_lt (by simp : w.heap.size < (w.alloc (.cells #[.int .i64 1, .bool false, .int .i64 n, .bool false] 29)).heap.size)) (hf i hi))
  clear k1 hf N0 K0
  change IsTk w1 b v (-1) [(1, false, 3, 0), (n, false, 3, 0)] at h1
  go_wp2_with (go_at_call 9; refine (num_ok _ _).mono ?_; rintro e w' ⟨rfl, rfl⟩)
  refine (act_new (k := 1) h1 rfl hlm (by decide) hlx rfl).mono ?_
  rintro e w2 ⟨rfl, h2, k2⟩
  go_wp2_with (go_at_call 9; refine (num_ok _ _).mono ?_; rintro e w' ⟨rfl, rfl⟩)
  refine (start_ok (k := 1) h2 rfl (by decide)).mono ?_
  rintro e w3 ⟨rfl, h3, k3⟩
  have J3 := Lib.hid ((J1.out.then k2 (fun i hi => Or.inl (HF.out i hi))).then k3 (fun i hi => Or.inl (HF.out i hi)))
  clear k2 k3 h1 h2 J1
  go_wp2_with (first | (go_at_call 9; refine (num_ok _ _).mono ?_; rintro e w' ⟨rfl, rfl⟩) | (go_at_call 14; refine (running_ok h3).mono ?_; rintro e w' ⟨rfl, rfl⟩))
  refine (wait_basic (k := 1) h3 rfl).mono ?_
  rintro e w4 ⟨rfl, q, rfl⟩
  have h6 := h3.drewN q
  have J6 := Lib.hid (J3.out.drewN q)
  clear h3 J3
  go_wp2_with (go_at_call 9; refine (num_ok _ _).mono ?_; rintro e w' ⟨rfl, rfl⟩)
  refine (preempt_ok (k := 1) h6 rfl).mono ?_
  rintro e w7 ⟨rfl, h7, k7⟩
  have J7 := Lib.hid (J6.out.then k7 (fun i hi => Or.inl (HF.out i hi)))
  clear k7 h6 J6
  go_wp2_with (first | (go_at_call 9; refine (num_ok _ _).mono ?_; rintro e w' ⟨rfl, rfl⟩) | (go_at_call 14; refine (running_ok h7).mono ?_; rintro e w' ⟨rfl, rfl⟩))
  refine (start_state (k := 0) h7 rfl (by decide) (by decide)).mono ?_
  rintro e w' ⟨rfl, rfl⟩
  go_wp2_with (go_at_call 9; refine (num_ok _ _).mono ?_; rintro e w' ⟨rfl, rfl⟩)
  refine (start_ok (k := 1) h7 rfl (by decide)).mono ?_
  rintro e w8 ⟨rfl, h8, k8⟩
  have J8 := Lib.hid (J7.out.then k8 (fun i hi => Or.inl (HF.out i hi)))
  clear k8 h7 J7
  go_wp2_with (go_at_call 9; refine (num_ok _ _).mono ?_; rintro e w' ⟨rfl, rfl⟩)
  refine (again_ok (k := 1) h8 rfl).mono ?_
  rintro e w9 ⟨rfl, h9, k9⟩
  have J9 := Lib.hid (J8.out.then k9 (fun i hi => Or.inl (HF.out i hi)))
  clear k9 h8 J8
  go_wp2_with (go_at_call 9; refine (num_ok _ _).mono ?_; rintro e w' ⟨rfl, rfl⟩)
  refine (state_ok (k := 1) h9 rfl).mono ?_
  rintro e w' ⟨rfl, rfl⟩
  go_wp2_with (first | (go_at_call 9; refine (num_ok _ _).mono ?_; rintro e w' ⟨rfl, rfl⟩) | (go_at_call 20; refine (active_ok (k := 1) h9 rfl).mono ?_; rintro e w' ⟨rfl, rfl⟩))
  refine (start_ok (k := 1) h9 rfl (by decide)).mono ?_
  rintro e wa ⟨rfl, ha, ka⟩
  have Ja := Lib.hid (J9.out.then ka (fun i hi => Or.inl (HF.out i hi)))
  clear ka h9 J9
  go_wp2_with (go_at_call 9; refine (num_ok _ _).mono ?_; rintro e w' ⟨rfl, rfl⟩)
  refine (end_last (k := 1) ha rfl rfl).mono ?_
  rintro e wb ⟨rfl, hb, kb⟩
  have Jb := Lib.hid (Ja.out.then kb (fun i hi => Or.inl (HF.out i hi)))
  clear kb ha Ja
  go_wp2_with (first | (go_at_call 9; refine (num_ok _ _).mono ?_; rintro e w' ⟨rfl, rfl⟩) | (go_at_call 20; refine (active_ok (k := 1) hb rfl).mono ?_; rintro e w' ⟨rfl, rfl⟩) | (go_at_call 11; refine (alive_law _).mono ?_; rintro e wz ⟨rfl, kz⟩))
  go_ret
  exact ⟨rfl, below_of (Jb.out.then kz (fun _ h => h.elim))⟩

set_option maxRecDepth 100000 in
set_option maxHeartbeats 2000000 in
theorem walk_ext (w : World) (n : Nat) (hn : n < 256) : Calls Try.prog 4 #[.int .u8 n, .bool true] w fun e w' => e = .returned (.bool true) ∧ Below w.heap.size w w' := by
  have n0 := new_ok (some ⟨w.heap.size, 0, none⟩) 2 [(1, false), (1, true)] _ (by simp) (came_two w (1, false) (1, true) 29) (good_lt _ (by decide))
  have k0 := (Kept.refl (fun i => w.heap.size ≤ i) w).alloc (.cells #[.int .i64 1, .bool false, .int .i64 1, .bool true] 29)
  have K0 := Lib.hid k0
  have N0 := Lib.hid n0
  clear k0 n0
  go_enter Try.func4, Try.ntmps4
  go_wp2_with fail
  refine N0.out.mono ?_
  rintro e w1 ⟨b, v, rfl, h1, hf, k1⟩
  have J1 := Lib.hid (K0.out.then k1 (fun _ h => h.elim))
  have HF := Lib.hid (fun i hi => Nat.le_trans (Nat.le_of_lt (by simp : w.heap.size < (w.alloc (.cells #[.int .i64 1, .bool false, .int .i64 1, .bool true] 29)).heap.size)) (hf i hi))
  clear k1 hf N0 K0
  change IsTk w1 b v (-1) [(1, false, 3, 0), (1, true, 3, 0)] at h1
  go_wp2_with (go_at_call 9; refine (num_ok _ _).mono ?_; rintro e w' ⟨rfl, rfl⟩)
  refine (act_new (k := 1) h1 rfl (by decide) (by decide) (by decide) rfl).mono ?_
  rintro e w2 ⟨rfl, h2, k2⟩
  go_wp2_with (go_at_call 9; refine (num_ok _ _).mono ?_; rintro e w' ⟨rfl, rfl⟩)
  refine (start_ok (k := 1) h2 rfl (by decide)).mono ?_
  rintro e w3 ⟨rfl, h3, k3⟩
  have J3 := Lib.hid ((J1.out.then k2 (fun i hi => Or.inl (HF.out i hi))).then k3 (fun i hi => Or.inl (HF.out i hi)))
  clear k2 k3 h1 h2 J1
  go_wp2_with (first | (go_at_call 9; refine (num_ok _ _).mono ?_; rintro e w' ⟨rfl, rfl⟩) | (go_at_call 14; refine (running_ok h3).mono ?_; rintro e w' ⟨rfl, rfl⟩))
  refine (wait_ok (k := 1) h3 rfl).mono ?_
  rintro e w4 ⟨rfl, h4, k4⟩
  have J4 := Lib.hid (J3.out.then k4 (fun i hi => Or.inl (HF.out i hi)))
  clear k4 h3 J3
  go_wp2_with (go_at_call 9; refine (num_ok _ _).mono ?_; rintro e w' ⟨rfl, rfl⟩)
  refine (state_ok (k := 1) h4 rfl).mono ?_
  rintro e w' ⟨rfl, rfl⟩
  go_wp2_with (go_at_call 9; refine (num_ok _ _).mono ?_; rintro e w' ⟨rfl, rfl⟩)
  refine (release_ok (k := 1) h4 rfl).mono ?_
  rintro e w5 ⟨rfl, h5, k5⟩
  have J5 := Lib.hid (J4.out.then k5 (fun i hi => Or.inl (HF.out i hi)))
  clear k5 h4 J4
  go_wp2_with (first | (go_at_call 9; refine (num_ok _ _).mono ?_; rintro e w' ⟨rfl, rfl⟩) | (go_at_call 17; refine (release_state (k := 1) h5 rfl (by decide)).mono ?_; rintro e w' ⟨rfl, rfl⟩))
  refine (start_ok (k := 1) h5 rfl (by decide)).mono ?_
  rintro e w6 ⟨rfl, h6, k6⟩
  have J6 := Lib.hid (J5.out.then k6 (fun i hi => Or.inl (HF.out i hi)))
  clear k6 h5 J5
  go_wp2_with (go_at_call 9; refine (num_ok _ _).mono ?_; rintro e w' ⟨rfl, rfl⟩)
  refine (preempt_ok (k := 1) h6 rfl).mono ?_
  rintro e w7 ⟨rfl, h7, k7⟩
  have J7 := Lib.hid (J6.out.then k7 (fun i hi => Or.inl (HF.out i hi)))
  clear k7 h6 J6
  go_wp2_with (first | (go_at_call 9; refine (num_ok _ _).mono ?_; rintro e w' ⟨rfl, rfl⟩) | (go_at_call 14; refine (running_ok h7).mono ?_; rintro e w' ⟨rfl, rfl⟩))
  refine (start_state (k := 0) h7 rfl (by decide) (by decide)).mono ?_
  rintro e w' ⟨rfl, rfl⟩
  go_wp2_with (go_at_call 9; refine (num_ok _ _).mono ?_; rintro e w' ⟨rfl, rfl⟩)
  refine (start_ok (k := 1) h7 rfl (by decide)).mono ?_
  rintro e w8 ⟨rfl, h8, k8⟩
  have J8 := Lib.hid (J7.out.then k8 (fun i hi => Or.inl (HF.out i hi)))
  clear k8 h7 J7
  go_wp2_with (go_at_call 9; refine (num_ok _ _).mono ?_; rintro e w' ⟨rfl, rfl⟩)
  refine (again_ok (k := 1) h8 rfl).mono ?_
  rintro e w9 ⟨rfl, h9, k9⟩
  have J9 := Lib.hid (J8.out.then k9 (fun i hi => Or.inl (HF.out i hi)))
  clear k9 h8 J8
  go_wp2_with (go_at_call 9; refine (num_ok _ _).mono ?_; rintro e w' ⟨rfl, rfl⟩)
  refine (state_ok (k := 1) h9 rfl).mono ?_
  rintro e w' ⟨rfl, rfl⟩
  go_wp2_with (first | (go_at_call 9; refine (num_ok _ _).mono ?_; rintro e w' ⟨rfl, rfl⟩) | (go_at_call 20; refine (active_ok (k := 1) h9 rfl).mono ?_; rintro e w' ⟨rfl, rfl⟩))
  refine (start_ok (k := 1) h9 rfl (by decide)).mono ?_
  rintro e wa ⟨rfl, ha, ka⟩
  have Ja := Lib.hid (J9.out.then ka (fun i hi => Or.inl (HF.out i hi)))
  clear ka h9 J9
  go_wp2_with (go_at_call 9; refine (num_ok _ _).mono ?_; rintro e w' ⟨rfl, rfl⟩)
  refine (end_last (k := 1) ha rfl rfl).mono ?_
  rintro e wb ⟨rfl, hb, kb⟩
  have Jb := Lib.hid (Ja.out.then kb (fun i hi => Or.inl (HF.out i hi)))
  clear kb ha Ja
  go_wp2_with (first | (go_at_call 9; refine (num_ok _ _).mono ?_; rintro e w' ⟨rfl, rfl⟩) | (go_at_call 20; refine (active_ok (k := 1) hb rfl).mono ?_; rintro e w' ⟨rfl, rfl⟩) | (go_at_call 11; refine (alive_law _).mono ?_; rintro e wz ⟨rfl, kz⟩))
  go_ret
  exact ⟨rfl, below_of (Jb.out.then kz (fun _ h => h.elim))⟩

theorem walk (w : World) (a0 : Int) (w0 : (Lit.int .u8 a0).wf = true) (a1 : Bool) :
    Calls Try.prog 4 #[.int .u8 a0, .bool a1] w fun e w' => e = .returned (.bool true) ∧ Below w.heap.size w w' := by
  obtain ⟨n, rfl, hn⟩ := u8n w0
  cases a1 with
  | true => exact walk_ext w n hn
  | false =>
    rcases Nat.eq_zero_or_pos n with rfl | h
    · exact walk_no w
    · exact walk_basic w n hn h
end Go.Proofs.Ytallbbjmfcohfaa.taskRoundW
