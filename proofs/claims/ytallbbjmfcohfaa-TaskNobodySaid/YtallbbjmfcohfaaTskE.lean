/- A table that New did not give (no pointer, or one to a struct of zeros): its methods, and play. -/
import Derived.Test.YtallbbjmfcohfaaTskG
namespace Go.Proofs.Ytallbbjmfcohfaa.L
open Go.RowKit Go.Fr Go.Proofs.Ytallbbjmfcohfaa.TK

def Dead (w : World) (p : Option Addr) : Prop := p = none ∨ ∃ b, p = some ⟨b, 0, none⟩ ∧ Blk w b [.bool false, .slice none 0 0, .int .i64 0] 64

theorem Dead.kept {w w' : World} {p : Option Addr} {S : Nat → Prop} (h : Dead w p) (k : Kept S w w') (hn : ∀ a, p = some a → ¬ S a.block) : Dead w' p := by
  rcases h with h | ⟨b, rfl, hb⟩
  · exact Or.inl h
  · exact Or.inr ⟨b, rfl, hb.kept k (hn _ rfl)⟩
theorem Dead.same {w w' : World} {p : Option Addr} (h : Dead w p) (k : Kept (fun _ => False) w w') : Dead w' p := h.kept k (fun _ _ h => h)

section
variable {w : World} {p : Option Addr}
theorem dead_alive (h : Dead w p) : Calls Try.prog 31 #[.pointer p] w fun e w' => e = .returned (.bool false) ∧ w = w' := by
  rcases h with rfl | ⟨b, rfl, hb⟩
  · go_enter Try.func31, Try.ntmps31
    go_wp2
    go_ret
    exact ⟨rfl, rfl⟩
  · have c0 := hb.cell 0 rfl
    go_enter Try.func31, Try.ntmps31
    go_wp2
    go_ret
    exact ⟨rfl, rfl⟩
theorem dead_has (i : Int) (h : Dead w p) : Calls Try.prog 29 #[.pointer p, .int .i64 i] w fun e w' => e = .returned (.bool false) ∧ w = w' := by
  go_enter Try.func29, Try.ntmps29
  go_wp2_with (go_at_call 31; refine (dead_alive h).mono ?_; rintro e w' ⟨rfl, rfl⟩)
  go_ret
  exact ⟨rfl, rfl⟩
theorem dead_state (i : Int) (h : Dead w p) : Calls Try.prog 16 #[.pointer p, .int .i64 i] w fun e w' => e = .returned (.tuple #[.int .i64 0, .int .i64 3]) ∧ w = w' := by
  go_enter Try.func16, Try.ntmps16
  go_wp2_with (go_at_call 29; refine (dead_has i h).mono ?_; rintro e w' ⟨rfl, rfl⟩)
  go_ret2
  exact ⟨rfl, rfl⟩
theorem dead_active (i : Int) (h : Dead w p) : Calls Try.prog 20 #[.pointer p, .int .i64 i] w fun e w' => e = .returned (.int .i64 0) ∧ w = w' := by
  go_enter Try.func20, Try.ntmps20
  go_wp2_with (go_at_call 29; refine (dead_has i h).mono ?_; rintro e w' ⟨rfl, rfl⟩)
  go_ret
  exact ⟨rfl, rfl⟩
theorem dead_running (h : Dead w p) : Calls Try.prog 14 #[.pointer p] w fun e w' => e = .returned (.int .i64 (-1)) ∧ w = w' := by
  go_enter Try.func14, Try.ntmps14
  go_wp2_with (go_at_call 31; refine (dead_alive h).mono ?_; rintro e w' ⟨rfl, rfl⟩)
  go_ret
  exact ⟨rfl, rfl⟩
theorem dead_those (i : Int) (h : Dead w p) : Calls Try.prog 22 #[.pointer p, .int .i64 i] w fun e w' => e = .returned (.slice none 0 0) ∧ w = w' := by
  go_enter Try.func22, Try.ntmps22
  go_wp2_with (go_at_call 31; refine (dead_alive h).mono ?_; rintro e w' ⟨rfl, rfl⟩)
  go_ret
  exact ⟨rfl, rfl⟩
theorem dead_act (i : Int) (h : Dead w p) : Calls Try.prog 12 #[.pointer p, .int .i64 i] w fun e w' => e = .returned (.tuple #[.bool false, .int .i64 3]) ∧ w = w' := by
  go_enter Try.func12, Try.ntmps12
  go_wp2_with (go_at_call 29; refine (dead_has i h).mono ?_; rintro e w' ⟨rfl, rfl⟩)
  go_ret2
  exact ⟨rfl, rfl⟩
theorem dead_start (i : Int) (h : Dead w p) : Calls Try.prog 13 #[.pointer p, .int .i64 i] w fun e w' => e = .returned (.int .i64 1) ∧ w = w' := by
  go_enter Try.func13, Try.ntmps13
  go_wp2_with (go_at_call 31; refine (dead_alive h).mono ?_; rintro e w' ⟨rfl, rfl⟩)
  go_ret
  exact ⟨rfl, rfl⟩
theorem dead_preempt (h : Dead w p) : Calls Try.prog 18 #[.pointer p] w fun e w' => e = .returned (.tuple #[.int .i64 (-1), .int .i64 1]) ∧ w = w' := by
  go_enter Try.func18, Try.ntmps18
  go_wp2_with (go_at_call 31; refine (dead_alive h).mono ?_; rintro e w' ⟨rfl, rfl⟩)
  go_ret2
  exact ⟨rfl, rfl⟩
theorem dead_wait (h : Dead w p) : Calls Try.prog 15 #[.pointer p] w fun e w' => e = .returned (.tuple #[.int .i64 (-1), .int .i64 1]) ∧ w = w' := by
  go_enter Try.func15, Try.ntmps15
  go_wp2_with (go_at_call 31; refine (dead_alive h).mono ?_; rintro e w' ⟨rfl, rfl⟩)
  go_ret2
  exact ⟨rfl, rfl⟩
theorem dead_release (i : Int) (h : Dead w p) : Calls Try.prog 17 #[.pointer p, .int .i64 i] w fun e w' => e = .returned (.int .i64 1) ∧ w = w' := by
  go_enter Try.func17, Try.ntmps17
  go_wp2_with (go_at_call 31; refine (dead_alive h).mono ?_; rintro e w' ⟨rfl, rfl⟩)
  go_ret
  exact ⟨rfl, rfl⟩
theorem dead_end (h : Dead w p) : Calls Try.prog 21 #[.pointer p] w fun e w' => e = .returned (.tuple #[.int .i64 (-1), .int .i64 0, .int .i64 1]) ∧ w = w' := by
  go_enter Try.func21, Try.ntmps21
  go_wp2_with (go_at_call 31; refine (dead_alive h).mono ?_; rintro e w' ⟨rfl, rfl⟩)
  go_ret3
  exact ⟨rfl, rfl⟩
theorem dead_again (h : Dead w p) : Calls Try.prog 19 #[.pointer p] w fun e w' => e = .returned (.tuple #[.int .i64 (-1), .int .i64 1]) ∧ w = w' := by
  go_enter Try.func19, Try.ntmps19
  go_wp2_with (go_at_call 18; refine (dead_preempt h).mono ?_; rintro e w' ⟨rfl, rfl⟩)
  go_ret2
  exact ⟨rfl, rfl⟩
theorem dead_reset (h : Dead w p) : Calls Try.prog 26 #[.pointer p] w fun e w' => e = .returned (.tuple #[]) ∧ w = w' := by
  go_enter Try.func26, Try.ntmps26
  go_wp2_with (go_at_call 31; refine (dead_alive h).mono ?_; rintro e w' ⟨rfl, rfl⟩)
  refine bodyPost_ret (results_none rfl _ _ _) rfl ?_
  exact ⟨rfl, rfl⟩
theorem dead_copy (h : Dead w p) : Calls Try.prog 25 #[.pointer p] w fun e w' => e = .returned (.pointer none) ∧ w = w' := by
  go_enter Try.func25, Try.ntmps25
  go_wp2_with (go_at_call 31; refine (dead_alive h).mono ?_; rintro e w' ⟨rfl, rfl⟩)
  go_ret
  exact ⟨rfl, rfl⟩

theorem tells_dead (h : Dead w p) : Tells w (.pointer p) (-1) [] := by
  have e : ∀ i, at? [] i = none := fun i => by unfold at?; split <;> rfl
  refine ⟨fun _ k => dead_running (h.same k), fun i _ k => ?_, fun i _ k => ?_, fun s w' k => ?_⟩
  · have e1 : stV [] i = 0 := by unfold stV; rw [e]; rfl
    have e2 : erV [] i = 3 := by unfold erV; rw [e]; rfl
    rw [e1, e2]
    exact dead_state i (h.same k)
  · have e1 : acV [] i = 0 := by unfold acV; rw [e]; rfl
    rw [e1]
    exact dead_active i (h.same k)
  · refine (dead_those s (h.same k)).mono ?_
    rintro e w2 ⟨rfl, rfl⟩
    exact ⟨none, 0, rfl, World.ownsRow_nil _ _ _ _, by simp [Value.ownBlock], Kept.refl _ _⟩

theorem ok_nil : Ok (-1) [] := ⟨fun _ _ _ _ _ h => by simp at h, Or.inl rfl⟩

/-- the document's, that New did not give -/
def DeadR (w : World) (b : Nat) : Prop := TR.IsRef w b (.slice none 0 0) (.slice none 0 0) (.slice none 0 0) false []
theorem DeadR.same {w' : World} {b : Nat} (h : DeadR w b) (k : Kept (fun _ => False) w w') : DeadR w' b := TR.IsRef.kept h k (fun _ _ h => h)
theorem footR {b i : Nat} (h : TR.foot b (.slice none 0 0) (.slice none 0 0) (.slice none 0 0) i) : i = b := by
  rcases h with h | h | h | h
  · exact h
  · simp [Value.ownBlock] at h
  · simp [Value.ownBlock] at h
  · simp [Value.ownBlock] at h
variable {b : Nat}
theorem dr_move (i x y : Int) (h : DeadR w b) : Calls Try.prog 39 #[.pointer (some ⟨b, 0, none⟩), .int .i64 i, .int .i64 x, .int .i64 y] w fun e w' => e = .returned (.tuple #[.int .i64 (-1), .int .i64 1]) ∧ w = w' := by
  have c0 := h.blk.cell 0 rfl
  go_enter Try.func39, Try.ntmps39
  go_wp2
  go_ret2
  exact ⟨rfl, rfl⟩
theorem dr_end (h : DeadR w b) : Calls Try.prog 40 #[.pointer (some ⟨b, 0, none⟩)] w fun e w' => e = .returned (.tuple #[.int .i64 (-1), .int .i64 0, .int .i64 1]) ∧ w = w' := by
  go_enter Try.func40, Try.ntmps40
  go_wp2_with (go_at_call 39; refine (dr_move _ _ _ h).mono ?_; rintro e w' ⟨rfl, rfl⟩)
  go_ret3
  exact ⟨rfl, rfl⟩
theorem dr_act (i : Int) (h : DeadR w b) : Calls Try.prog 38 #[.pointer (some ⟨b, 0, none⟩), .int .i64 i] w fun e w' => e = .returned (.tuple #[.bool false, .int .i64 3]) ∧ DeadR w' b ∧ Kept (fun i => i = b) w w' := by
  have e : actP [] i = (false, 3, []) := by
    have e : at? [] i = none := by unfold at?; split <;> rfl
    unfold actP; rw [e]
  have h1 := TR.act_all i h ok_nil
  rw [e] at h1
  exact h1.mono fun e w' ⟨h1, h2, h3⟩ => ⟨h1, h2, h3.mono (fun i _ hi => footR hi)⟩
theorem dr_reset (h : DeadR w b) : Calls Try.prog 41 #[.pointer (some ⟨b, 0, none⟩)] w fun e w' => e = .returned (.tuple #[]) ∧ DeadR w' b ∧ Kept (fun i => i = b) w w' := by
  exact (TR.reset_ok h).mono fun e w' ⟨h1, h2, h3⟩ => ⟨h1, h2, h3.mono (fun i _ hi => footR hi)⟩

theorem told_dead (hd : Dead w p) (hr : DeadR w b) : Calls Try.prog 24 #[.pointer p, .pointer (some ⟨b, 0, none⟩)] w fun e w' => e = .returned (.bool true) ∧ Kept (fun _ => False) w w' :=
  told_ok (tells_dead hd) hr ok_nil

def DeadP (w : World) (p : Option Addr) (b : Nat) (w' : World) : Prop := Dead w' p ∧ DeadR w' b ∧ Kept (fun i => i = b) w w'

set_option maxRecDepth 100000 in
set_option maxHeartbeats 4000000 in
theorem play_dead_act (x : Int) (hd : Dead w p) (hr : DeadR w b) (hp : ∀ a, p = some a → a.block ≠ b) :
    Calls Try.prog 28 #[.pointer p, .pointer (some ⟨b, 0, none⟩), .agg #[.int .i64 1, .int .i64 x]] w fun e w' => e = .returned (.bool true) ∧ DeadP w p b w' := by
  have k0 := (Kept.refl (fun _ => False) w).alloc (.cells #[.int .i64 1, .int .i64 x] 48)
  have hbx := boxed w 1 x
  have c0 := hbx.cell 0 rfl
  have c1 := hbx.cell 1 rfl
  have hd0 := hd.same k0
  have hr0 := hr.same k0
  have hlt := hr.blk.lt
  have kp : Kept (fun i => i = b) w (w.alloc (.cells #[.int .i64 1, .int .i64 x] 48)) := k0.mono (fun _ _ h => h.elim)
  have hI := dead_act x hd0
  have hR := dr_act x hr0
  clear hd hr
  go_enter Try.func28, Try.ntmps28
  go_wp2_with fail
  refine hI.mono ?_
  rintro e w1 ⟨rfl, rfl⟩
  go_wp2_with fail
  refine hR.mono ?_
  rintro e w2 ⟨rfl, h2, k2⟩
  go_wp2_with (go_at_call 9; refine (num_ok _ _).mono ?_; rintro e w3 ⟨rfl, rfl⟩)
  go_ret
  exact ⟨rfl, hd0.kept k2 (fun a e h => hp a e h), h2, kp.then k2 (fun _ h => Or.inl h)⟩

set_option maxRecDepth 100000 in
set_option maxHeartbeats 4000000 in
theorem play_dead_start (x : Int) (hd : Dead w p) (hr : DeadR w b) (hp : ∀ a, p = some a → a.block ≠ b) :
    Calls Try.prog 28 #[.pointer p, .pointer (some ⟨b, 0, none⟩), .agg #[.int .i64 2, .int .i64 x]] w fun e w' => e = .returned (.bool true) ∧ DeadP w p b w' := by
  have k0 := (Kept.refl (fun _ => False) w).alloc (.cells #[.int .i64 2, .int .i64 x] 48)
  have hbx := boxed w 2 x
  have c0 := hbx.cell 0 rfl
  have c1 := hbx.cell 1 rfl
  have hd0 := hd.same k0
  have hr0 := hr.same k0
  have hlt := hr.blk.lt
  have kp : Kept (fun i => i = b) w (w.alloc (.cells #[.int .i64 2, .int .i64 x] 48)) := k0.mono (fun _ _ h => h.elim)
  have hI := dead_start x hd0
  have hR := fun i x y => dr_move i x y hr0
  clear hd hr
  go_enter Try.func28, Try.ntmps28
  go_wp2_with fail
  refine (hR _ _ _).mono ?_
  rintro e w2 ⟨rfl, rfl⟩
  go_wp2_with fail
  refine hI.mono ?_
  rintro e w1 ⟨rfl, rfl⟩
  go_wp2_with (go_at_call 9; refine (num_ok _ _).mono ?_; rintro e w3 ⟨rfl, rfl⟩)
  go_ret
  exact ⟨rfl, hd0, hr0, kp⟩

set_option maxRecDepth 100000 in
set_option maxHeartbeats 4000000 in
theorem play_dead_preempt (x : Int) (hd : Dead w p) (hr : DeadR w b) (hp : ∀ a, p = some a → a.block ≠ b) :
    Calls Try.prog 28 #[.pointer p, .pointer (some ⟨b, 0, none⟩), .agg #[.int .i64 3, .int .i64 x]] w fun e w' => e = .returned (.bool true) ∧ DeadP w p b w' := by
  have k0 := (Kept.refl (fun _ => False) w).alloc (.cells #[.int .i64 3, .int .i64 x] 48)
  have hbx := boxed w 3 x
  have c0 := hbx.cell 0 rfl
  have c1 := hbx.cell 1 rfl
  have hd0 := hd.same k0
  have hr0 := hr.same k0
  have hlt := hr.blk.lt
  have kp : Kept (fun i => i = b) w (w.alloc (.cells #[.int .i64 3, .int .i64 x] 48)) := k0.mono (fun _ _ h => h.elim)
  have hI := dead_preempt hd0
  have hR := fun i x y => dr_move i x y hr0
  clear hd hr
  go_enter Try.func28, Try.ntmps28
  go_wp2_with fail
  refine hI.mono ?_
  rintro e w1 ⟨rfl, rfl⟩
  go_wp2_with fail
  refine (hR _ _ _).mono ?_
  rintro e w2 ⟨rfl, rfl⟩
  go_wp2_with (go_at_call 9; refine (num_ok _ _).mono ?_; rintro e w3 ⟨rfl, rfl⟩)
  go_ret
  exact ⟨rfl, hd0, hr0, kp⟩

set_option maxRecDepth 100000 in
set_option maxHeartbeats 4000000 in
theorem play_dead_wait (x : Int) (hd : Dead w p) (hr : DeadR w b) (hp : ∀ a, p = some a → a.block ≠ b) :
    Calls Try.prog 28 #[.pointer p, .pointer (some ⟨b, 0, none⟩), .agg #[.int .i64 4, .int .i64 x]] w fun e w' => e = .returned (.bool true) ∧ DeadP w p b w' := by
  have k0 := (Kept.refl (fun _ => False) w).alloc (.cells #[.int .i64 4, .int .i64 x] 48)
  have hbx := boxed w 4 x
  have c0 := hbx.cell 0 rfl
  have c1 := hbx.cell 1 rfl
  have hd0 := hd.same k0
  have hr0 := hr.same k0
  have hlt := hr.blk.lt
  have kp : Kept (fun i => i = b) w (w.alloc (.cells #[.int .i64 4, .int .i64 x] 48)) := k0.mono (fun _ _ h => h.elim)
  have hI := dead_wait hd0
  have hR := fun i x y => dr_move i x y hr0
  clear hd hr
  go_enter Try.func28, Try.ntmps28
  go_wp2_with fail
  refine hI.mono ?_
  rintro e w1 ⟨rfl, rfl⟩
  go_wp2_with fail
  refine (hR _ _ _).mono ?_
  rintro e w2 ⟨rfl, rfl⟩
  go_wp2_with (go_at_call 9; refine (num_ok _ _).mono ?_; rintro e w3 ⟨rfl, rfl⟩)
  go_ret
  exact ⟨rfl, hd0, hr0, kp⟩

set_option maxRecDepth 100000 in
set_option maxHeartbeats 4000000 in
theorem play_dead_release (x : Int) (hd : Dead w p) (hr : DeadR w b) (hp : ∀ a, p = some a → a.block ≠ b) :
    Calls Try.prog 28 #[.pointer p, .pointer (some ⟨b, 0, none⟩), .agg #[.int .i64 5, .int .i64 x]] w fun e w' => e = .returned (.bool true) ∧ DeadP w p b w' := by
  have k0 := (Kept.refl (fun _ => False) w).alloc (.cells #[.int .i64 5, .int .i64 x] 48)
  have hbx := boxed w 5 x
  have c0 := hbx.cell 0 rfl
  have c1 := hbx.cell 1 rfl
  have hd0 := hd.same k0
  have hr0 := hr.same k0
  have hlt := hr.blk.lt
  have kp : Kept (fun i => i = b) w (w.alloc (.cells #[.int .i64 5, .int .i64 x] 48)) := k0.mono (fun _ _ h => h.elim)
  have hI := dead_release x hd0
  have hR := fun i x y => dr_move i x y hr0
  clear hd hr
  go_enter Try.func28, Try.ntmps28
  go_wp2_with fail
  refine (hR _ _ _).mono ?_
  rintro e w2 ⟨rfl, rfl⟩
  go_wp2_with fail
  refine hI.mono ?_
  rintro e w1 ⟨rfl, rfl⟩
  go_wp2_with (go_at_call 9; refine (num_ok _ _).mono ?_; rintro e w3 ⟨rfl, rfl⟩)
  go_ret
  exact ⟨rfl, hd0, hr0, kp⟩

set_option maxRecDepth 100000 in
set_option maxHeartbeats 4000000 in
theorem play_dead_end (x : Int) (hd : Dead w p) (hr : DeadR w b) (hp : ∀ a, p = some a → a.block ≠ b) :
    Calls Try.prog 28 #[.pointer p, .pointer (some ⟨b, 0, none⟩), .agg #[.int .i64 6, .int .i64 x]] w fun e w' => e = .returned (.bool true) ∧ DeadP w p b w' := by
  have k0 := (Kept.refl (fun _ => False) w).alloc (.cells #[.int .i64 6, .int .i64 x] 48)
  have hbx := boxed w 6 x
  have c0 := hbx.cell 0 rfl
  have c1 := hbx.cell 1 rfl
  have hd0 := hd.same k0
  have hr0 := hr.same k0
  have hlt := hr.blk.lt
  have kp : Kept (fun i => i = b) w (w.alloc (.cells #[.int .i64 6, .int .i64 x] 48)) := k0.mono (fun _ _ h => h.elim)
  have hI := dead_end hd0
  have hR := dr_end hr0
  clear hd hr
  go_enter Try.func28, Try.ntmps28
  go_wp2_with fail
  refine hI.mono ?_
  rintro e w1 ⟨rfl, rfl⟩
  go_wp2_with fail
  refine hR.mono ?_
  rintro e w2 ⟨rfl, rfl⟩
  go_wp2_with (go_at_call 9; refine (num_ok _ _).mono ?_; rintro e w3 ⟨rfl, rfl⟩)
  go_ret
  exact ⟨rfl, hd0, hr0, kp⟩

set_option maxRecDepth 100000 in
set_option maxHeartbeats 4000000 in
theorem play_dead_again (x : Int) (hd : Dead w p) (hr : DeadR w b) (hp : ∀ a, p = some a → a.block ≠ b) :
    Calls Try.prog 28 #[.pointer p, .pointer (some ⟨b, 0, none⟩), .agg #[.int .i64 7, .int .i64 x]] w fun e w' => e = .returned (.bool true) ∧ DeadP w p b w' := by
  have k0 := (Kept.refl (fun _ => False) w).alloc (.cells #[.int .i64 7, .int .i64 x] 48)
  have hbx := boxed w 7 x
  have c0 := hbx.cell 0 rfl
  have c1 := hbx.cell 1 rfl
  have hd0 := hd.same k0
  have hr0 := hr.same k0
  have hlt := hr.blk.lt
  have kp : Kept (fun i => i = b) w (w.alloc (.cells #[.int .i64 7, .int .i64 x] 48)) := k0.mono (fun _ _ h => h.elim)
  have hI := dead_again hd0
  have hR := fun i x y => dr_move i x y hr0
  clear hd hr
  go_enter Try.func28, Try.ntmps28
  go_wp2_with fail
  refine hI.mono ?_
  rintro e w1 ⟨rfl, rfl⟩
  go_wp2_with fail
  refine (hR _ _ _).mono ?_
  rintro e w2 ⟨rfl, rfl⟩
  go_wp2_with (go_at_call 9; refine (num_ok _ _).mono ?_; rintro e w3 ⟨rfl, rfl⟩)
  go_ret
  exact ⟨rfl, hd0, hr0, kp⟩

set_option maxRecDepth 100000 in
set_option maxHeartbeats 4000000 in
theorem play_dead_reset (x : Int) (hd : Dead w p) (hr : DeadR w b) (hp : ∀ a, p = some a → a.block ≠ b) :
    Calls Try.prog 28 #[.pointer p, .pointer (some ⟨b, 0, none⟩), .agg #[.int .i64 8, .int .i64 x]] w fun e w' => e = .returned (.bool true) ∧ DeadP w p b w' := by
  have k0 := (Kept.refl (fun _ => False) w).alloc (.cells #[.int .i64 8, .int .i64 x] 48)
  have hbx := boxed w 8 x
  have c0 := hbx.cell 0 rfl
  have c1 := hbx.cell 1 rfl
  have hd0 := hd.same k0
  have hr0 := hr.same k0
  have hlt := hr.blk.lt
  have kp : Kept (fun i => i = b) w (w.alloc (.cells #[.int .i64 8, .int .i64 x] 48)) := k0.mono (fun _ _ h => h.elim)
  have hI := dead_reset hd0
  have hR := dr_reset hr0
  clear hd hr
  go_enter Try.func28, Try.ntmps28
  go_wp2_with fail
  refine hI.mono ?_
  rintro e w1 ⟨rfl, rfl⟩
  go_wp2_with fail
  refine hR.mono ?_
  rintro e w2 ⟨rfl, h2, k2⟩
  go_wp2_with (go_at_call 9; refine (num_ok _ _).mono ?_; rintro e w3 ⟨rfl, rfl⟩)
  go_ret
  exact ⟨rfl, hd0.kept k2 (fun a e h => hp a e h), h2, kp.then k2 (fun _ h => Or.inl h)⟩

set_option maxRecDepth 100000 in
set_option maxHeartbeats 2000000 in
theorem play_dead_other (k x : Int) (hd : Dead w p) (hr : DeadR w b) (h1 : ¬ k = 1) (h2 : ¬ k = 2) (h3 : ¬ k = 3) (h4 : ¬ k = 4) (h5 : ¬ k = 5) (h6 : ¬ k = 6) (h7 : ¬ k = 7) (h8 : ¬ k = 8) :
    Calls Try.prog 28 #[.pointer p, .pointer (some ⟨b, 0, none⟩), .agg #[.int .i64 k, .int .i64 x]] w fun e w' => e = .returned (.bool true) ∧ DeadP w p b w' := by
  have hbx := boxed w k x
  have c0 := hbx.cell 0 rfl
  have c1 := hbx.cell 1 rfl
  go_enter Try.func28, Try.ntmps28
  go_wp2
  go_ret
  exact ⟨rfl, hd.same ((Kept.refl _ _).alloc _), hr.same ((Kept.refl _ _).alloc _), (Kept.refl _ _).alloc _⟩

theorem play_dead (k x : Int) (hd : Dead w p) (hr : DeadR w b) (hp : ∀ a, p = some a → a.block ≠ b) :
    Calls Try.prog 28 #[.pointer p, .pointer (some ⟨b, 0, none⟩), .agg #[.int .i64 k, .int .i64 x]] w fun e w' => e = .returned (.bool true) ∧ DeadP w p b w' := by
  by_cases h1 : k = 1
  · subst h1; exact play_dead_act x hd hr hp
  by_cases h2 : k = 2
  · subst h2; exact play_dead_start x hd hr hp
  by_cases h3 : k = 3
  · subst h3; exact play_dead_preempt x hd hr hp
  by_cases h4 : k = 4
  · subst h4; exact play_dead_wait x hd hr hp
  by_cases h5 : k = 5
  · subst h5; exact play_dead_release x hd hr hp
  by_cases h6 : k = 6
  · subst h6; exact play_dead_end x hd hr hp
  by_cases h7 : k = 7
  · subst h7; exact play_dead_again x hd hr hp
  by_cases h8 : k = 8
  · subst h8; exact play_dead_reset x hd hr hp
  exact play_dead_other k x hd hr h1 h2 h3 h4 h5 h6 h7 h8
end
end Go.Proofs.Ytallbbjmfcohfaa.L
