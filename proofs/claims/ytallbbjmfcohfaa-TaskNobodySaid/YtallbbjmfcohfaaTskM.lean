/- tappetlaw18: play, on a table and the document's, both made. -/
import Derived.Test.YtallbbjmfcohfaaTskL
namespace Go.Proofs.Ytallbbjmfcohfaa.L
open Go.RowKit Go.Fr Go.Proofs.Ytallbbjmfcohfaa.TK

structure Both (w : World) (s b : Nat) (v vr vs vn : Value) (run : Int) (l : List Tk) : Prop where
  hs : IsTk w s v run l
  hr : TR.IsRef w b vr vs vn true l
  ok : Ok run l
  dis : ∀ i, foot s v i → TR.foot b vr vs vn i → False

def feet (s b : Nat) (v vr vs vn : Value) : Nat → Prop := fun i => foot s v i ∨ TR.foot b vr vs vn i

theorem Both.kept {w w' : World} {s b : Nat} {v vr vs vn : Value} {run : Int} {l : List Tk} {S : Nat → Prop} (hB : Both w s b v vr vs vn run l) (k : Kept S w w') (hn : ∀ i, feet s b v vr vs vn i → ¬ S i) : Both w' s b v vr vs vn run l :=
  ⟨hB.hs.kept k (fun i h => hn i (Or.inl h)), hB.hr.kept k (fun i h => hn i (Or.inr h)), hB.ok, hB.dis⟩
theorem Both.lt {w : World} {s b : Nat} {v vr vs vn : Value} {run : Int} {l : List Tk} (hB : Both w s b v vr vs vn run l) : ∀ i, feet s b v vr vs vn i → i < w.heap.size := fun i h => h.elim (hB.hs.lt i) (hB.hr.lt i)

/-- behind a call of play: the two are alike still, and nothing else is written -/
def Played (w : World) (s b : Nat) (v vr vs vn : Value) (w' : World) : Prop := ∃ run' l', Both w' s b v vr vs vn run' l' ∧ Kept (feet s b v vr vs vn) w w'

section
variable {w : World} {s b : Nat} {v vr vs vn : Value} {run : Int} {l : List Tk}

theorem Both.played {w' : World} (hB : Both w s b v vr vs vn run l) (k : Kept (fun _ => False) w w') : Played w s b v vr vs vn w' :=
  ⟨run, l, hB.kept k (fun _ _ h => h), k.mono (fun _ _ h => h.elim)⟩
theorem Both.step {w0 w1 w2 : World} {run' : Int} {l' : List Tk} (hB : Both w s b v vr vs vn run l) (k0 : Kept (fun _ => False) w w0) (hs1 : IsTk w1 s v run' l') (k1 : Kept (foot s v) w0 w1) (hr2 : TR.IsRef w2 b vr vs vn true l') (k2 : Kept (TR.foot b vr vs vn) w1 w2) (ho : Ok run' l') : Played w s b v vr vs vn w2 :=
  ⟨run', l', ⟨hs1.kept k2 (fun i h h' => hB.dis i h h'), hr2, ho, hB.dis⟩, ((k0.mono (fun _ _ h => h.elim)).then k1 (fun _ h => Or.inl (Or.inl h))).then k2 (fun _ h => Or.inl (Or.inr h))⟩
theorem Both.step' {w0 w1 w2 : World} {run' : Int} {l' : List Tk} (hB : Both w s b v vr vs vn run l) (k0 : Kept (fun _ => False) w w0) (hr1 : TR.IsRef w1 b vr vs vn true l') (k1 : Kept (TR.foot b vr vs vn) w0 w1) (hs2 : IsTk w2 s v run' l') (k2 : Kept (foot s v) w1 w2) (ho : Ok run' l') : Played w s b v vr vs vn w2 :=
  ⟨run', l', ⟨hs2, hr1.kept k2 (fun i h h' => hB.dis i h' h), ho, hB.dis⟩, ((k0.mono (fun _ _ h => h.elim)).then k1 (fun _ h => Or.inl (Or.inr h))).then k2 (fun _ h => Or.inl (Or.inl h))⟩

theorem boxed (w : World) (k x : Int) : Blk (w.alloc (.cells #[.int .i64 k, .int .i64 x] 48)) w.heap.size [.int .i64 k, .int .i64 x] 48 := Blk.new w [.int .i64 k, .int .i64 x] _

set_option maxRecDepth 100000 in
set_option maxHeartbeats 4000000 in
theorem play_act (x : Int) (hB : Both w s b v vr vs vn run l) :
    Calls Try.prog 28 #[.pointer (some ⟨s, 0, none⟩), .pointer (some ⟨b, 0, none⟩), .agg #[.int .i64 1, .int .i64 x]] w fun e w' => e = .returned (.bool true) ∧ Played w s b v vr vs vn w' := by
  have k0 := (Kept.refl (fun _ => False) w).alloc (.cells #[.int .i64 1, .int .i64 x] 48)
  have hbx := boxed w 1 x
  have c0 := hbx.cell 0 rfl
  have c1 := hbx.cell 1 rfl
  have hB0 := hB.kept k0 (fun _ _ h => h)
  have hlt := hB.lt
  have hns : ∀ i, foot s v i → ¬ i = w.heap.size := fun i h e => by have := hlt i (Or.inl h); omega
  have hnb : ∀ i, TR.foot b vr vs vn i → ¬ i = w.heap.size := fun i h e => by have := hlt i (Or.inr h); omega
  have hI := act_all x hB0.hs hB.ok
  have hR := fun (w1 : World) (hr : TR.IsRef w1 b vr vs vn true l) => TR.act_all x hr hB.ok
  have hOk := hB.ok.act x
  obtain ⟨A, hA⟩ : ∃ A, actP l x = A := ⟨_, rfl⟩
  rw [hA] at hOk
  rw [hA] at hI
  simp only [hA] at hR
  clear hA
  obtain ⟨r1, r2, l'⟩ := A
  dsimp only at hI hR hOk
  have HI := Lib.hid hI
  have HR := Lib.hid hR
  have HB := Lib.hid hB
  have HB0 := Lib.hid hB0
  clear hB hB0 hI hR
  go_enter Try.func28, Try.ntmps28
  go_wp2_with fail
  refine HI.out.mono ?_
  rintro e w1 ⟨rfl, hs1, k1⟩
  have c1' := (hbx.kept k1 (fun h => hns _ h rfl)).cell 1 rfl
  have hr1 := HB0.out.hr.kept k1 (fun i hi e => HB0.out.dis i e hi)
  go_wp2_with fail
  refine (HR.out _ hr1).mono ?_
  rintro e w2 ⟨rfl, hr2, k2⟩
  have Q := Lib.hid (HB.out.step k0 hs1 k1 hr2 k2 hOk)
  clear hs1 k1 hr2 k2 hr1 hOk
  go_wp2_with (go_at_call 9; refine (num_ok _ _).mono ?_; rintro e w3 ⟨rfl, rfl⟩)
  go_ret
  exact ⟨rfl, Q.out⟩

set_option maxRecDepth 100000 in
set_option maxHeartbeats 4000000 in
theorem play_start (x : Int) (hB : Both w s b v vr vs vn run l) :
    Calls Try.prog 28 #[.pointer (some ⟨s, 0, none⟩), .pointer (some ⟨b, 0, none⟩), .agg #[.int .i64 2, .int .i64 x]] w fun e w' => e = .returned (.bool true) ∧ Played w s b v vr vs vn w' := by
  have k0 := (Kept.refl (fun _ => False) w).alloc (.cells #[.int .i64 2, .int .i64 x] 48)
  have hbx := boxed w 2 x
  have c0 := hbx.cell 0 rfl
  have c1 := hbx.cell 1 rfl
  have hB0 := hB.kept k0 (fun _ _ h => h)
  have hlt := hB.lt
  have hns : ∀ i, foot s v i → ¬ i = w.heap.size := fun i h e => by have := hlt i (Or.inl h); omega
  have hnb : ∀ i, TR.foot b vr vs vn i → ¬ i = w.heap.size := fun i h e => by have := hlt i (Or.inr h); omega
  have hR := TR.start_all x hB0.hr hB.ok
  have hI := fun (w1 : World) (hs : IsTk w1 s v run l) => start_all x hs
  have hOk := hB.ok.start x
  obtain ⟨A, hA⟩ : ∃ A, startP run l x = A := ⟨_, rfl⟩
  rw [hA] at hOk
  rw [hA] at hR
  simp only [hA] at hI
  clear hA
  obtain ⟨r1, run', l'⟩ := A
  dsimp only at hI hR hOk
  have HI := Lib.hid hI
  have HR := Lib.hid hR
  have HB := Lib.hid hB
  have HB0 := Lib.hid hB0
  clear hB hB0 hI hR
  go_enter Try.func28, Try.ntmps28
  go_wp2_with fail
  refine HR.out.mono ?_
  rintro e w1 ⟨⟨y, rfl⟩, hr1, k1⟩
  have c1' := (hbx.kept k1 (fun h => hnb _ h rfl)).cell 1 rfl
  have hs1 := HB0.out.hs.kept k1 (fun i hi e => HB0.out.dis i hi e)
  go_wp2_with fail
  refine (HI.out _ hs1).mono ?_
  rintro e w2 ⟨rfl, hs2, k2⟩
  have Q := Lib.hid (HB.out.step' k0 hr1 k1 hs2 k2 hOk)
  clear hr1 k1 hs2 k2 hs1 hOk
  go_wp2_with (go_at_call 9; refine (num_ok _ _).mono ?_; rintro e w3 ⟨rfl, rfl⟩)
  go_ret
  exact ⟨rfl, Q.out⟩

set_option maxRecDepth 100000 in
set_option maxHeartbeats 4000000 in
theorem play_preempt (x : Int) (hB : Both w s b v vr vs vn run l) :
    Calls Try.prog 28 #[.pointer (some ⟨s, 0, none⟩), .pointer (some ⟨b, 0, none⟩), .agg #[.int .i64 3, .int .i64 x]] w fun e w' => e = .returned (.bool true) ∧ Played w s b v vr vs vn w' := by
  have k0 := (Kept.refl (fun _ => False) w).alloc (.cells #[.int .i64 3, .int .i64 x] 48)
  have hbx := boxed w 3 x
  have c0 := hbx.cell 0 rfl
  have c1 := hbx.cell 1 rfl
  have hB0 := hB.kept k0 (fun _ _ h => h)
  have hlt := hB.lt
  have hns : ∀ i, foot s v i → ¬ i = w.heap.size := fun i h e => by have := hlt i (Or.inl h); omega
  have hnb : ∀ i, TR.foot b vr vs vn i → ¬ i = w.heap.size := fun i h e => by have := hlt i (Or.inr h); omega
  have hI := preempt_all hB0.hs hB.ok
  have hR := fun (w1 : World) (hr : TR.IsRef w1 b vr vs vn true l) => TR.preempt_all hr hB.ok
  have hOk := hB.ok.pre
  obtain ⟨A, hA⟩ : ∃ A, preP run l = A := ⟨_, rfl⟩
  rw [hA] at hOk
  rw [hA] at hI
  simp only [hA] at hR
  clear hA
  obtain ⟨r1, r2, run', l'⟩ := A
  dsimp only at hI hR hOk
  have HI := Lib.hid hI
  have HR := Lib.hid hR
  have HB := Lib.hid hB
  have HB0 := Lib.hid hB0
  clear hB hB0 hI hR
  go_enter Try.func28, Try.ntmps28
  go_wp2_with fail
  refine HI.out.mono ?_
  rintro e w1 ⟨rfl, hs1, k1⟩
  have c1' := (hbx.kept k1 (fun h => hns _ h rfl)).cell 1 rfl
  have hr1 := HB0.out.hr.kept k1 (fun i hi e => HB0.out.dis i e hi)
  go_wp2_with fail
  refine (HR.out _ hr1).mono ?_
  rintro e w2 ⟨rfl, hr2, k2⟩
  have Q := Lib.hid (HB.out.step k0 hs1 k1 hr2 k2 hOk)
  clear hs1 k1 hr2 k2 hr1 hOk
  go_wp2_with (go_at_call 9; refine (num_ok _ _).mono ?_; rintro e w3 ⟨rfl, rfl⟩)
  go_ret
  exact ⟨rfl, Q.out⟩

set_option maxRecDepth 100000 in
set_option maxHeartbeats 4000000 in
theorem play_wait (x : Int) (hB : Both w s b v vr vs vn run l) :
    Calls Try.prog 28 #[.pointer (some ⟨s, 0, none⟩), .pointer (some ⟨b, 0, none⟩), .agg #[.int .i64 4, .int .i64 x]] w fun e w' => e = .returned (.bool true) ∧ Played w s b v vr vs vn w' := by
  have k0 := (Kept.refl (fun _ => False) w).alloc (.cells #[.int .i64 4, .int .i64 x] 48)
  have hbx := boxed w 4 x
  have c0 := hbx.cell 0 rfl
  have c1 := hbx.cell 1 rfl
  have hB0 := hB.kept k0 (fun _ _ h => h)
  have hlt := hB.lt
  have hns : ∀ i, foot s v i → ¬ i = w.heap.size := fun i h e => by have := hlt i (Or.inl h); omega
  have hnb : ∀ i, TR.foot b vr vs vn i → ¬ i = w.heap.size := fun i h e => by have := hlt i (Or.inr h); omega
  have hI := wait_all hB0.hs hB.ok
  have hR := fun (w1 : World) (hr : TR.IsRef w1 b vr vs vn true l) => TR.wait_all hr hB.ok
  have hOk := hB.ok.wait
  obtain ⟨A, hA⟩ : ∃ A, waitP run l = A := ⟨_, rfl⟩
  rw [hA] at hOk
  rw [hA] at hI
  simp only [hA] at hR
  clear hA
  obtain ⟨r1, r2, run', l'⟩ := A
  dsimp only at hI hR hOk
  have HI := Lib.hid hI
  have HR := Lib.hid hR
  have HB := Lib.hid hB
  have HB0 := Lib.hid hB0
  clear hB hB0 hI hR
  go_enter Try.func28, Try.ntmps28
  go_wp2_with fail
  refine HI.out.mono ?_
  rintro e w1 ⟨rfl, hs1, k1⟩
  have c1' := (hbx.kept k1 (fun h => hns _ h rfl)).cell 1 rfl
  have hr1 := HB0.out.hr.kept k1 (fun i hi e => HB0.out.dis i e hi)
  go_wp2_with fail
  refine (HR.out _ hr1).mono ?_
  rintro e w2 ⟨rfl, hr2, k2⟩
  have Q := Lib.hid (HB.out.step k0 hs1 k1 hr2 k2 hOk)
  clear hs1 k1 hr2 k2 hr1 hOk
  go_wp2_with (go_at_call 9; refine (num_ok _ _).mono ?_; rintro e w3 ⟨rfl, rfl⟩)
  go_ret
  exact ⟨rfl, Q.out⟩

set_option maxRecDepth 100000 in
set_option maxHeartbeats 4000000 in
theorem play_release (x : Int) (hB : Both w s b v vr vs vn run l) :
    Calls Try.prog 28 #[.pointer (some ⟨s, 0, none⟩), .pointer (some ⟨b, 0, none⟩), .agg #[.int .i64 5, .int .i64 x]] w fun e w' => e = .returned (.bool true) ∧ Played w s b v vr vs vn w' := by
  have k0 := (Kept.refl (fun _ => False) w).alloc (.cells #[.int .i64 5, .int .i64 x] 48)
  have hbx := boxed w 5 x
  have c0 := hbx.cell 0 rfl
  have c1 := hbx.cell 1 rfl
  have hB0 := hB.kept k0 (fun _ _ h => h)
  have hlt := hB.lt
  have hns : ∀ i, foot s v i → ¬ i = w.heap.size := fun i h e => by have := hlt i (Or.inl h); omega
  have hnb : ∀ i, TR.foot b vr vs vn i → ¬ i = w.heap.size := fun i h e => by have := hlt i (Or.inr h); omega
  have hR := TR.release_all x hB0.hr
  have hI := fun (w1 : World) (hs : IsTk w1 s v run l) => release_all x hs
  have hOk := hB.ok.rel x
  obtain ⟨A, hA⟩ : ∃ A, relP l x = A := ⟨_, rfl⟩
  rw [hA] at hOk
  rw [hA] at hR
  simp only [hA] at hI
  clear hA
  obtain ⟨r1, l'⟩ := A
  dsimp only at hI hR hOk
  have HI := Lib.hid hI
  have HR := Lib.hid hR
  have HB := Lib.hid hB
  have HB0 := Lib.hid hB0
  clear hB hB0 hI hR
  go_enter Try.func28, Try.ntmps28
  go_wp2_with fail
  refine HR.out.mono ?_
  rintro e w1 ⟨⟨y, rfl⟩, hr1, k1⟩
  have c1' := (hbx.kept k1 (fun h => hnb _ h rfl)).cell 1 rfl
  have hs1 := HB0.out.hs.kept k1 (fun i hi e => HB0.out.dis i hi e)
  go_wp2_with fail
  refine (HI.out _ hs1).mono ?_
  rintro e w2 ⟨rfl, hs2, k2⟩
  have Q := Lib.hid (HB.out.step' k0 hr1 k1 hs2 k2 hOk)
  clear hr1 k1 hs2 k2 hs1 hOk
  go_wp2_with (go_at_call 9; refine (num_ok _ _).mono ?_; rintro e w3 ⟨rfl, rfl⟩)
  go_ret
  exact ⟨rfl, Q.out⟩

set_option maxRecDepth 100000 in
set_option maxHeartbeats 4000000 in
theorem play_end (x : Int) (hB : Both w s b v vr vs vn run l) :
    Calls Try.prog 28 #[.pointer (some ⟨s, 0, none⟩), .pointer (some ⟨b, 0, none⟩), .agg #[.int .i64 6, .int .i64 x]] w fun e w' => e = .returned (.bool true) ∧ Played w s b v vr vs vn w' := by
  have k0 := (Kept.refl (fun _ => False) w).alloc (.cells #[.int .i64 6, .int .i64 x] 48)
  have hbx := boxed w 6 x
  have c0 := hbx.cell 0 rfl
  have c1 := hbx.cell 1 rfl
  have hB0 := hB.kept k0 (fun _ _ h => h)
  have hlt := hB.lt
  have hns : ∀ i, foot s v i → ¬ i = w.heap.size := fun i h e => by have := hlt i (Or.inl h); omega
  have hnb : ∀ i, TR.foot b vr vs vn i → ¬ i = w.heap.size := fun i h e => by have := hlt i (Or.inr h); omega
  have hI := end_all hB0.hs hB.ok
  have hR := fun (w1 : World) (hr : TR.IsRef w1 b vr vs vn true l) => TR.end_all hr hB.ok
  have hOk := hB.ok.fin
  obtain ⟨A, hA⟩ : ∃ A, endP run l = A := ⟨_, rfl⟩
  rw [hA] at hOk
  rw [hA] at hI
  simp only [hA] at hR
  clear hA
  obtain ⟨r1, r2, r3, run', l'⟩ := A
  dsimp only at hI hR hOk
  have HI := Lib.hid hI
  have HR := Lib.hid hR
  have HB := Lib.hid hB
  have HB0 := Lib.hid hB0
  clear hB hB0 hI hR
  go_enter Try.func28, Try.ntmps28
  go_wp2_with fail
  refine HI.out.mono ?_
  rintro e w1 ⟨rfl, hs1, k1⟩
  have c1' := (hbx.kept k1 (fun h => hns _ h rfl)).cell 1 rfl
  have hr1 := HB0.out.hr.kept k1 (fun i hi e => HB0.out.dis i e hi)
  go_wp2_with fail
  refine (HR.out _ hr1).mono ?_
  rintro e w2 ⟨rfl, hr2, k2⟩
  have Q := Lib.hid (HB.out.step k0 hs1 k1 hr2 k2 hOk)
  clear hs1 k1 hr2 k2 hr1 hOk
  go_wp2_with (go_at_call 9; refine (num_ok _ _).mono ?_; rintro e w3 ⟨rfl, rfl⟩)
  go_ret
  exact ⟨rfl, Q.out⟩

set_option maxRecDepth 100000 in
set_option maxHeartbeats 4000000 in
theorem play_again (x : Int) (hB : Both w s b v vr vs vn run l) :
    Calls Try.prog 28 #[.pointer (some ⟨s, 0, none⟩), .pointer (some ⟨b, 0, none⟩), .agg #[.int .i64 7, .int .i64 x]] w fun e w' => e = .returned (.bool true) ∧ Played w s b v vr vs vn w' := by
  have k0 := (Kept.refl (fun _ => False) w).alloc (.cells #[.int .i64 7, .int .i64 x] 48)
  have hbx := boxed w 7 x
  have c0 := hbx.cell 0 rfl
  have c1 := hbx.cell 1 rfl
  have hB0 := hB.kept k0 (fun _ _ h => h)
  have hlt := hB.lt
  have hns : ∀ i, foot s v i → ¬ i = w.heap.size := fun i h e => by have := hlt i (Or.inl h); omega
  have hnb : ∀ i, TR.foot b vr vs vn i → ¬ i = w.heap.size := fun i h e => by have := hlt i (Or.inr h); omega
  have hI := again_all hB0.hs hB.ok
  have hR := fun (w1 : World) (hr : TR.IsRef w1 b vr vs vn true l) => TR.preempt_all hr hB.ok
  have hOk := hB.ok.pre
  obtain ⟨A, hA⟩ : ∃ A, preP run l = A := ⟨_, rfl⟩
  rw [hA] at hOk
  rw [hA] at hI
  simp only [hA] at hR
  clear hA
  obtain ⟨r1, r2, run', l'⟩ := A
  dsimp only at hI hR hOk
  have HI := Lib.hid hI
  have HR := Lib.hid hR
  have HB := Lib.hid hB
  have HB0 := Lib.hid hB0
  clear hB hB0 hI hR
  go_enter Try.func28, Try.ntmps28
  go_wp2_with fail
  refine HI.out.mono ?_
  rintro e w1 ⟨rfl, hs1, k1⟩
  have c1' := (hbx.kept k1 (fun h => hns _ h rfl)).cell 1 rfl
  have hr1 := HB0.out.hr.kept k1 (fun i hi e => HB0.out.dis i e hi)
  go_wp2_with fail
  refine (HR.out _ hr1).mono ?_
  rintro e w2 ⟨rfl, hr2, k2⟩
  have Q := Lib.hid (HB.out.step k0 hs1 k1 hr2 k2 hOk)
  clear hs1 k1 hr2 k2 hr1 hOk
  go_wp2_with (go_at_call 9; refine (num_ok _ _).mono ?_; rintro e w3 ⟨rfl, rfl⟩)
  go_ret
  exact ⟨rfl, Q.out⟩

set_option maxRecDepth 100000 in
set_option maxHeartbeats 4000000 in
theorem play_reset (x : Int) (hB : Both w s b v vr vs vn run l) :
    Calls Try.prog 28 #[.pointer (some ⟨s, 0, none⟩), .pointer (some ⟨b, 0, none⟩), .agg #[.int .i64 8, .int .i64 x]] w fun e w' => e = .returned (.bool true) ∧ Played w s b v vr vs vn w' := by
  have k0 := (Kept.refl (fun _ => False) w).alloc (.cells #[.int .i64 8, .int .i64 x] 48)
  have hbx := boxed w 8 x
  have c0 := hbx.cell 0 rfl
  have c1 := hbx.cell 1 rfl
  have hB0 := hB.kept k0 (fun _ _ h => h)
  have hlt := hB.lt
  have hns : ∀ i, foot s v i → ¬ i = w.heap.size := fun i h e => by have := hlt i (Or.inl h); omega
  have hnb : ∀ i, TR.foot b vr vs vn i → ¬ i = w.heap.size := fun i h e => by have := hlt i (Or.inr h); omega
  have hI := reset_ok hB0.hs
  have hR := fun (w1 : World) (hr : TR.IsRef w1 b vr vs vn true l) => TR.reset_ok hr
  have hOk := rs_ok l hB.ok
  have HI := Lib.hid hI
  have HR := Lib.hid hR
  have HB := Lib.hid hB
  have HB0 := Lib.hid hB0
  clear hB hB0 hI hR
  go_enter Try.func28, Try.ntmps28
  go_wp2_with fail
  refine HI.out.mono ?_
  rintro e w1 ⟨rfl, hs1, k1⟩
  have c1' := (hbx.kept k1 (fun h => hns _ h rfl)).cell 1 rfl
  have hr1 := HB0.out.hr.kept k1 (fun i hi e => HB0.out.dis i e hi)
  go_wp2_with fail
  refine (HR.out _ hr1).mono ?_
  rintro e w2 ⟨rfl, hr2, k2⟩
  have Q := Lib.hid (HB.out.step k0 hs1 k1 hr2 k2 hOk)
  clear hs1 k1 hr2 k2 hr1 hOk
  go_wp2_with (go_at_call 9; refine (num_ok _ _).mono ?_; rintro e w3 ⟨rfl, rfl⟩)
  go_ret
  exact ⟨rfl, Q.out⟩

set_option maxRecDepth 100000 in
set_option maxHeartbeats 2000000 in
theorem play_other (k x : Int) (hB : Both w s b v vr vs vn run l) (h1 : ¬ k = 1) (h2 : ¬ k = 2) (h3 : ¬ k = 3) (h4 : ¬ k = 4) (h5 : ¬ k = 5) (h6 : ¬ k = 6) (h7 : ¬ k = 7) (h8 : ¬ k = 8) :
    Calls Try.prog 28 #[.pointer (some ⟨s, 0, none⟩), .pointer (some ⟨b, 0, none⟩), .agg #[.int .i64 k, .int .i64 x]] w fun e w' => e = .returned (.bool true) ∧ Played w s b v vr vs vn w' := by
  have hbx := boxed w k x
  have c0 := hbx.cell 0 rfl
  have c1 := hbx.cell 1 rfl
  go_enter Try.func28, Try.ntmps28
  go_wp2
  go_ret
  exact ⟨rfl, hB.played ((Kept.refl _ _).alloc _)⟩

theorem play_ok (k x : Int) (hB : Both w s b v vr vs vn run l) :
    Calls Try.prog 28 #[.pointer (some ⟨s, 0, none⟩), .pointer (some ⟨b, 0, none⟩), .agg #[.int .i64 k, .int .i64 x]] w fun e w' => e = .returned (.bool true) ∧ Played w s b v vr vs vn w' := by
  by_cases h1 : k = 1
  · subst h1; exact play_act x hB
  by_cases h2 : k = 2
  · subst h2; exact play_start x hB
  by_cases h3 : k = 3
  · subst h3; exact play_preempt x hB
  by_cases h4 : k = 4
  · subst h4; exact play_wait x hB
  by_cases h5 : k = 5
  · subst h5; exact play_release x hB
  by_cases h6 : k = 6
  · subst h6; exact play_end x hB
  by_cases h7 : k = 7
  · subst h7; exact play_again x hB
  by_cases h8 : k = 8
  · subst h8; exact play_reset x hB
  exact play_other k x hB h1 h2 h3 h4 h5 h6 h7 h8
end
end Go.Proofs.Ytallbbjmfcohfaa.L
