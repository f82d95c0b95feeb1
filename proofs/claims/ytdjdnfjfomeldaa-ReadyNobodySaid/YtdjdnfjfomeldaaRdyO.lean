/- Package ready: a queue that no call made: no pointer, or a pointer to the zero queue. -/
import Derived.Test.YtdjdnfjfomeldaaRdyB
import Derived.Test.YtdjdnfjfomeldaaRdyU
import Derived.Test.YtdjdnfjfomeldaaRdyV
import Derived.Test.YtdjdnfjfomeldaaRdyW
namespace Go.Proofs.Ytdjdnfjfomeldaa.QD
open Go.RowKit Go.Fr Go.Rq
attribute [local go_sem] Oper.semAt_some

/-- no pointer, or a pointer to the zero queue -/
def Emp (w : World) (a : Option Addr) : Prop := a = none ∨ ∃ b, a = some ⟨b, 0, none⟩ ∧ IsQ w b N64 [] [] 0 false
theorem Emp.same {w w' : World} {a : Option Addr} (h : Emp w a) (k : Kept (fun _ => False) w w') : Emp w' a := h.imp id (fun ⟨b, h1, h2⟩ => ⟨b, h1, h2.same k⟩)
theorem falls_nil : Falls [] := ⟨by simp, by simp, by simp, by simp⟩
theorem emp_new {w : World} {b : Nat} (h : Blk w b Z.toList 60) : Emp w (some ⟨b, 0, none⟩) :=
  Or.inr ⟨b, rfl, { blk := h, n64 := by simp [N64], len := rfl, has := by simp, no := fun p hp _ => by unfold N64; rw [List.getElem?_replicate, if_pos hp], apart := by simp, nb := by simp, falls := falls_nil }⟩
theorem emp_alloc (w : World) : Emp (w.alloc (.cells Z 60)) (some ⟨w.heap.size, 0, none⟩) := by
  refine emp_new ?_
  have h := Blk.new w Z.toList 60
  rwa [Array.toArray_toList] at h

section
variable {w : World} {a : Option Addr}
set_option maxHeartbeats 1000000 in
theorem emp_put_last (p x : Int) (h : Emp w a) : Calls Try.prog 31 #[.pointer a, .int .i64 p, .int .i64 x, .func (.func 32) #[] #[]] w fun e w' => e = .returned (.int .i64 1) ∧ w = w' := by
  rcases h with rfl | ⟨b, rfl, h⟩
  · go_enter Try.func31, Try.ntmps31
    go_wp2
    go_ret
    exact ⟨rfl, rfl⟩
  · have c0 := h.blk.cell 0 rfl
    go_enter Try.func31, Try.ntmps31
    go_wp2
    go_ret
    exact ⟨rfl, rfl⟩
set_option maxHeartbeats 1000000 in
theorem emp_put_first (p x : Int) (h : Emp w a) : Calls Try.prog 31 #[.pointer a, .int .i64 p, .int .i64 x, .func (.func 47) #[] #[]] w fun e w' => e = .returned (.int .i64 1) ∧ w = w' := by
  rcases h with rfl | ⟨b, rfl, h⟩
  · go_enter Try.func31, Try.ntmps31
    go_wp2
    go_ret
    exact ⟨rfl, rfl⟩
  · have c0 := h.blk.cell 0 rfl
    go_enter Try.func31, Try.ntmps31
    go_wp2
    go_ret
    exact ⟨rfl, rfl⟩
theorem emp_tail (p x : Int) (h : Emp w a) : Calls Try.prog 10 #[.pointer a, .int .i64 p, .int .i64 x] w fun e w' => e = .returned (.int .i64 1) ∧ w = w' := by
  go_enter Try.func10, Try.ntmps10
  go_wp2_with (go_at_call 31; refine (emp_put_last p x h).mono ?_; rintro e w' ⟨rfl, rfl⟩)
  go_ret
  exact ⟨rfl, rfl⟩
theorem emp_head (p x : Int) (h : Emp w a) : Calls Try.prog 18 #[.pointer a, .int .i64 p, .int .i64 x] w fun e w' => e = .returned (.int .i64 1) ∧ w = w' := by
  go_enter Try.func18, Try.ntmps18
  go_wp2_with (go_at_call 31; refine (emp_put_first p x h).mono ?_; rintro e w' ⟨rfl, rfl⟩)
  go_ret
  exact ⟨rfl, rfl⟩
set_option maxHeartbeats 1000000 in
theorem emp_take (h : Emp w a) : Calls Try.prog 14 #[.pointer a] w fun e w' => e = .returned (.tuple #[.agg #[.int .i64 0, .int .i64 0], .int .i64 1]) ∧ Kept (fun _ => False) w w' := by
  have kA := (Kept.refl (fun _ => False) w).alloc (.cells #[.int .i64 0, .int .i64 0] 40)
  have hS := Lib.hid kA
  rcases h with rfl | ⟨b, rfl, h⟩
  · clear kA
    go_enter Try.func14, Try.ntmps14
    go_wp2
    refine bodyPost_ret (v := .tuple #[.agg #[.int .i64 0, .int .i64 0], .int .i64 1]) (by rw [results_cell_tmp rfl]; go_simp) rfl ⟨rfl, hS.out⟩
  · have c0 := (h.same kA).blk.cell 0 rfl
    clear kA h
    go_enter Try.func14, Try.ntmps14
    go_wp2
    refine bodyPost_ret (v := .tuple #[.agg #[.int .i64 0, .int .i64 0], .int .i64 1]) (by rw [results_cell_tmp rfl]; go_simp) rfl ⟨rfl, hS.out⟩
theorem emp_highest (h : Emp w a) : Calls Try.prog 30 #[.pointer a] w fun e w' => e = .returned (.tuple #[.int .i64 0, .bool false]) ∧ w = w' := by
  rcases h with rfl | ⟨b, rfl, h⟩
  · go_enter Try.func30, Try.ntmps30
    go_wp2
    go_ret2
    exact ⟨rfl, rfl⟩
  · exact highest_ok h
theorem emp_bits (h : Emp w a) : Calls Try.prog 21 #[.pointer a] w fun e w' => e = .returned (.int .u64 0) ∧ w = w' := by
  rcases h with rfl | ⟨b, rfl, h⟩
  · go_enter Try.func21, Try.ntmps21
    go_wp2
    go_ret
    exact ⟨rfl, rfl⟩
  · exact bits_ok h
theorem emp_len (h : Emp w a) : Calls Try.prog 20 #[.pointer a] w fun e w' => e = .returned (.int .i64 0) ∧ w = w' := by
  rcases h with rfl | ⟨b, rfl, h⟩
  · go_enter Try.func20, Try.ntmps20
    go_wp2
    go_ret
    exact ⟨rfl, rfl⟩
  · exact len_ok h
theorem emp_high (p : Int) (h : Emp w a) : Calls Try.prog 45 #[.pointer a, .int .i64 p] w fun e w' => e = .returned (.int .i64 0) ∧ w = w' := by
  rcases h with rfl | ⟨b, rfl, h⟩
  · go_enter Try.func45, Try.ntmps45
    go_wp2_with (first
      | (go_at_call 35; refine (atnil_ok p _).mono ?_; rintro e w' ⟨rfl, rfl⟩)
      | (go_at_call 56; refine (nil_high _).mono ?_; rintro e w' ⟨rfl, rfl⟩))
    go_ret
    exact ⟨rfl, rfl⟩
  · exact high_ok p h
theorem emp_ring (p : Int) (h : Emp w a) : Calls Try.prog 42 #[.pointer a, .int .i64 p] w fun e w' => ∃ ao c, e = .returned (.slice ao 0 c) ∧ Kept (fun _ => False) w w' := by
  have key : ∃ rpf, AtQ w a rpf [] := by
    rcases h with rfl | ⟨b, rfl, h⟩
    · exact ⟨_, atq_nil w⟩
    · exact ⟨_, h.atq⟩
  obtain ⟨rpf, hk⟩ := key
  refine (ringA_ok p hk).mono ?_
  rintro e w' ⟨ao, c, rfl, _, _, k⟩
  exact ⟨ao, c, rfl, k⟩
theorem emp_all (h : Emp w a) : Calls Try.prog 17 #[.pointer a] w fun e w' => ∃ ao c, e = .returned (.slice ao 0 c) ∧ Kept (fun _ => False) w w' := by
  have key : ∃ rpf, AtQ w a rpf [] := by
    rcases h with rfl | ⟨b, rfl, h⟩
    · exact ⟨_, atq_nil w⟩
    · exact ⟨_, h.atq⟩
  obtain ⟨rpf, hk⟩ := key
  refine (qallA_law hk).mono ?_
  rintro e w' ⟨ao, c, rfl, _, _, k⟩
  exact ⟨ao, c, rfl, k⟩
theorem emp_clear (h : Emp w a) : Calls Try.prog 23 #[.pointer a] w fun e w' => e = .returned (.int .i64 0) ∧ Emp w' a ∧ Kept (fun i => ∃ x, a = some x ∧ x.block = i) w w' := by
  rcases h with rfl | ⟨b, rfl, h⟩
  · go_enter Try.func23, Try.ntmps23
    go_wp2
    go_ret
    exact ⟨rfl, Or.inl rfl, Kept.refl _ _⟩
  · refine (clear_ok h).mono ?_
    rintro e w' ⟨R', rfl, s⟩
    have hR : R' = [] := by have := s.q.len; simpa [clearQ] using this
    subst hR
    exact ⟨rfl, Or.inr ⟨b, rfl, s.q⟩, s.kept.mono (fun i _ hi => by
      rcases hi with rfl | ⟨r, hr, _⟩
      · exact ⟨_, rfl, rfl⟩
      · cases hr)⟩
theorem emp_copy (h : Emp w a) : Calls Try.prog 25 #[.pointer a] w fun e w' => e = .returned (.pointer none) ∧ w = w' := by
  rcases h with rfl | ⟨b, rfl, h⟩
  · go_enter Try.func25, Try.ntmps25
    go_wp2
    go_ret
    exact ⟨rfl, rfl⟩
  · have c0 := h.blk.cell 0 rfl
    go_enter Try.func25, Try.ntmps25
    go_wp2
    go_ret
    exact ⟨rfl, rfl⟩
end
end Go.Proofs.Ytdjdnfjfomeldaa.QD
