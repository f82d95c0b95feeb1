/- ReadyNobody: a queue that no call made. -/
import Derived.Test.YtdjdnfjfomeldaaRdyO
import Derived.Test.YtdjdnfjfomeldaaRdyLd
namespace Go.Proofs.Ytdjdnfjfomeldaa.readyNobodyW
open Go.RowKit Go.Fr Go.Rq
open Go.Proofs.Ytdjdnfjfomeldaa.QD
attribute [local go_sem] Oper.semAt_some

set_option maxRecDepth 100000 in
set_option maxHeartbeats 4000000 in
theorem nobody_ok {w : World} {a : Option Addr} (p x : Int) (h : Emp w a) : Calls Try.prog 27 #[.pointer a, .int .i64 p, .int .i64 x] w fun e w' => e = .returned (.bool true) ∧ Kept (fun i => ∃ y, a = some y ∧ y.block = i) w w' := by
  go_enter Try.func27, Try.ntmps27
  go_upto_region 4 with (first
    | (go_at_call 10; refine (emp_tail p x h).mono ?_; rintro e w' ⟨rfl, rfl⟩)
    | (go_at_call 18; refine (emp_head p x h).mono ?_; rintro e w' ⟨rfl, rfl⟩)
    | (go_at_call 14; refine (emp_take h).mono ?_; rintro e w1 ⟨rfl, k1⟩))
  have k2 := k1.alloc (.cells #[.int .i64 0, .int .i64 0] 40)
  have nb := Blk.new w1 [.int .i64 0, .int .i64 0] 40
  obtain ⟨w2, hw2⟩ : ∃ w2, w1.alloc (.cells #[.int .i64 0, .int .i64 0] 40) = w2 := ⟨_, rfl⟩
  obtain ⟨M, hM⟩ : ∃ M, w1.heap.size = M := ⟨_, rfl⟩
  rw [hw2] at k2 nb ⊢
  rw [hM] at nb
  try rw [hM]
  have h2 := h.same k2
  have K2 := Lib.hid k2
  clear hw2 hM k1 k2 h
  go_upto_region 6 with (first
    | (go_at_call 30; refine (emp_highest h2).mono ?_; rintro e w' ⟨rfl, rfl⟩)
    | (go_at_call 17; refine (emp_all h2).mono ?_; rintro e w3 ⟨ao3, c3, rfl, k3⟩))
  have h3 := h2.same k3
  have nb3 := nb.kept k3 (fun x => x)
  have y0 := nb3.cell 0 rfl
  have y1 := nb3.cell 1 rfl
  have K3 := Lib.hid (K2.out.then k3 (fun _ x => x.elim))
  clear k3 h2 nb nb3 K2
  go_wp2_with (first
    | (go_at_call 21; refine (emp_bits h3).mono ?_; rintro e w' ⟨rfl, rfl⟩)
    | (go_at_call 42; refine (emp_ring p h3).mono ?_; rintro e w4 ⟨ao4, c4, rfl, k4⟩; have h4 := h3.same k4)
    | (go_at_call 20; refine (emp_len h4).mono ?_; rintro e w' ⟨rfl, rfl⟩)
    | (go_at_call 45; refine (emp_high p h4).mono ?_; rintro e w' ⟨rfl, rfl⟩)
    | (go_at_call 23; refine (emp_clear h4).mono ?_; rintro e w5 ⟨rfl, h5, k5⟩)
    | (go_at_call 25; refine (emp_copy h5).mono ?_; rintro e w' ⟨rfl, rfl⟩))
  go_ret
  exact ⟨rfl, (K3.out.then k4 (fun _ x => x.elim)).mono (fun _ _ x => x.elim) |>.then k5 (fun i hi => Or.inl hi)⟩

set_option maxRecDepth 100000 in
set_option maxHeartbeats 4000000 in
theorem walk (w : World) (a0 : Int) (_ : (Lit.int .i64 a0).wf = true) (a1 : Int) (_ : (Lit.int .i64 a1).wf = true) :
    Calls Try.prog 7 #[.int .i64 a0, .int .i64 a1] w fun e w' => e = .returned (.bool true) ∧ Below w.heap.size w w' := by
  have hb := z_run
  have hs := z_size
  have hn := z_ne
  go_enter Try.func7, Try.ntmps7
  go_wp2_with fail
  refine (nobody_ok a0 a1 (Or.inl rfl)).mono ?_
  rintro e w1 ⟨rfl, k1⟩
  go_wp2_with fail
  refine (nobody_ok a0 a1 (emp_alloc w1)).mono ?_
  rintro e w3 ⟨rfl, k3⟩
  go_wp2_with fail
  refine (RL.heads_ok _).mono ?_
  rintro e w4 ⟨rfl, k4⟩
  go_wp2
  go_ret
  refine ⟨rfl, ?_⟩
  have k1' : Kept (fun _ => False) w w1 := k1.mono (fun _ _ x => by obtain ⟨y, hy, _⟩ := x; cases hy)
  have kk : Kept (fun i => w1.heap.size ≤ i) w w3 := ((k1'.alloc _).mono (fun _ _ x => x.elim)).then k3 (fun i hi => by obtain ⟨y, hy, rfl⟩ := hi; cases hy; exact Or.inl (Nat.le_refl _))
  have hz := k1'.size
  exact (kk.then k4 (fun _ x => x.elim)).below (Nat.le_refl _) (fun i hi => by omega)
end Go.Proofs.Ytdjdnfjfomeldaa.readyNobodyW
