/- A board that New did not give: what the law asks of it. -/
import Derived.Test.YtemhfonneggneaaBdD
namespace Go.Proofs.Ytemhfonneggneaa.BD
open Go.RowKit Go.Fr

theorem eq3 (w : World) : (Op.equalIn 10000 114 (.agg #[.int .u32 0, .int .u32 0, .int .u32 0]) (.agg #[.int .u32 0, .int .u32 0, .int .u32 0])).run Try.prog w = .ok true w := by kernel_rfl
set_option maxRecDepth 100000 in
set_option maxHeartbeats 4000000 in
theorem dead_all {w : World} {p : Option Addr} (n a : Int) (gs : Bool) (ga go : Int) (h : DeadB w p) : Calls Try.prog 22 #[.pointer p, .int .i64 n, .int .u32 a, .agg #[.bool gs, .int .i64 ga, .int .i64 go]] w fun e w' =>
    e = .returned (.bool true) ∧ Kept (fun _ => False) w w' := by
  have kA := (Kept.refl (fun _ => False) w).alloc (.cells #[.bool gs, .int .i64 ga, .int .i64 go] 46)
  have nA := Blk.new w [.bool gs, .int .i64 ga, .int .i64 go] 46
  obtain ⟨w1, hw1⟩ : ∃ w1, w.alloc (.cells #[.bool gs, .int .i64 ga, .int .i64 go] 46) = w1 := ⟨_, rfl⟩
  obtain ⟨N, hN⟩ : ∃ N, w.heap.size = N := ⟨_, rfl⟩
  have hd := h.kept kA
  rw [hw1] at kA hd
  have nA' : Blk w1 N [.bool gs, .int .i64 ga, .int .i64 go] 46 := by rw [← hw1, ← hN]; exact nA
  have KA := Lib.hid kA
  have NA := Lib.hid nA'
  have HD := Lib.hid hd
  clear nA nA' kA hd h
  go_enter Try.func22, Try.ntmps22
  go_upto_region 1 with fail
  try rw [hw1]
  try rw [hN]
  clear hw1 hN
  go_wp2_with (go_at_call 9; refine (dead_tick n HD.out).mono ?_; rintro e w' ⟨rfl, rfl⟩)
  refine (dead_base n HD.out).mono ?_
  rintro e w2 ⟨rfl, k2⟩
  have kB := k2.alloc (.cells #[.int .u32 0, .int .u32 0, .int .u32 0] 114)
  have nB := Blk.new w2 [.int .u32 0, .int .u32 0, .int .u32 0] 114
  obtain ⟨w3, hw3⟩ : ∃ w3, w2.alloc (.cells #[.int .u32 0, .int .u32 0, .int .u32 0] 114) = w3 := ⟨_, rfl⟩
  obtain ⟨M, hM⟩ : ∃ M, w2.heap.size = M := ⟨_, rfl⟩
  rw [hw3] at kB
  have nB' : Blk w3 M [.int .u32 0, .int .u32 0, .int .u32 0] 114 := by rw [← hw3, ← hM]; exact nB
  have hd3 := HD.out.kept kB
  have nG := NA.out.kept kB (fun x => x)
  have z0 := nG.cell 0 rfl
  have z1 := nG.cell 1 rfl
  have z2 := nG.cell 2 rfl
  have K3 := Lib.hid (KA.out.then kB (fun _ x => x.elim))
  have NB := Lib.hid nB'
  have HD3 := Lib.hid hd3
  clear nB nB' kB k2 nG KA HD hd3
  have HW3 := Lib.hid hw3
  have HM := Lib.hid hM
  clear hw3 hM
  go_upto_region 3 with fail
  try rw [HW3.out]
  try rw [HM.out]
  clear HW3 HM
  go_wp2_with (first
    | (go_at_call 15; refine (dead_left n HD3.out).mono ?_; rintro e w' ⟨rfl, rfl⟩)
    | (go_at_call 46; refine (dead_auto n HD3.out).mono ?_; rintro e w' ⟨rfl, rfl⟩))
  refine (dead_next n gs ga go HD3.out).mono ?_
  rintro e w5 ⟨rfl, k5⟩
  have nC := NB.out.kept k5 (fun x => x)
  have y0 := nC.cell 0 rfl
  have y1 := nC.cell 1 rfl
  have y2 := nC.cell 2 rfl
  have heq := eq3
  have K5 := Lib.hid (K3.out.then k5 (fun _ x => x.elim))
  have HD5 := Lib.hid (HD3.out.kept k5)
  clear z0 z1 z2 nC k5 K3 HD3 NB NA
  go_wp2_with (first
    | (go_at_call 11; refine (dead_rel n a a HD5.out).mono ?_; rintro e w' ⟨rfl, rfl⟩)
    | (go_at_call 10; refine (dead_abs n a a HD5.out).mono ?_; rintro e w' ⟨rfl, rfl⟩)
    | (go_at_call 12; refine (dead_cancel n HD5.out).mono ?_; rintro e w' ⟨rfl, rfl⟩)
    | (go_at_call 24; refine (dead_counters HD5.out).mono ?_; rintro e w' ⟨rfl, rfl⟩)
    | (go_at_call 52; refine (dead_alarms HD5.out).mono ?_; rintro e w' ⟨rfl, rfl⟩)
    | (go_at_call 13; refine (dead_request n HD5.out).mono ?_; rintro e w' ⟨rfl, rfl⟩)
    | (go_at_call 53; refine (dead_requested HD5.out).mono ?_; rintro e w' ⟨rfl, rfl⟩)
    | (go_at_call 14; refine (dead_serve n HD5.out).mono ?_; rintro e w' ⟨rfl, rfl⟩)
    | (go_at_call 19; refine (dead_calm HD5.out).mono ?_; rintro e w' ⟨rfl, rfl⟩)
    | (go_at_call 17; refine (dead_copy HD5.out).mono ?_; rintro e w' ⟨rfl, rfl⟩))
  go_ret
  exact ⟨rfl, K5.out⟩
end Go.Proofs.Ytemhfonneggneaa.BD
