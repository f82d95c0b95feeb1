/- R1, the walk: a board that New did not give. -/
import Derived.Test.YtemhfonneggneaaBdE
import Derived.Test.YtemhfonneggneaaBdH
namespace Go.Proofs.Ytemhfonneggneaa.tickNobodyW
open Go.RowKit Go.Fr Go.Tb Go.Proofs.Ytemhfonneggneaa.BD

set_option maxRecDepth 100000 in
set_option maxHeartbeats 4000000 in
theorem walk (w : World) (n : Int) (wn : (Lit.int .i64 n).wf = true) (a : Int) (wa : (Lit.int .u32 a).wf = true) (gs : Bool) (ga : Int) (wga : (Lit.int .i64 ga).wf = true) (go : Int) (wgo : (Lit.int .i64 go).wf = true) :
    Calls Try.prog 5 #[.int .i64 n, .int .u32 a, .agg #[.bool gs, .int .i64 ga, .int .i64 go]] w fun e w' => e = .returned (.bool true) ∧ Below w.heap.size w w' := by
  have kA := (Kept.refl (fun _ => False) w).alloc (.cells #[.bool gs, .int .i64 ga, .int .i64 go] 46)
  have nA := Blk.new w [.bool gs, .int .i64 ga, .int .i64 go] 46
  obtain ⟨w1, hw1⟩ : ∃ w1, w.alloc (.cells #[.bool gs, .int .i64 ga, .int .i64 go] 46) = w1 := ⟨_, rfl⟩
  obtain ⟨N, hN⟩ : ∃ N, w.heap.size = N := ⟨_, rfl⟩
  rw [hw1] at kA
  have nA' : Blk w1 N [.bool gs, .int .i64 ga, .int .i64 go] 46 := by rw [← hw1, ← hN]; exact nA
  have KA := Lib.hid kA
  have NA := Lib.hid nA'
  clear nA nA' kA wn wa wga wgo
  go_enter Try.func5, Try.ntmps5
  go_upto_region 1 with fail
  try rw [hw1]
  try rw [hN]
  have HN := Lib.hid hN
  clear hw1 hN
  have z0 := NA.out.cell 0 rfl
  have z1 := NA.out.cell 1 rfl
  have z2 := NA.out.cell 2 rfl
  go_wp2_with fail
  refine (dead_all n a gs ga go (Or.inl rfl)).mono ?_
  rintro e w2 ⟨rfl, k2⟩
  have hA2 := NA.out.kept k2 (fun x => x)
  have kB := k2.alloc (.cells Z 68)
  have hZ : DeadB (w2.alloc (.cells Z 68)) (some ⟨w2.heap.size, 0, none⟩) := Or.inr ⟨_, rfl, by
    have nz : Blk (w2.alloc (.cells Z 68)) w2.heap.size Z.toList 68 := Blk.new w2 Z.toList 68
    exact nz.cell 38 (by kernel_rfl)⟩
  have hA3 := hA2.alloc (.cells Z 68)
  have hzr := z_run
  have hzs := z_size
  have hzn := z_ne
  obtain ⟨Z0, hZ0⟩ : ∃ Z0, Z = Z0 := ⟨_, rfl⟩
  rw [hZ0] at hZ hA3 kB hzs hzn
  simp only [hZ0] at hzr
  have K3 := Lib.hid (KA.out.then kB (fun _ x => x.elim))
  have HZ := Lib.hid hZ
  have z0 := hA3.cell 0 rfl
  have z1 := hA3.cell 1 rfl
  have z2 := hA3.cell 2 rfl
  clear hA2 hA3 kB k2 hZ hZ0 KA NA
  go_wp2_with fail
  refine (dead_all n a gs ga go HZ.out).mono ?_
  rintro e w3 ⟨rfl, k3⟩
  have K4 := Lib.hid (K3.out.then k3 (fun _ x => x.elim))
  clear K3 k3 HZ z0 z1 z2
  go_wp2_with fail
  refine (heads_ok _).mono ?_
  rintro e w4 ⟨rfl, k4⟩
  have K5 := Lib.hid (K4.out.then k4 (fun _ x => x.elim))
  clear k4 K4
  go_wp2_with fail
  go_ret
  exact ⟨rfl, K5.out.below (Nat.le_refl _) (fun _ h => h.elim)⟩
end Go.Proofs.Ytemhfonneggneaa.tickNobodyW
