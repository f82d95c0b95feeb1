/- R1: a lock that no call made: the walk. -/
import Derived.Test.YtnfpiocjdhipcaaLkO
import Derived.Test.YtnfpiocjdhipcaaLkY
namespace Go.Proofs.Ytnfpiocjdhipcaa.lockNobodyW
open Go.RowKit Go.Fr Go.Proofs.Ytnfpiocjdhipcaa.LK

set_option maxRecDepth 100000 in
set_option maxHeartbeats 4000000 in
theorem walk (w : World) (os : Bool) (oid : Int) (_ : (Lit.int .i64 oid).wf = true) (n : Int) (_ : (Lit.int .i64 n).wf = true) (gs : Bool) (ga : Int) (_ : (Lit.int .i64 ga).wf = true) (go : Int) (_ : (Lit.int .i64 go).wf = true) :
    Calls Try.prog 5 #[.agg #[.bool os, .int .i64 oid], .int .i64 n, .agg #[.bool gs, .int .i64 ga, .int .i64 go]] w fun e w' => e = .returned (.bool true) ∧ Below w.heap.size w w' := by
  have k0 := ((Kept.refl (fun _ => False) w).alloc (.cells #[.bool os, .int .i64 oid] 38)).alloc (.cells #[.bool gs, .int .i64 ga, .int .i64 go] 40)
  have n1 := (Blk.new w [.bool os, .int .i64 oid] 38).alloc (.cells #[.bool gs, .int .i64 ga, .int .i64 go] 40)
  have n2 := Blk.new (w.alloc (.cells #[.bool os, .int .i64 oid] 38)) [.bool gs, .int .i64 ga, .int .i64 go] 40
  rw [World.size_alloc] at n2
  obtain ⟨w0, hw0⟩ : ∃ w0, (w.alloc (.cells #[.bool os, .int .i64 oid] 38)).alloc (.cells #[.bool gs, .int .i64 ga, .int .i64 go] 40) = w0 := ⟨_, rfl⟩
  rw [hw0] at k0 n1 n2
  obtain ⟨B, hB⟩ : ∃ B, w.heap.size = B := ⟨_, rfl⟩
  rw [hB] at n1 n2
  have HN1 : Hid (∀ wz, Kept (fun _ => False) w0 wz → Blk wz B [.bool os, .int .i64 oid] 38) := fun wz k => n1.kept k (fun x => x)
  have HN2 : Hid (∀ wz, Kept (fun _ => False) w0 wz → Blk wz (B + 1) [.bool gs, .int .i64 ga, .int .i64 go] 40) := fun wz k => n2.kept k (fun x => x)
  have b0 := n1.cell 0 rfl
  have b1 := n1.cell 1 rfl
  have g0 := n2.cell 0 rfl
  have g1 := n2.cell 1 rfl
  have g2 := n2.cell 2 rfl
  have K0 := Lib.hid k0
  have H1 := Lib.hid (nobody_ok (w := w0) (pv := none) (oi := os) (id := oid) (n := n) (gs := gs) (ga := ga) (go := go) (Or.inl rfl))
  clear n1 n2 k0
  go_enter Try.func5, Try.ntmps5
  go_wp2_with (first
    | (go_at_call 20; refine H1.out.mono ?_; rintro e w1 ⟨rfl, k1⟩
       have nz := Blk.new w1 [.map none, .slice none 0 0, .slice none 0 0, .map none, .map none, .map none, .bool false, .int .i64 0, .int .i64 0] 74
       have kz := k1.alloc (.cells #[.map none, .slice none 0 0, .slice none 0 0, .map none, .map none, .map none, .bool false, .int .i64 0, .int .i64 0] 74)
       have H2 := Lib.hid (nobody_ok (pv := some ⟨w1.heap.size, 0, none⟩) (oi := os) (id := oid) (n := n) (gs := gs) (ga := ga) (go := go) (Or.inr ⟨_, rfl, nz⟩))
       have b0 := (HN1.out _ kz).cell 0 rfl
       have b1 := (HN1.out _ kz).cell 1 rfl
       have g0 := (HN2.out _ kz).cell 0 rfl
       have g1 := (HN2.out _ kz).cell 1 rfl
       have g2 := (HN2.out _ kz).cell 2 rfl
       clear H1)
    | (go_at_call 20; refine H2.out.mono ?_; rintro e w2 ⟨rfl, k2⟩)
    | (go_at_call 7; refine (heads_ok _).mono ?_; rintro e w3 ⟨rfl, k3⟩))
  go_ret
  exact ⟨rfl, (((K0.out.then kz (fun _ x => x.elim)).then k2 (fun _ x => x.elim)).then k3 (fun _ x => x.elim)).below (Nat.le_refl _) (fun _ h => h.elim)⟩
end Go.Proofs.Ytnfpiocjdhipcaa.lockNobodyW
