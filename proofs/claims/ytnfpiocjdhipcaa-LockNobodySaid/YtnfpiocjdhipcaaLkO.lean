/- tappetlaw19: nobody. -/
import Derived.Test.YtnfpiocjdhipcaaLkN
namespace Go.Proofs.Ytnfpiocjdhipcaa.LK
open Go.RowKit Go.Fr Go.Tb Go.Shelf
attribute [local go_sem] Oper.semAt_some

section
variable {w w' : World} {pv : Option Addr}
def Nb (w : World) (f : Nat) (args : Array Value) (v : Value) : Prop := ∀ wz, Kept (fun _ => False) w wz → Calls Try.prog f args wz fun e w' => e = .returned v ∧ Kept (fun _ => False) w w'
theorem nb_of {f : Nat} {args : Array Value} {v : Value} (hz : Zero w pv) (h : ∀ wz, Zero wz pv → Calls Try.prog f args wz fun e w' => e = .returned v ∧ Kept (fun _ => False) wz w') : Hid (Nb w f args v) := fun wz k => by
  refine (h wz (hz.same k)).mono ?_
  rintro e w' ⟨rfl, k'⟩
  exact ⟨rfl, k.then k' (fun _ x => x.elim)⟩
theorem neqO (w : World) : (binOp .neq 38 (.agg #[.bool false, .int .i64 0]) (.agg #[.bool false, .int .i64 0])).run Try.prog w = .ok (.bool false) w := by kernel_rfl
theorem neqG (w : World) : (binOp .neq 40 (.agg #[.bool false, .int .i64 0, .int .i64 0]) (.agg #[.bool false, .int .i64 0, .int .i64 0])).run Try.prog w = .ok (.bool false) w := by kernel_rfl
set_option maxRecDepth 100000 in
set_option maxHeartbeats 8000000 in
theorem nobody_ok {oi gs : Bool} {id n ga go : Int} (hz : Zero w pv) : Calls Try.prog 20 #[.pointer pv, .agg #[.bool oi, .int .i64 id], .int .i64 n, .agg #[.bool gs, .int .i64 ga, .int .i64 go]] w fun e w' => e = .returned (.bool true) ∧ Kept (fun _ => False) w w' := by
  have hO := neqO
  have hG := neqG
  have k0 := ((Kept.refl (fun _ => False) w).alloc (.cells #[.bool oi, .int .i64 id] 38)).alloc (.cells #[.bool gs, .int .i64 ga, .int .i64 go] 40)
  have n1 := (Blk.new w [.bool oi, .int .i64 id] 38).alloc (.cells #[.bool gs, .int .i64 ga, .int .i64 go] 40)
  have n2 := Blk.new (w.alloc (.cells #[.bool oi, .int .i64 id] 38)) [.bool gs, .int .i64 ga, .int .i64 go] 40
  rw [World.size_alloc] at n2
  obtain ⟨w0, hw0⟩ : ∃ w0, (w.alloc (.cells #[.bool oi, .int .i64 id] 38)).alloc (.cells #[.bool gs, .int .i64 ga, .int .i64 go] 40) = w0 := ⟨_, rfl⟩
  rw [hw0] at k0 n1 n2
  obtain ⟨B, hB⟩ : ∃ B, w.heap.size = B := ⟨_, rfl⟩
  rw [hB] at n1 n2
  have hz0 := hz.same k0
  have H1 := nb_of hz0 (fun wz h => get_nb (oi := oi) (id := id) (n := n) h)
  have H2 := nb_of hz0 (fun wz h => rel_nb (oi := oi) (id := id) (n := n) h)
  have H3 := nb_of hz0 (fun wz h => drop_nb (oi := oi) (id := id) h)
  have H4 := nb_of hz0 (fun wz h => holder_nb (n := n) h)
  have H5 := nb_of hz0 (fun wz h => held_nb (oi := oi) (id := id) h)
  have H6 := nb_of hz0 (fun wz h => prio_nb (oi := oi) (id := id) h)
  have H7 := nb_of hz0 (fun wz h => has_nb (n := n) h)
  have H8 := nb_of hz0 (fun wz h => takes_nb (n := n) h)
  have H9 := nb_of hz0 (fun wz h => gate_nb h)
  have H10 := nb_of hz0 (fun wz h => copy_nb h)
  have H11 := nb_of hz0 (fun wz h => Enter_nb (n := n) h)
  have H12 := nb_of hz0 (fun wz h => Leave_nb (n := n) h)
  have H13 := nb_of hz0 (fun wz h => Close_nb h)
  have H14 := nb_of hz0 (fun wz h => Open_nb h)
  have H15 := nb_of hz0 (fun wz h => Suspend_nb (x := true) h)
  have H16 := nb_of hz0 (fun wz h => Resume_nb (x := false) h)
  have H17 := nb_of hz0 (fun wz h => Put_nb (gs := gs) (ga := ga) (go := go) h)
  have H18 := nb_of hz0 (fun wz h => reset_nb h)
  have kk := Kept.refl (fun _ => False) w0
  have K0 := Lib.hid k0
  have HN2 : Hid (∀ wz, Kept (fun _ => False) w0 wz → Blk wz (B + 1) [.bool gs, .int .i64 ga, .int .i64 go] 40) := fun wz k => n2.kept k (fun x => x)
  have HN1 : Hid (∀ wz, Kept (fun _ => False) w0 wz → Blk wz B [.bool oi, .int .i64 id] 38) := fun wz k => n1.kept k (fun x => x)
  have b0 := n1.cell 0 rfl
  have b1 := n1.cell 1 rfl
  clear hz hz0 n1 n2 k0
  go_enter Try.func20, Try.ntmps20
  go_upto_region 4 with (first
    | (go_at_call 11; refine (H1.out _ (by first | exact kk | exact kk.alloc _)).mono ?_; rintro e w1 ⟨rfl, kk⟩; have b0 := (HN1.out _ kk).cell 0 rfl; have b1 := (HN1.out _ kk).cell 1 rfl; have g0 := (HN2.out _ kk).cell 0 rfl; have g1 := (HN2.out _ kk).cell 1 rfl; have g2 := (HN2.out _ kk).cell 2 rfl)
    | (go_at_call 8; refine (H2.out _ (by first | exact kk | exact kk.alloc _)).mono ?_; rintro e w1 ⟨rfl, kk⟩; have b0 := (HN1.out _ kk).cell 0 rfl; have b1 := (HN1.out _ kk).cell 1 rfl; have g0 := (HN2.out _ kk).cell 0 rfl; have g1 := (HN2.out _ kk).cell 1 rfl; have g2 := (HN2.out _ kk).cell 2 rfl)
    | (go_at_call 25; refine (H3.out _ (by first | exact kk | exact kk.alloc _)).mono ?_; rintro e w1 ⟨rfl, kk⟩; have b0 := (HN1.out _ kk).cell 0 rfl; have b1 := (HN1.out _ kk).cell 1 rfl; have g0 := (HN2.out _ kk).cell 0 rfl; have g1 := (HN2.out _ kk).cell 1 rfl; have g2 := (HN2.out _ kk).cell 2 rfl))
  clear hw0
  go_upto_region 5 with (first
    | (go_at_call 13; refine (H4.out _ (by first | exact kk | exact kk.alloc _)).mono ?_; rintro e w1 ⟨rfl, kk⟩; have b0 := (HN1.out _ kk).cell 0 rfl; have b1 := (HN1.out _ kk).cell 1 rfl; have g0 := (HN2.out _ kk).cell 0 rfl; have g1 := (HN2.out _ kk).cell 1 rfl; have g2 := (HN2.out _ kk).cell 2 rfl))
  have kk := kk.alloc (.cells #[.bool false, .int .i64 0] 38)
  have nx := Blk.new w1 [.bool false, .int .i64 0] 38
  obtain ⟨w2, hw2⟩ : ∃ w2, w1.alloc (.cells #[.bool false, .int .i64 0] 38) = w2 := ⟨_, rfl⟩
  obtain ⟨X, hX⟩ : ∃ X, w1.heap.size = X := ⟨_, rfl⟩
  rw [hw2] at kk nx ⊢
  rw [hX] at nx
  simp only [hX]
  have x0 := nx.cell 0 rfl
  have x1 := nx.cell 1 rfl
  have b0 := (HN1.out _ kk).cell 0 rfl
  have b1 := (HN1.out _ kk).cell 1 rfl
  clear hw2 hX nx H1 H2 H3 H4
  go_upto_region 7 with (first
    | (go_at_call 12; refine (H5.out _ (by first | exact kk | exact kk.alloc _)).mono ?_; rintro e w1 ⟨rfl, kk⟩; have b0 := (HN1.out _ kk).cell 0 rfl; have b1 := (HN1.out _ kk).cell 1 rfl; have g0 := (HN2.out _ kk).cell 0 rfl; have g1 := (HN2.out _ kk).cell 1 rfl; have g2 := (HN2.out _ kk).cell 2 rfl)
    | (go_at_call 10; refine (H6.out _ (by first | exact kk | exact kk.alloc _)).mono ?_; rintro e w1 ⟨rfl, kk⟩; have b0 := (HN1.out _ kk).cell 0 rfl; have b1 := (HN1.out _ kk).cell 1 rfl; have g0 := (HN2.out _ kk).cell 0 rfl; have g1 := (HN2.out _ kk).cell 1 rfl; have g2 := (HN2.out _ kk).cell 2 rfl)
    | (go_at_call 56; refine (H7.out _ (by first | exact kk | exact kk.alloc _)).mono ?_; rintro e w1 ⟨rfl, kk⟩; have b0 := (HN1.out _ kk).cell 0 rfl; have b1 := (HN1.out _ kk).cell 1 rfl; have g0 := (HN2.out _ kk).cell 0 rfl; have g1 := (HN2.out _ kk).cell 1 rfl; have g2 := (HN2.out _ kk).cell 2 rfl)
    | (go_at_call 58; refine (H8.out _ (by first | exact kk | exact kk.alloc _)).mono ?_; rintro e w1 ⟨rfl, kk⟩; have b0 := (HN1.out _ kk).cell 0 rfl; have b1 := (HN1.out _ kk).cell 1 rfl; have g0 := (HN2.out _ kk).cell 0 rfl; have g1 := (HN2.out _ kk).cell 1 rfl; have g2 := (HN2.out _ kk).cell 2 rfl)
    | (go_at_call 60; refine (H9.out _ (by first | exact kk | exact kk.alloc _)).mono ?_; rintro e w1 ⟨rfl, kk⟩; have b0 := (HN1.out _ kk).cell 0 rfl; have b1 := (HN1.out _ kk).cell 1 rfl; have g0 := (HN2.out _ kk).cell 0 rfl; have g1 := (HN2.out _ kk).cell 1 rfl; have g2 := (HN2.out _ kk).cell 2 rfl)
    | (go_at_call 15; refine (H10.out _ (by first | exact kk | exact kk.alloc _)).mono ?_; rintro e w1 ⟨rfl, kk⟩; have b0 := (HN1.out _ kk).cell 0 rfl; have b1 := (HN1.out _ kk).cell 1 rfl; have g0 := (HN2.out _ kk).cell 0 rfl; have g1 := (HN2.out _ kk).cell 1 rfl; have g2 := (HN2.out _ kk).cell 2 rfl))
  clear x0 x1 H5 H6 H7 H8 H9 H10
  go_wp2_with (first
    | (go_at_call 9; refine (H11.out _ (by first | exact kk | exact kk.alloc _)).mono ?_; rintro e w1 ⟨rfl, kk⟩; have b0 := (HN1.out _ kk).cell 0 rfl; have b1 := (HN1.out _ kk).cell 1 rfl; have g0 := (HN2.out _ kk).cell 0 rfl; have g1 := (HN2.out _ kk).cell 1 rfl; have g2 := (HN2.out _ kk).cell 2 rfl)
    | (go_at_call 44; refine (H12.out _ (by first | exact kk | exact kk.alloc _)).mono ?_; rintro e w1 ⟨rfl, kk⟩; have b0 := (HN1.out _ kk).cell 0 rfl; have b1 := (HN1.out _ kk).cell 1 rfl; have g0 := (HN2.out _ kk).cell 0 rfl; have g1 := (HN2.out _ kk).cell 1 rfl; have g2 := (HN2.out _ kk).cell 2 rfl)
    | (go_at_call 17; refine (H13.out _ (by first | exact kk | exact kk.alloc _)).mono ?_; rintro e w1 ⟨rfl, kk⟩; have b0 := (HN1.out _ kk).cell 0 rfl; have b1 := (HN1.out _ kk).cell 1 rfl; have g0 := (HN2.out _ kk).cell 0 rfl; have g1 := (HN2.out _ kk).cell 1 rfl; have g2 := (HN2.out _ kk).cell 2 rfl)
    | (go_at_call 45; refine (H14.out _ (by first | exact kk | exact kk.alloc _)).mono ?_; rintro e w1 ⟨rfl, kk⟩; have b0 := (HN1.out _ kk).cell 0 rfl; have b1 := (HN1.out _ kk).cell 1 rfl; have g0 := (HN2.out _ kk).cell 0 rfl; have g1 := (HN2.out _ kk).cell 1 rfl; have g2 := (HN2.out _ kk).cell 2 rfl)
    | (go_at_call 47; refine (H15.out _ (by first | exact kk | exact kk.alloc _)).mono ?_; rintro e w1 ⟨rfl, kk⟩; have b0 := (HN1.out _ kk).cell 0 rfl; have b1 := (HN1.out _ kk).cell 1 rfl; have g0 := (HN2.out _ kk).cell 0 rfl; have g1 := (HN2.out _ kk).cell 1 rfl; have g2 := (HN2.out _ kk).cell 2 rfl)
    | (go_at_call 48; refine (H16.out _ (by first | exact kk | exact kk.alloc _)).mono ?_; rintro e w1 ⟨rfl, kk⟩; have b0 := (HN1.out _ kk).cell 0 rfl; have b1 := (HN1.out _ kk).cell 1 rfl; have g0 := (HN2.out _ kk).cell 0 rfl; have g1 := (HN2.out _ kk).cell 1 rfl; have g2 := (HN2.out _ kk).cell 2 rfl)
    | (go_at_call 49; refine (H17.out _ (by first | exact kk | exact kk.alloc _)).mono ?_; rintro e w1 ⟨rfl, kk⟩; have b0 := (HN1.out _ kk).cell 0 rfl; have b1 := (HN1.out _ kk).cell 1 rfl; have g0 := (HN2.out _ kk).cell 0 rfl; have g1 := (HN2.out _ kk).cell 1 rfl; have g2 := (HN2.out _ kk).cell 2 rfl)
    | (go_at_call 23; refine (H18.out _ (by first | exact kk | exact kk.alloc _)).mono ?_; rintro e w1 ⟨rfl, kk⟩; have b0 := (HN1.out _ kk).cell 0 rfl; have b1 := (HN1.out _ kk).cell 1 rfl; have g0 := (HN2.out _ kk).cell 0 rfl; have g1 := (HN2.out _ kk).cell 1 rfl; have g2 := (HN2.out _ kk).cell 2 rfl))
  go_ret
  exact ⟨rfl, K0.out.then kk (fun _ x => x.elim)⟩
end
end Go.Proofs.Ytnfpiocjdhipcaa.LK
