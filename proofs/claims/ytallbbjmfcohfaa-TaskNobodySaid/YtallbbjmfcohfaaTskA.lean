/- tappetlaw18: num, alive. -/
import Derived.Test.YtallbbjmfcohfaaTskN
namespace Go.Proofs.Ytallbbjmfcohfaa.TK
open Go.RowKit Go.Fr

theorem num_ok (n : Int) (w : World) : Calls Try.prog 9 #[.int .i64 n] w fun e w' => e = .returned (.int .i64 n) ∧ w = w' := by
  go_enter Try.func9, Try.ntmps9
  go_wp2
  go_ret
  exact ⟨rfl, rfl⟩

theorem came_two (w : World) (p q : Int × Bool) (t : TypeId) : CameL (w.alloc (.cells #[.int .i64 p.1, .bool p.2, .int .i64 q.1, .bool q.2] t)) 2 (encKB .i64) (some ⟨w.heap.size, 0, none⟩) [p, q] := by
  have hb := Blk.new w [.int .i64 p.1, .bool p.2, .int .i64 q.1, .bool q.2] t
  intro _
  refine ⟨_, _, rfl, hb.lt, ?_⟩
  rintro (_ | _ | k) x hx j u hu
  · cases hx
    rcases j with _ | _ | j
    · exact hb.cell 0 (by simpa [encKB] using hu)
    · exact hb.cell 1 (by simpa [encKB] using hu)
    · simp [encKB] at hu
  · cases hx
    rcases j with _ | _ | j
    · exact hb.cell 2 (by simpa [encKB] using hu)
    · exact hb.cell 3 (by simpa [encKB] using hu)
    · simp [encKB] at hu
  · simp at hx

theorem good_lt (rs : List (Int × Bool)) (h : rs.all goodR = true) : ∀ (j : Nat) (r : Int × Bool), j < rs.length → rs[j]? = some r → goodR r = true := fun _ r _ hr => List.all_eq_true.1 h r (List.mem_of_getElem? hr)

set_option maxRecDepth 100000 in
set_option maxHeartbeats 2000000 in
theorem alive_law (w : World) : Calls Try.prog 11 #[] w fun e w' => e = .returned (.bool true) ∧ Kept (fun _ => False) w w' := by
  have n0 := new_ok (some ⟨w.heap.size, 0, none⟩) 2 [(2, false), (1, true)] _ (by decide) (came_two w (2, false) (1, true) 29) (good_lt _ (by decide))
  have k0 := (Kept.refl (fun _ => False) w).alloc (.cells #[.int .i64 2, .bool false, .int .i64 1, .bool true] 29)
  have K0 := Lib.hid k0
  have N0 := Lib.hid n0
  clear k0 n0
  go_enter Try.func11, Try.ntmps11
  go_wp2_with fail
  refine N0.out.mono ?_
  rintro e w1 ⟨b, v, rfl, h1, hf, k1⟩
  have J1 := Lib.hid (K0.out.then k1 (fun _ h => h.elim))
  have HF := Lib.hid (fun i hi => Nat.le_trans (Nat.le_of_lt (by simp : w.heap.size < (w.alloc (.cells #[.int .i64 2, .bool false, .int .i64 1, .bool true] 29)).heap.size)) (hf i hi))
  clear k1 hf N0 K0
  change IsTk w1 b v (-1) [(2, false, 3, 0), (1, true, 3, 0)] at h1
  go_wp2_with (go_at_call 9; refine (num_ok _ _).mono ?_; rintro e w' ⟨rfl, rfl⟩)
  refine (act_new (k := 0) h1 rfl (by decide) (by decide) (by decide) rfl).mono ?_
  rintro e w2 ⟨rfl, h2, k2⟩
  go_wp2_with fail
  refine (act_more (k := 0) h2 rfl (by decide) (by decide) (by decide) (by decide)).mono ?_
  rintro e w3 ⟨rfl, h3, k3⟩
  go_wp2_with fail
  refine (act_full (k := 0) h3 rfl (by decide)).mono ?_
  rintro e w4 ⟨rfl, q, rfl⟩
  have h4 := h3.drewN q
  go_wp2_with fail
  refine (start_ok (k := 0) h4 rfl (by decide)).mono ?_
  rintro e w5 ⟨rfl, h5, k5⟩
  go_wp2_with fail
  refine (start_busy (k := 1) h5 rfl (by decide)).mono ?_
  rintro e w6 ⟨rfl, rfl⟩
  go_wp2_with fail
  refine (end_more (k := 0) h5 rfl (by decide) (by decide)).mono ?_
  rintro e w6 ⟨rfl, h6, k6⟩
  go_wp2_with (first
    | (go_at_call 9; refine (num_ok _ _).mono ?_; rintro e w' ⟨rfl, rfl⟩)
    | (go_at_call 20; refine (active_ok (k := 0) h6 rfl).mono ?_; rintro e w' ⟨rfl, rfl⟩)
    | (go_at_call 14; refine (running_ok h6).mono ?_; rintro e w' ⟨rfl, rfl⟩))
  go_ret
  refine ⟨rfl, ?_⟩
  have j := k2.then (k3.then ((Kept.refl _ _).drewN q |>.then (k5.then k6 (fun _ h => Or.inl h)) (fun _ h => Or.inl h)) (fun _ h => Or.inl h)) (fun _ h => Or.inl h)
  exact J1.out.then j (fun i hi => Or.inr (HF.out i hi))
end Go.Proofs.Ytallbbjmfcohfaa.TK
