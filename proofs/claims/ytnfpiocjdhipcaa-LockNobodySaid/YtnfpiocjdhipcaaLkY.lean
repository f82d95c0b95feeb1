/- lock.Lock beside blocks that stay; tappetlaw19: heads. -/
import Derived.Test.YtnfpiocjdhipcaaLkX
import Derived.Test.YtnfpiocjdhipcaaLkL
namespace Go.Proofs.Ytnfpiocjdhipcaa.LK
open Go.RowKit Go.Fr Go.Tb Go.Proofs.Ytnfpiocjdhipcaa.TC
attribute [local go_sem] Oper.semAt_some

/-- a lock; the blocks of F are none of its own -/
def Hv (F : Nat → Prop) (w : World) (b : Nat) (T : Tb) (L : List Take) (In : List Bool) (G : Gt) : Prop := ∃ M, IsLk w b M T L In G ∧ (∀ g, lmut b M g → ¬ F g) ∧ ∀ g, F g → g < w.heap.size
section
variable {F : Nat → Prop} {w w' : World} {b : Nat} {M : Lm} {T : Tb} {L L' : List Take} {In In' : List Bool} {G G' : Gt} {o : Ow} {r : Int}
theorem Hv.same (h : Hv F w b T L In G) (k : Kept (fun _ => False) w w') : Hv F w' b T L In G := by
  obtain ⟨M, h1, h2, h3⟩ := h
  exact ⟨M, h1.same k, h2, fun g hg => Nat.lt_of_lt_of_le (h3 g hg) k.size⟩
/-- a new block stays, too -/
theorem Hv.box (h : Hv F w b T L In G) (o : Obj) : Hv (fun g => F g ∨ g = w.heap.size) (w.alloc o) b T L In G := by
  obtain ⟨M, h1, h2, h3⟩ := h
  refine ⟨M, h1.same ((Kept.refl _ _).alloc _), fun g hg e => ?_, fun g hg => ?_⟩
  · rcases e with e | e
    · exact h2 g hg e
    · have := h1.mlt g hg; omega
  · rw [World.size_alloc]
    rcases hg with e | e
    · have := h3 g e; omega
    · omega
theorem Hv.turn (_ : IsLk w b M T L In G) (h2 : ∀ g, lmut b M g → ¬ F g) (h3 : ∀ g, F g → g < w.heap.size) (ht : Lt w w' b M T L' In' G') : Hv F w' b T L' In' G' ∧ Kept (fun g => ¬ F g) w w' := by
  obtain ⟨M', g1, _, g3, g4⟩ := ht
  exact ⟨⟨M', g1, fun g hg hF => by
    rcases g4 g hg with e | e
    · exact h2 g e hF
    · have := h3 g hF; omega, fun g hg => Nat.lt_of_lt_of_le (h3 g hg) g3.size⟩, g3.mono (fun g _ hg => h2 g hg)⟩
theorem hv_get (h : Hv F w b T L In G) (ho : okO o) (hr : I64 r) : Calls Try.prog 11 #[.pointer (some ⟨b, 0, none⟩), ekO o, .int .i64 r] w fun e w' =>
    e = .returned (.int .i64 (getL T L o r).1) ∧ Hv F w' b T (getL T L o r).2 In G ∧ Kept (fun g => ¬ F g) w w' := by
  obtain ⟨M, h1, h2, h3⟩ := h
  refine (get_ok h1 ho hr).mono ?_
  rintro e w' ⟨rfl, ht⟩
  exact ⟨rfl, Hv.turn h1 h2 h3 ht⟩
theorem hv_rel (h : Hv F w b T L In G) (ho : okO o) (hr : I64 r) : Calls Try.prog 8 #[.pointer (some ⟨b, 0, none⟩), ekO o, .int .i64 r] w fun e w' =>
    e = .returned (.int .i64 (relL T L o r).1) ∧ Hv F w' b T (relL T L o r).2 In G ∧ Kept (fun g => ¬ F g) w w' := by
  obtain ⟨M, h1, h2, h3⟩ := h
  refine (rel_ok h1 ho hr).mono ?_
  rintro e w' ⟨rfl, ht⟩
  exact ⟨rfl, Hv.turn h1 h2 h3 ht⟩
theorem hv_drop (h : Hv F w b T L In G) (ho : okO o) : Calls Try.prog 25 #[.pointer (some ⟨b, 0, none⟩), ekO o] w fun e w' =>
    e = .returned (.tuple #[.int .i64 ((heldL L o).getLast?.getD (-1)), .bool (heldL L o).getLast?.isSome]) ∧ Hv F w' b T (dropL L o) In G ∧ Kept (fun g => ¬ F g) w w' := by
  obtain ⟨M, h1, h2, h3⟩ := h
  refine (drop_ok h1 ho).mono ?_
  rintro e w' ⟨rfl, ht⟩
  exact ⟨rfl, Hv.turn h1 h2 h3 ht⟩
theorem hv_prio (h : Hv F w b T L In G) (ho : okO o) : Calls Try.prog 10 #[.pointer (some ⟨b, 0, none⟩), ekO o] w fun e w' =>
    e = .returned (.int .i64 (prioL T L In o)) ∧ Hv F w' b T L In G ∧ Kept (fun _ => False) w w' := by
  have hh := h
  obtain ⟨M, h1, h2, h3⟩ := h
  refine (prio_ok h1 ho).mono ?_
  rintro e w' ⟨rfl, k⟩
  exact ⟨rfl, hh.same k, k⟩
/-- New -/
theorem hv_new (hT : TabIn w T) (hW : T.Wf) (hic : T.isrs.length ≤ T.ic) (hF : ∀ g, F g → g < w.heap.size) :
    Calls Try.prog 6 #[.agg T.cells.toArray] w fun e w' => (¬ CheckP T ∧ e = .returned (.tuple #[.pointer none, .int .i64 190]) ∧ Kept (fun _ => False) w w') ∨
      (CheckP T ∧ ∃ b, e = .returned (.tuple #[.pointer (some ⟨b, 0, none⟩), .int .i64 0]) ∧ Hv F w' b T [] (List.replicate T.tasks.length false) (false, 0, 0) ∧ Kept (fun _ => False) w w') := by
  refine (new_ok hT hW hic).mono ?_
  rintro e w' (h | ⟨hc, b, M, rfl, hL, h1, h2, k⟩)
  · exact Or.inl h
  · exact Or.inr ⟨hc, b, rfl, ⟨M, hL, fun g hg hf => by have := h1 g hg; have := hF g hf; omega, fun g hg => Nat.lt_of_lt_of_le (hF g hg) k.size⟩, k⟩
end
set_option maxRecDepth 100000 in
set_option maxHeartbeats 8000000 in
theorem heads_ok (w : World) : Calls Try.prog 7 #[] w fun e w' => e = .returned (.bool true) ∧ Kept (fun _ => False) w w' := by
  go_enter Try.func7, Try.ntmps7
  go_wp2_with fail
  refine two_raw.mono ?_
  rintro e w1 ⟨o1, o2, ta, ra, ea, rfl, hT, k1⟩
  obtain ⟨T, hTe⟩ : ∃ T, twoT o1 o2 ta ra ea = T := ⟨_, rfl⟩
  have hWf := two_wf o1 o2 ta ra ea
  have hCk := two_check o1 o2 ta ra ea
  have hic : (twoT o1 o2 ta ra ea).isrs.length ≤ (twoT o1 o2 ta ra ea).ic := Nat.le_refl _
  have q1 : getL (twoT o1 o2 ta ra ea) [] (false, 0) 1 = (0, [((false, 0), 1)]) := by rfl
  have q2 : getL (twoT o1 o2 ta ra ea) [((false, 0), 1)] (false, 0) 0 = (0, [((false, 0), 1), ((false, 0), 0)]) := by rfl
  have q3 : getL (twoT o1 o2 ta ra ea) [((false, 0), 1), ((false, 0), 0)] (false, 1) 0 = (1, [((false, 0), 1), ((false, 0), 0)]) := by rfl
  have q4 : relL (twoT o1 o2 ta ra ea) [((false, 0), 1), ((false, 0), 0)] (false, 0) 1 = (5, [((false, 0), 1), ((false, 0), 0)]) := by rfl
  have q5 : prioL (twoT o1 o2 ta ra ea) [((false, 0), 1), ((false, 0), 0)] [false, false] (false, 0) = 3 := by rfl
  have q6 : prioL (twoT o1 o2 ta ra ea) [] [false, false] (false, 0) = 1 := by rfl
  have q7 : dropL [((false, 0), 1), ((false, 0), 0)] (false, 0) = [] := by rfl
  have q8 : heldL [((false, 0), 1), ((false, 0), 0)] (false, 0) = [1, 0] := by rfl
  have q9 : List.replicate (twoT o1 o2 ta ra ea).tasks.length false = [false, false] := rfl
  rw [hTe] at hT hWf hCk hic q1 q2 q3 q4 q5 q6 q9 ⊢
  have hnew := hv_new (F := fun g => g < w.heap.size) hT hWf hic (fun g hg => Nat.lt_of_lt_of_le hg k1.size)
  rw [q9] at hnew
  obtain ⟨Z, hZ⟩ : ∃ Z, T.cells.toArray = Z := ⟨_, rfl⟩
  rw [hZ] at hnew ⊢
  have K1 := Lib.hid k1
  have HCK := Lib.hid hCk
  clear hT hWf hCk hic hZ hTe k1
  go_upto_region 6 with (go_at_call 6; refine hnew.mono ?_; rintro e w2 hh; have HH := Lib.hid hh; clear hh; rcases HH.out with ⟨hn, _⟩ | ⟨_, b, rfl, hv, k2⟩; exact absurd HCK.out hn)
  have hv3 := (hv.box (.cells #[.bool false, .int .i64 0] 38)).box (.cells #[.bool false, .int .i64 1] 38)
  have n1 := (Blk.new w2 [.bool false, .int .i64 0] 38).alloc (.cells #[.bool false, .int .i64 1] 38)
  have n2 := Blk.new (w2.alloc (.cells #[.bool false, .int .i64 0] 38)) [.bool false, .int .i64 1] 38
  have k3 := ((Kept.refl (fun _ => False) w2).alloc (.cells #[.bool false, .int .i64 0] 38)).alloc (.cells #[.bool false, .int .i64 1] 38)
  rw [World.size_alloc] at hv3 n2
  obtain ⟨w3, hw3⟩ : ∃ w3, (w2.alloc (.cells #[.bool false, .int .i64 0] 38)).alloc (.cells #[.bool false, .int .i64 1] 38) = w3 := ⟨_, rfl⟩
  obtain ⟨X, hX⟩ : ∃ X, w2.heap.size = X := ⟨_, rfl⟩
  obtain ⟨F, hF⟩ : ∃ F : Nat → Prop, (fun g => (g < w.heap.size ∨ g = w2.heap.size) ∨ g = w2.heap.size + 1) = F := ⟨_, rfl⟩
  have FX : Hid (F X ∧ F (X + 1) ∧ ∀ g, g < w.heap.size → F g) := by
    rw [← hF, ← hX]
    exact ⟨Or.inl (Or.inr rfl), Or.inr rfl, fun g hg => Or.inl (Or.inl hg)⟩
  rw [hF] at hv3
  rw [hw3] at hv3 n1 n2 k3 ⊢
  rw [hX] at n1 n2
  simp only [hX]
  have K3 := Lib.hid ((K1.out.then k2 (fun _ x => x.elim)).then k3 (fun _ x => x.elim))
  have HN : Hid (∀ wz, Kept (fun g => ¬ F g) w3 wz → Blk wz X [.bool false, .int .i64 0] 38 ∧ Blk wz (X + 1) [.bool false, .int .i64 1] 38) := fun wz k => ⟨n1.kept k (fun e => e FX.out.1), n2.kept k (fun e => e FX.out.2.1)⟩
  have HV0 := Lib.hid hv3
  have kk := Kept.refl (fun g => ¬ F g) w3
  clear hv3 n1 n2 k3 hw3 hX hF hv k2 HH hnew K1
  have a0 := (HN.out _ kk).1.cell 0 rfl
  have a1 := (HN.out _ kk).1.cell 1 rfl
  have b0 := (HN.out _ kk).2.cell 0 rfl
  have b1 := (HN.out _ kk).2.cell 1 rfl
  have hc := hv_get (o := (false, 0)) (r := 1) HV0.out (by unfold okO I64; omega) (by unfold I64; omega)
  rw [q1] at hc
  simp only [ekO] at hc
  go_upto_region 7 with (go_at_call 11; refine hc.mono ?_; rintro e w4 ⟨rfl, hv4, k4⟩)
  have kk := kk.then (k4.mono (fun _ _ x => x)) (fun _ x => Or.inl x)
  have HV1 := Lib.hid hv4
  clear hc HV0 hv4 k4 a0 a1 b0 b1
  have a0 := (HN.out _ kk).1.cell 0 rfl
  have a1 := (HN.out _ kk).1.cell 1 rfl
  have b0 := (HN.out _ kk).2.cell 0 rfl
  have b1 := (HN.out _ kk).2.cell 1 rfl
  have hc := hv_get (o := (false, 0)) (r := 0) HV1.out (by unfold okO I64; omega) (by unfold I64; omega)
  rw [q2] at hc
  simp only [ekO] at hc
  go_upto_region 8 with (go_at_call 11; refine hc.mono ?_; rintro e w4 ⟨rfl, hv4, k4⟩)
  have kk := kk.then (k4.mono (fun _ _ x => x)) (fun _ x => Or.inl x)
  have HV2 := Lib.hid hv4
  clear hc HV1 hv4 k4 a0 a1 b0 b1
  have a0 := (HN.out _ kk).1.cell 0 rfl
  have a1 := (HN.out _ kk).1.cell 1 rfl
  have b0 := (HN.out _ kk).2.cell 0 rfl
  have b1 := (HN.out _ kk).2.cell 1 rfl
  have hc := hv_get (o := (false, 1)) (r := 0) HV2.out (by unfold okO I64; omega) (by unfold I64; omega)
  rw [q3] at hc
  simp only [ekO] at hc
  go_upto_region 9 with (go_at_call 11; refine hc.mono ?_; rintro e w4 ⟨rfl, hv4, k4⟩)
  have kk := kk.then (k4.mono (fun _ _ x => x)) (fun _ x => Or.inl x)
  have HV3 := Lib.hid hv4
  clear hc HV2 hv4 k4 a0 a1 b0 b1
  have a0 := (HN.out _ kk).1.cell 0 rfl
  have a1 := (HN.out _ kk).1.cell 1 rfl
  have b0 := (HN.out _ kk).2.cell 0 rfl
  have b1 := (HN.out _ kk).2.cell 1 rfl
  have hc := hv_rel (o := (false, 0)) (r := 1) HV3.out (by unfold okO I64; omega) (by unfold I64; omega)
  rw [q4] at hc
  simp only [ekO] at hc
  go_upto_region 10 with (go_at_call 8; refine hc.mono ?_; rintro e w4 ⟨rfl, hv4, k4⟩)
  have kk := kk.then (k4.mono (fun _ _ x => x)) (fun _ x => Or.inl x)
  have HV4 := Lib.hid hv4
  clear hc HV3 hv4 k4 a0 a1 b0 b1
  have a0 := (HN.out _ kk).1.cell 0 rfl
  have a1 := (HN.out _ kk).1.cell 1 rfl
  have b0 := (HN.out _ kk).2.cell 0 rfl
  have b1 := (HN.out _ kk).2.cell 1 rfl
  have hc := hv_prio (o := (false, 0)) HV4.out (by unfold okO I64; omega)
  rw [q5] at hc
  simp only [ekO] at hc
  go_upto_region 11 with (go_at_call 10; refine hc.mono ?_; rintro e w4 ⟨rfl, hv4, k4⟩)
  have kk := kk.then (k4.mono (fun _ _ x => x.elim)) (fun _ x => Or.inl x)
  have HV5 := Lib.hid hv4
  clear hc HV4 hv4 k4 a0 a1 b0 b1
  have a0 := (HN.out _ kk).1.cell 0 rfl
  have a1 := (HN.out _ kk).1.cell 1 rfl
  have b0 := (HN.out _ kk).2.cell 0 rfl
  have b1 := (HN.out _ kk).2.cell 1 rfl
  have hc := hv_drop (o := (false, 0)) HV5.out (by unfold okO I64; omega)
  rw [q7, q8] at hc
  simp only [ekO, List.getLast?_cons_cons, List.getLast?_singleton, Option.getD_some, Option.isSome_some] at hc
  go_upto_region 12 with (go_at_call 25; refine hc.mono ?_; rintro e w4 ⟨rfl, hv4, k4⟩)
  have kk := kk.then (k4.mono (fun _ _ x => x)) (fun _ x => Or.inl x)
  have HV6 := Lib.hid hv4
  clear hc HV5 hv4 k4 a0 a1 b0 b1
  have a0 := (HN.out _ kk).1.cell 0 rfl
  have a1 := (HN.out _ kk).1.cell 1 rfl
  have hc := hv_prio (o := (false, 0)) HV6.out (by unfold okO I64; omega)
  rw [q6] at hc
  simp only [ekO] at hc
  go_wp2_with (go_at_call 10; refine hc.mono ?_; rintro e w4 ⟨rfl, hv4, k4⟩)
  go_ret
  have kk := kk.then (k4.mono (fun _ _ x => x.elim)) (fun _ x => Or.inl x)
  exact ⟨rfl, K3.out.then (kk.mono (fun _ _ x => x)) (fun g hg => Or.inr (by
    rcases Nat.lt_or_ge g w.heap.size with h | h
    · exact absurd (FX.out.2.2 g h) hg
    · exact h))⟩
end Go.Proofs.Ytnfpiocjdhipcaa.LK
