/- lock.Lock: Release. -/
import Derived.Test.YtnfpiocjdhipcaaLkE
namespace Go.Proofs.Ytnfpiocjdhipcaa.LK
open Go.RowKit Go.Fr Go.Tb
attribute [local go_sem] Oper.semAt_some

section
variable {w w' : World} {b : Nat} {M : Lm} {T : Tb} {L : List Take} {In : List Bool} {G : Gt} {S : Nat → Prop} {o : Ow} {r : Int}
set_option maxRecDepth 100000 in
set_option maxHeartbeats 8000000 in
theorem rel_no (h : IsLk w b M T L In G) (ho : okO o) (hk : knownT T o r = false) : Calls Try.prog 8 #[.pointer (some ⟨b, 0, none⟩), ekO o, .int .i64 r] w fun e w' => e = .returned (.int .i64 3) ∧ Kept (fun _ => False) w w' := by
  obtain ⟨oi, id⟩ := o
  have k0 := (Kept.refl (fun _ => False) w).alloc (.cells #[.bool oi, .int .i64 id] 38)
  have nb := Blk.new w [.bool oi, .int .i64 id] 38
  have hL := h.same k0
  obtain ⟨w0, hw0⟩ : ∃ w0, w.alloc (.cells #[.bool oi, .int .i64 id] 38) = w0 := ⟨_, rfl⟩
  rw [hw0] at hL k0 nb
  obtain ⟨B, hB⟩ : ∃ B, w.heap.size = B := ⟨_, rfl⟩
  rw [hB] at nb
  have b0 := nb.cell 0 rfl
  have b1 := nb.cell 1 rfl
  have hkn := known_ok hL ho r
  rw [hk] at hkn
  simp only [ekO] at hkn
  have K0 := Lib.hid k0
  clear nb hL k0 hk h ho
  show Calls Try.prog 8 #[.pointer (some ⟨b, 0, none⟩), .agg #[.bool oi, .int .i64 id], .int .i64 r] w _
  go_enter Try.func8, Try.ntmps8
  go_wp2_with (go_at_call 26; refine hkn.mono ?_; rintro e w1 ⟨rfl, k1⟩)
  go_ret
  exact ⟨rfl, K0.out.then k1 (fun _ x => x.elim)⟩
set_option maxRecDepth 100000 in
set_option maxHeartbeats 8000000 in
theorem rel_yes {x : RowR} (h : IsLk w b M T L In G) (ho : okO o) (hr : I64 r) (hk : knownT T o r = true) (hx : rowT T o = some x) : Calls Try.prog 8 #[.pointer (some ⟨b, 0, none⟩), ekO o, .int .i64 r] w fun e w' =>
    e = .returned (.int .i64 (if (heldL L o).getLast? = some r then 0 else 5)) ∧ Lt w w' b M T (if (heldL L o).getLast? = some r then unL L r else L) In G := by
  obtain ⟨oi, id⟩ := o
  obtain ⟨z, hz⟩ : ∃ z : Int, (if (heldL L (oi, id)).getLast? = some r then 0 else 5) = z := ⟨_, rfl⟩
  obtain ⟨L2, hL2⟩ : ∃ L2, (if (heldL L (oi, id)).getLast? = some r then unL L r else L) = L2 := ⟨_, rfl⟩
  rw [hz, hL2]
  have k0 := (Kept.refl (fun _ => False) w).alloc (.cells #[.bool oi, .int .i64 id] 38)
  have nb := Blk.new w [.bool oi, .int .i64 id] 38
  have hL := h.same k0
  have hBm := lmut_lt h rfl
  obtain ⟨w0, hw0⟩ : ∃ w0, w.alloc (.cells #[.bool oi, .int .i64 id] 38) = w0 := ⟨_, rfl⟩
  rw [hw0] at hL k0 nb
  obtain ⟨B, hB⟩ : ∃ B, w.heap.size = B := ⟨_, rfl⟩
  rw [hB] at nb hBm
  have b0 := nb.cell 0 rfl
  have b1 := nb.cell 1 rfl
  have hkn := known_ok hL ho r
  rw [hk] at hkn
  simp only [ekO] at hkn
  have HX := Lib.hid hx
  have HR := Lib.hid hr
  have HO := Lib.hid ho
  have HZ := Lib.hid hz
  have HL2 := Lib.hid hL2
  clear hz hL2
  clear hk hr hx ho h
  show Calls Try.prog 8 #[.pointer (some ⟨b, 0, none⟩), .agg #[.bool oi, .int .i64 id], .int .i64 r] w _
  go_enter Try.func8, Try.ntmps8
  go_upto_region 3 with (go_at_call 26; refine hkn.mono ?_; rintro e w1 ⟨rfl, k1⟩)
  have hL1 := hL.same k1
  have nb1 := nb.kept k1 (fun x => x)
  have K1 := Lib.hid (k0.then k1 (fun _ x => x.elim))
  clear b0 b1 hkn nb hL k0 k1 hw0 hB
  have b0 := nb1.cell 0 rfl
  have b1 := nb1.cell 1 rfl
  have hso := stackOf_ok hL1 HO.out HX.out
  simp only [ekO] at hso
  clear hL1
  go_upto_region 4 with (go_at_call 27; refine hso.mono ?_; rintro e w5 ⟨M', s, rfl, hL5, hs5, hO5, hA5, k5, hn5⟩)
  clear b0 b1 hso nb1
  have hstk := hL5.stk hs5
  have HL5 := Lib.hid hL5
  have HW : Hid (∀ {L' : List Take} {wf : World}, Lt w5 wf b M' T L' In G → Lt w wf b M T L' In G) := fun {L' wf} ht => by
    obtain ⟨M2, g1, g2, g3, g4⟩ := Lt.after hA5 k5 hn5 ht
    exact ⟨M2, g1, g2, (K1.out.mono (fun _ _ x => x.elim)).then g3 (fun i hi => Or.inl hi), fun g hg => (g4 g hg).imp (fun h1 => h1) (fun h1 => Nat.le_trans K1.out.size h1)⟩
  clear hL5 k5 hn5 hA5 hO5 K1
  rcases List.eq_nil_or_concat (heldL L (oi, id)) with hnil | ⟨m, x0, hcat⟩
  · rw [hnil] at hstk
    have hz := HZ.out
    have hL2 := HL2.out
    rw [hnil] at hz hL2
    simp only [List.getLast?_nil, reduceCtorEq, if_false] at hz hL2
    subst hz hL2
    have HT := Lib.hid (SI.top_none hstk)
    clear hstk
    go_wp2_with (go_at_call 28; refine HT.out.mono ?_; rintro e w6 ⟨rfl, rfl⟩)
    go_ret
    exact ⟨rfl, HW.out (Lt.same HL5.out (Kept.refl _ _))⟩
  · rw [List.concat_eq_append] at hcat
    rw [hcat] at hstk
    have HT := Lib.hid (SI.top_ok x0 hstk)
    by_cases hxr : x0 = r
    · subst hxr
      have hl : (heldL L (oi, id)).getLast? = some x0 := by rw [hcat]; simp
      have hz := HZ.out
      have hL2 := HL2.out
      rw [if_pos hl] at hz hL2
      subst hz hL2
      clear hstk
      go_upto_region 5 with (go_at_call 28; refine HT.out.mono ?_; rintro e w6 ⟨rfl, n6, rfl⟩)
      have hL6 := HL5.out.same ((Kept.refl (fun _ => False) w5).drewN n6)
      obtain ⟨w6, hw6⟩ : ∃ w6, w5.drewN n6 = w6 := ⟨_, rfl⟩
      rw [hw6] at hL6 ⊢
      have k6 : Kept (fun _ => False) w5 w6 := by rw [← hw6]; exact (Kept.refl _ _).drewN n6
      have hstk := hL6.stk hs5
      rw [hcat] at hstk
      have HPo := Lib.hid (SI.pop_ok x0 hstk)
      have HL6 := Lib.hid hL6
      have K6 := Lib.hid k6
      clear hw6 HT hstk hL6 k6 HL5
      go_upto_region 8 with (go_at_call 29; refine HPo.out.mono ?_; rintro e w7 ⟨rfl, v', hs7, hv7, k7⟩)
      have hd5 := HL6.out.hd _ s hs5
      have k7f : Kept (SI.foot s.b s.v) w6 w7 := k7.mono (fun g _ e => Or.inl e)
      have c4 := (HL6.out.blk.kept k7f (fun e => (hd5 _ e).1 rfl)).cell 4 (v := .map (some M'.ob)) rfl
      have om7 := HL6.out.om.kept k7f (fun e => (hd5 _ e).2.2.1 rfl)
      clear HPo
      go_wp2_with (at_delete; refine wpList_drop _ rfl _ _ _ _ rfl om7 keyI HL6.out.ook Try.underlying71 rfl x0 rfl HR.out ?_; intro w8 hm8 k8 _)
      go_ret
      refine ⟨rfl, HW.out ?_⟩
      have ht : Lt w6 w8 b M' T (unL L x0) In G := by
        refine HL6.out.turn HO.out hs5 (L' := unL L x0) (O' := delA M'.O x0) (l' := m) (inv_filter HL6.out.inv _) ?_ ?_ (del_ok HL6.out.ook) hs7 k7f ?_ hm8 k8
        · intro p
          rw [held_un HL6.out.inv.nd hl]
          by_cases e : ((oi, id) : Ow) = p
          · rw [if_pos e, if_pos e, ← e, hcat, List.dropLast_concat]
          · rw [if_neg e, if_neg e]
        · intro r'
          rw [getA_del, holdL_un, HL6.out.oat]
        · intro g hg
          rcases hg with e | e
          · exact Or.inl (Or.inl e)
          · exact Or.inl (Or.inr (by rw [← hv7]; exact e))
      exact Lt.after (Ag.refl M') (K6.out.mono (fun _ _ x => x.elim)) (fun g hg => Or.inl hg) ht
    · have hb : (x0 != r) = true := by simpa using hxr
      have hl : ¬ (heldL L (oi, id)).getLast? = some r := by rw [hcat]; simpa using hxr
      have hz := HZ.out
      have hL2 := HL2.out
      rw [if_neg hl] at hz hL2
      subst hz hL2
      clear hstk
      go_wp2_with (go_at_call 28; refine HT.out.mono ?_; rintro e w6 ⟨rfl, n6, rfl⟩)
      go_ret
      exact ⟨rfl, HW.out (Lt.same HL5.out ((Kept.refl _ _).drewN _))⟩
/-- Release -/
theorem rel_ok (h : IsLk w b M T L In G) (ho : okO o) (hr : I64 r) : Calls Try.prog 8 #[.pointer (some ⟨b, 0, none⟩), ekO o, .int .i64 r] w fun e w' =>
    e = .returned (.int .i64 (relL T L o r).1) ∧ Lt w w' b M T (relL T L o r).2 In G := by
  unfold relL
  cases hk : knownT T o r with
  | false =>
    refine (rel_no h ho hk).mono ?_
    rintro e w' ⟨rfl, k⟩
    exact ⟨rfl, Lt.same h k⟩
  | true =>
    cases hx : rowT T o with
    | none =>
      unfold knownT at hk
      rw [hx] at hk
      cases hk
    | some x =>
      refine (rel_yes h ho hr hk hx).mono ?_
      rintro e w' ⟨rfl, hl⟩
      by_cases hm : (heldL L o).getLast? = some r
      · rw [if_pos hm] at hl
        simp only [if_true]
        rw [if_pos hm, if_pos hm]
        exact ⟨rfl, hl⟩
      · rw [if_neg hm] at hl
        simp only [if_true]
        rw [if_neg hm, if_neg hm]
        exact ⟨rfl, hl⟩
end
end Go.Proofs.Ytnfpiocjdhipcaa.LK
