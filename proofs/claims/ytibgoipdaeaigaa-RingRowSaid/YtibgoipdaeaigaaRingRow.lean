/- The statement RingRow: for every room, every list of things and every list of takes the law answers true and its arguments read as before. No conditions. -/
import Derived.Test.YtibgoipdaeaigaaRingRowW
import Derived.Test.YtibgoipdaeaigaaArgs
import Derived.Test.YtibgoipdaeaigaaRows
namespace Go.Proofs.Ytibgoipdaeaigaa.ringRow
open Go.ChangeShapes Go.WideShapes Go.ChangeAt Go.RowKit Go.Fr
open Go.ChangeMaps (open_string shut_string)
set_option linter.unusedVariables false

theorem own : ownKnob Try.prog.godebug = none := by kernel_rfl
theorem laidOut : laidOutB Try.prog = true := by kernel_rfl

set_option maxRecDepth 100000 in
set_option maxHeartbeats 1000000 in
theorem lifted (os : Os) (started : os.Started) (H : Type) (enc : TypeId × Value → H) :
    ReturnsInHanded {} Try.checked os 5 .any (Rows.ringRowSpec.pre6 enc Try.prog Try.f5 Rows.ringRowRow.domain false) (Rows.ringRowSpec.post enc Try.prog Try.f5 false true false false) := by
  refine returnsInHanded_of_change_sized (C := Try.checked) own started (by kernel_rfl) Try.func5
    (ChangeSpec.witness6 (enc := enc) (C := Try.checked) false ⟨#[], #[.int .u8 0, .slice none 0 0, .slice none 0 0], []⟩ 8 (by kernel_rfl) (by kernel_rfl) (by kernel_rfl) (by kernel_rfl)) ?_
  intro W base args ds gs before hval0 hW hcnd hsz0 _
  have hsz : (DataW.weightsEach Try.prog (Try.f5.params.toList ++ Rows.ringRowSpec.plain.varTypes Try.prog) (ds ++ gs)).all (· ≤ reachBytes) = true := hsz0
  clear hsz0
  have hval : ∀ (j : Nat) t v, Try.f5.params[j]? = some t → args[j]? = some v → Value.okWide Try.prog W .any base t v := hval0
  have hW' := hW
  obtain ⟨p, q, hA0, hV, rfl, hfz, hnd⟩ := hW
  have hA : DataW.TrodAll enc Try.prog W 0 (fun _ => true) true Try.f5.params.toList args.toList ds p := hA0
  rw [Try.params5] at hA hval hsz
  obtain ⟨v0, vs0, d0, ds0, p0, q0, hargs, rfl, rfl, h0, r0⟩ := trodAll_cons hA
  obtain ⟨v1, vs1, d1, ds1, p1, q1, rfl, rfl, rfl, h1, r1⟩ := trodAll_cons r0
  obtain ⟨v2, vs2, d2, ds2, p2, q2, rfl, rfl, rfl, h2, r2⟩ := trodAll_cons r1
  obtain ⟨rfl, rfl, rfl⟩ := trodAll_nil r2
  obtain rfl : args = #[v0, v1, v2] := by cases args; simp_all
  obtain ⟨rfl, rfl⟩ := trodVars_none hV
  obtain ⟨a0, rfl, rfl, rfl, w0⟩ := open_int Try.underlying5 (hval 0 5 v0 rfl rfl) h0
  obtain ⟨a1, len1, cap1, rfl⟩ := okWide_slice Try.underlying35 (hval 1 35 v1 rfl rfl)
  have k1 := h1
  have lt1 : ∀ x ∈ p1, x.block < W.heap.size := by obtain ⟨m, hm⟩ := k1; exact DataW.trod_lt m _ _ _ hm
  obtain ⟨fuel1, hf1⟩ := h1
  obtain ⟨⟨g1, hg1, hR1⟩, hl1, hm1⟩ := came_of Try.underlying35 (sz := 1) (by kernel_rfl) (by decide) hf1 _ (elem_int Try.underlying3)
  obtain ⟨l1, rfl, hc1, hw1⟩ := hg1.list (α := Int) (encK .i64) (fun x => (Lit.int .i64 x).wf = true) (by simpa [encK] using hR1)
  have hr1 : l1.length * 8 ≤ 140737488351232 := by
    have hb : Try.prog.bytesOf 3 = 8 := by kernel_rfl
    have := came_reach (j := 1) Try.underlying35 hf1 hsz rfl rfl
    rwa [hb] at this
  obtain ⟨a2, len2, cap2, rfl⟩ := okWide_slice Try.underlying52 (hval 2 52 v2 rfl rfl)
  have k2 := h2
  have lt2 : ∀ x ∈ p2, x.block < W.heap.size := by obtain ⟨m, hm⟩ := k2; exact DataW.trod_lt m _ _ _ hm
  obtain ⟨fuel2, hf2⟩ := h2
  obtain ⟨⟨g2, hg2, hR2⟩, hl2, hm2⟩ := came_of Try.underlying52 (sz := 1) (by kernel_rfl) (by decide) hf2 _ (elem_bool Try.underlying4)
  obtain ⟨l2, rfl, hc2, hw2⟩ := hg2.list (α := Bool) encB (fun _ => True) (by simpa [encB] using hR2)
  have hr2 : l2.length * 1 ≤ 140737488351232 := by
    have hb : Try.prog.bytesOf 4 = 1 := by kernel_rfl
    have := came_reach (j := 2) Try.underlying52 hf2 hsz rfl rfl
    rwa [hb] at this
  clear hA0 hval0
  refine (ringRowW.walk W a0 w0 a1 cap1 l1 hl1 hm1 hc1 hw1 hr1 a2 cap2 l2 hl2 hm2 hc2 hw2 hr2).mono fun e W' ⟨he, bel⟩ => ?_
  subst he
  exact ⟨_, rfl, _, _, _, [], _, [], hW', trodAll_mk1 (shut_bool Try.underlying4 _), (trodAll_cons_mk (shut_int Try.underlying5 w0) (trodAll_cons_mk (Below.trod laidOut (by kernel_rfl) (of_decide_eq_true (by kernel_rfl)) k1 bel lt1) (trodAll_cons_mk (Below.trod laidOut (by kernel_rfl) (of_decide_eq_true (by kernel_rfl)) k2 bel lt2) trodAll_mk0))), rfl, bel.frame _, fun h => by cases h⟩

theorem over : Rows.ringRowRow.holds Try.pinned (OpenSpec.ofChange Rows.ringRowSpec) :=
  OpenClaim.holds_of_wide 5 Try.f5 rfl rfl rfl rfl rfl rfl rfl ⟨rfl, rfl, rfl, rfl, rfl⟩ rfl rfl rfl rfl rfl (by kernel_rfl) Try.func5 (by kernel_rfl)
    (of_decide_eq_true (by kernel_rfl)) (by unfold Func.isWrapper; first | (rw [if_pos (by decide +kernel)]; kernel_rfl) | (rw [if_neg (by decide +kernel)]; exact ⟨rfl, rfl⟩))
    (fun os started H enc _ => lifted os started H enc)

theorem proved : Rows.RingRowSaid := over
#print axioms proved
end Go.Proofs.Ytibgoipdaeaigaa.ringRow
