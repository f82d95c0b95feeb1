/- lock.Lock: Held. -/
import Derived.Test.YtnfpiocjdhipcaaLkF
import Derived.Test.YtnfpiocjdhipcaaLkG
import Derived.Test.YtnfpiocjdhipcaaLkR
namespace Go.Proofs.Ytnfpiocjdhipcaa.LK
open Go.RowKit Go.Fr Go.Tb Go.Shelf
attribute [local go_sem] Oper.semAt_some

section
variable {w w' : World} {b : Nat} {M : Lm} {T : Tb} {L : List Take} {In : List Bool} {G : Gt} {S : Nat → Prop} {o : Ow} {r : Int}
/-- what an owner's pointer holds -/
theorem IsLk.holds (h : IsLk w b M T L In G) (ho : okO o) : ∃ pv : Option Addr, SI.Holds w pv (heldL L o) ∧ ∀ wz, IsMap wz ekO evP M.hb M.H → (Instr.lookup 70 (.map (some M.hb)) (ekO o) false).run Try.prog wz = .ok (.pointer pv) wz := by
  obtain ⟨pv, hpv, hl⟩ := h.stkLook ho
  refine ⟨pv, ?_, hl⟩
  rcases hpv with ⟨s, hs, rfl⟩ | ⟨hn, rfl⟩
  · exact Or.inl ⟨s.b, s.v, s.d, s.h, rfl, h.stk hs⟩
  · have := h.hat o
    rw [hn] at this
    exact Or.inr ⟨rfl, this⟩
set_option maxRecDepth 100000 in
set_option maxHeartbeats 8000000 in
theorem held_ok (h : IsLk w b M T L In G) (ho : okO o) : Calls Try.prog 12 #[.pointer (some ⟨b, 0, none⟩), ekO o] w fun e w' =>
    ∃ ao c, e = .returned (.slice ao (heldL L o).length c) ∧ Row w' 3 1 (.slice ao (heldL L o).length c) (heldL L o).length ((heldL L o).map (Value.int .i64)) ∧ (∀ g, (Value.slice ao (heldL L o).length c).ownBlock = some g → w.heap.size ≤ g) ∧ Kept (fun _ => False) w w' := by
  obtain ⟨oi, id⟩ := o
  obtain ⟨i0, hi, hz0, hz1, hz2⟩ := info_parts SI.info
  have k0 := (Kept.refl (fun _ => False) w).alloc (.cells #[.bool oi, .int .i64 id] 38)
  have nb := Blk.new w [.bool oi, .int .i64 id] 38
  have hL := h.same k0
  obtain ⟨w0, hw0⟩ : ∃ w0, w.alloc (.cells #[.bool oi, .int .i64 id] 38) = w0 := ⟨_, rfl⟩
  rw [hw0] at hL k0 nb
  obtain ⟨B, hB⟩ : ∃ B, w.heap.size = B := ⟨_, rfl⟩
  rw [hB] at nb
  have hma := made_ok hL
  have HO := Lib.hid ho
  have HB := Lib.hid hB
  clear h ho
  show Calls Try.prog 12 #[.pointer (some ⟨b, 0, none⟩), .agg #[.bool oi, .int .i64 id]] w _
  refine callsIn_wide (n := 8) |>.1 ?_
  refine callsIn_of_wp_marks Try.func12 rfl trivial ?_ rfl
  simp only [Try.ntmps12, List.size_toArray, List.length_cons, List.length_nil, Nat.reduceAdd, Nat.reduceSub, Array.replicate_succ, Array.replicate_zero, List.push_toArray, List.append_toArray, List.nil_append, List.cons_append]
  refine wpIn_wide.2 ?_
  go_upto_region 4 with (go_at_call 31; refine hma.mono ?_; rintro e w1 ⟨rfl, rfl⟩)
  have kO := (Kept.refl (fun _ => False) w0).alloc (.cells #[.slice none 0 0] 47)
  have bO := Blk.new w0 [.slice none 0 0] 47
  obtain ⟨w2, hw2⟩ : ∃ w2, w0.alloc (.cells #[.slice none 0 0] 47) = w2 := ⟨_, rfl⟩
  obtain ⟨O, hO⟩ : ∃ O, w0.heap.size = O := ⟨_, rfl⟩
  rw [hw2] at kO bO ⊢
  rw [hO] at bO
  simp only [hO]
  have hL2 := hL.same kO
  have nb2 := nb.kept kO (fun x => x)
  have hwO : w2.heap.size = O + 1 := by rw [← hw2, ← hO]; simp
  have hOB : w.heap.size ≤ O := by rw [← hO]; exact k0.size
  have K2 := Lib.hid (k0.then kO (fun _ x => x.elim))
  clear hma hL k0 nb kO hw2 hO hw0 hB
  obtain ⟨_, _, _, c3, _⟩ := hL2.cells
  have b0 := nb2.cell 0 rfl
  have b1 := nb2.cell 1 rfl
  obtain ⟨pv, hpv, hl⟩ := hL2.holds HO.out
  have l1 := hl w2.drew hL2.hm
  simp only [ekO] at l1
  clear hl
  go_still_tail 6, (by kernel_rfl)
  change wpList _ _ _ _ _ w2.drew
  go_wp2_with (go_at_call 32; refine (SI.all_any pv _).mono ?_; rintro e w' ⟨rfl, rfl⟩)
  have bN := (Blk.new w2 [.pointer pv] 84)
  rw [hwO] at bN
  have k3 := ((Kept.refl (fun _ => False) w2).alloc (.cells #[.pointer pv] 84)).drew
  have hz3 : (w2.alloc (.cells #[.pointer pv] 84)).drew.heap.size = O + 2 := by
    show (w2.alloc (.cells #[.pointer pv] 84)).heap.size = O + 2
    rw [World.size_alloc, hwO]
  have bN3 : Blk (w2.alloc (.cells #[.pointer pv] 84)).drew (O + 1) [.pointer pv] 84 := bN
  obtain ⟨w3, hw3⟩ : ∃ w3, (w2.alloc (.cells #[.pointer pv] 84)).drew = w3 := ⟨_, rfl⟩
  rw [hw3] at bN3 k3 hz3 ⊢
  have bO3 := bO.kept k3 (fun x => x)
  have hp3 := hpv.same k3
  have K3 : Kept (fun _ => False) w w3 := K2.out.then k3 (fun _ x => x.elim)
  have hlen := hpv.len
  obtain ⟨l, hl⟩ : ∃ l, heldL L (oi, id) = l := ⟨_, rfl⟩
  rw [hl] at hp3 hlen
  have HLE := Lib.hid hl
  clear l1 bN hw3 k3 bO hpv K2 nb2 b0 b1 c3 hL2 hl
  have hgs := ftBox_hangs (B := O) (n := w3.heap.size) (by omega)
  refine (wpIn_wide (n := 8)).1 ?_
  refine wpIn_rangeFunc_ownG rfl (by decide) (gf := 68) (lb := #[.pointer (some ⟨O + 1, 0, none⟩)]) rfl trivial (enters_of Try.func68 (by kernel_rfl) rfl)
    (SI.all_stops_any 7 (O + 1) pv l (ftBox O) w3 (by decide) ?hft (by omega) (bN3.cell 0 rfl) hp3) Keeps.trans ?hkb (Below.refl _ _) (fun _ => rfl)
    (fun pre W => (∃ ao c, Blk W O [.slice ao pre.length c] 47 ∧ Row W 3 1 (.slice ao pre.length c) pre.length (pre.map (Value.int .i64)) ∧ (∀ g, (Value.slice ao pre.length c).ownBlock = some g → O < g)) ∧ Kept (fun _ => False) w W ∧ w3.heap.size ≤ W.heap.size)
    (fun _ _ _ => False) ?hI (fun _ _ _ _ _ hs _ _ => hs) ?h0
    (fun x => { tmps := #[.pointer (some ⟨b, 0, none⟩), .agg #[.bool oi, .int .i64 id], undef, .pointer (some ⟨B, 0, none⟩), .slice none 0 0, .pointer (some ⟨O, 0, none⟩), .int .i64 x, .pointer (some ⟨b, 0, none⟩), .bool true, .bool false, .pointer (some ⟨b, 0, none⟩), .pointer (some ⟨b, 0, none⟩), .pointer (some ⟨b, 3, none⟩), .map (some M.hb), .agg #[.bool oi, .int .i64 id], .pointer pv, .func (.func 68) #[] #[.pointer (some ⟨O + 1, 0, none⟩)], .int .i64 x, undef, undef, undef, undef, undef, undef, undef], defers := [] }) ?assign ?body ?done ?stop
  case hft =>
    intro W' hW' k hk
    have := hgs.dep w3 W' (fun b hb => hW'.block b (hgs.low b hb)) k hk
    rcases this with rfl | ⟨v', hv', ho'⟩
    · omega
    · have h1 := bO3.cell 0 rfl
      rw [h1] at hv'
      cases hv'
      simp [Value.ownBlock] at ho'
  case hkb => exact fun W l o o' hl ho hc _ => keeps_putObj hgs W l o o' hl ho hc
  case hI =>
    rintro s W W' row ⟨⟨ao, c, h1, h2, h3⟩, h4, h5⟩ hg hr
    have hg' := hg.size
    exact ⟨⟨ao, c, h1.cells hg (fun r e => (hr r e).2), row_cells h2 hg (fun r e => (hr r e).2), h3⟩, h4.of_grown hg (n := w3.heap.size) (by omega) (fun r e => (hr r e).1), by omega⟩
  case h0 => exact ⟨⟨none, 0, bO3, World.ownsRow_nil _ _ _ _, by simp [Value.ownBlock]⟩, K3, Nat.le_refl _⟩
  case assign =>
    intro l x W K hK
    gi_wp2
    exact hK
  case body =>
    rintro l' pre x W ⟨⟨ao, c, h1, h2, h3⟩, h4, h5⟩ hlt
    have hc := h1.cell 0 rfl
    have hown : (Value.slice ao pre.length c).ownBlock ≠ some O := fun e => by have := h3 _ e; omega
    gi_wp2_with (gi_at_builtin; refine wpListIn_append_any rfl (.tmp 18) (.tmp 20) 47 rfl 3 i0 (.int .i64 0) 1 8 Try.underlying47 hi hz0 hz1 hz2 rfl (by decide) _ _ _ (pre.map (Value.int .i64)) rfl (row_alloc h2 _) _ 1 1 [.int .i64 x] rfl (shows_new _ [_] _ (by simp) rfl) (by simp [Value.oneCell']) (by unfold maxLen; omega) (by omega) ?_; intro ao' c' w1 r1 r2 r3; have hb1 := blk_after r2 (h1.alloc (.cells #[.int .i64 x] 3)) rfl hown; have hc1 := hb1.cell 0 rfl; have hf1 := hb1.frozen 0)
    rw [World.size_alloc] at r3
    obtain ⟨q1, q2, q3, q4, q5⟩ := box_round h1 h2 hown r1 r2 r3
    have hl : (pre ++ [x]).length = pre.length + 1 := by simp
    refine ⟨q5 _, q4, ⟨ao', c', ?_, ?_, fun g hg => ?_⟩, h4.then q3 (fun k hk => Or.inr ?_), by have := q3.size; omega⟩
    · rw [hl]; exact q1
    · rw [hl, List.map_append]; exact q2
    · rw [hl] at hg
      rcases r3 g hg with h | h
      · exact h3 g h
      · have := h4.size; omega
    · have hB' := HB.out
      rcases hk with rfl | ⟨v', hv', hk⟩
      · exact hOB
      · rw [h1.cell 0 rfl] at hv'
        cases hv'
        have := h3 k hk
        omega
  case done =>
    rintro D ys W hD rfl ⟨⟨ao, c, h1, h2, h3⟩, h4, h5⟩ hK
    rw [List.length_reverse] at h1 h2 h3
    have hc := h1.cell 0 rfl
    have hRV := Lib.hid (reverse_ok (l := l.reverse) (ao := ao) (c := c) (by rw [List.length_reverse]; exact h2) (by rw [List.length_reverse]; exact hlen))
    rw [List.length_reverse, List.reverse_reverse] at hRV
    have hOne : (Value.slice ao l.length c).ownBlock ≠ some O := fun e => by have := h3 _ e; omega
    gi_wp2
    go_wp2_with (go_at_call 35; refine hRV.out.mono ?_; rintro e w5 ⟨rfl, r5, k5⟩; have hc5 := (h1.kept k5 hOne).cell 0 rfl)
    have hDlt := (Array.getElem?_eq_some_iff.1 hK).1
    have hKD := (k5.block D hDlt (fun e => by
      obtain ⟨cs, t, f, hce⟩ := row_isCells h2 e
      rw [hK] at hce
      cases hce)).trans hK
    refine ⟨by simp, .inl ⟨_, _, rfl, run_takeDeferred hKD, ?_⟩⟩
    have hg := grownBy_putObj' w5 D (.deferred none)
    rw [HLE.out]
    refine ⟨_, results_tmp rfl _ _ _, ao, c, rfl, row_cells r5 hg (fun r e => by cases e; exact ⟨_, hKD, rfl⟩), fun g hg' => by have := h3 g hg'; omega, ?_⟩
    have hK5 : Kept (fun _ => False) w w5 := h4.then k5 (fun i hi => Or.inr (by have := h3 i hi; omega))
    exact hK5.of_grown hg (n := w3.heap.size) (by have := K3.size; omega) (fun r e => by cases e; exact hD)
  case stop =>
    rintro D c pre W _ _ h _
    exact h.elim
end
end Go.Proofs.Ytnfpiocjdhipcaa.LK
