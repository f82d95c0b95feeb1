/- lock.Lock: Drop, the walk. -/
import Derived.Test.YtnfpiocjdhipcaaLkJ
import Derived.Maps.OwnIn
namespace Go.Proofs.Ytnfpiocjdhipcaa.LK
open Go.RowKit Go.Fr Go.Tb Go.Shelf
attribute [local go_sem] Oper.semAt_some

section
variable {F : Fence} {nF : Nat} {κ ν : Type} [DecidableEq κ] {P : Program} {k e t : TypeId} {ek : κ → Value} {ev : ν → Value} {ok : κ → Prop} {b : Nat} {l : List (κ × ν)} (w : World) {ops : Array Oper} {rest : List Oper} {o : Oper} {a : Act} {Q : Exit → Act → World → Prop}
/-- 'delete(m, k)' inside a fence -/
theorem wpListIn_drop (hg : o.guard = none) (m y : Operand) (t k : TypeId) (hop : o.op = Op.call { callee := Callee.builtin Builtin.delete, args := #[m, y], argTypes := #[t, k] }) (h : IsMap w ek ev b l) (K : KeyOk κ P k ek ok) (hok : ∀ p ∈ l, ok p.1) (ht : P.underlying t = some (.map k e)) (hm : a.eval m = .map (some b)) (x : κ) (hy : a.eval y = ek x) (hx : ok x)
    (hK : ∀ w', IsMap w' ek ev b (delA l x) → Kept (fun g => g = b) w w' → w'.heap.size = w.heap.size → wpListIn F nF P ops Q rest (a.put o.dst (.tuple #[])) w') : wpListIn F nF P ops Q (o :: rest) a w := by
  refine wpListIn_plain hg fun K' hK' => ?_
  obtain ⟨w', hrun, r1, r2, r3⟩ := h.drop K hok ht hx o.type
  unfold Oper.wpIn
  refine ⟨by simp [Oper.about, hop, resolve, Target.leads, Sem.run_pure], ?_⟩
  rw [Oper.semAt_plain F _ _ (by rw [hop]; intro c hc'; cases hc')]
  simp [execOp, hop, resolve, invoke, builtin, hm, hy, hrun, Result.andThen]
  exact hK' _ _ (hK w' r1 r2 r3)
end
theorem drop_none {L : List Take} {o : Ow} (h : heldL L o = []) : dropL L o = L := by
  unfold dropL
  refine List.filter_eq_self.2 (fun t ht => ?_)
  have : t.1 ≠ o := fun e => by
    have hm : t.2 ∈ heldL L o := held_mem.2 (by rw [← e]; exact ht)
    rw [h] at hm
    cases hm
  simpa using this
section
variable {w w' : World} {b : Nat} {M : Lm} {T : Tb} {L : List Take} {In : List Bool} {G : Gt} {S : Nat → Prop} {o : Ow} {r : Int}
set_option maxRecDepth 100000 in
set_option maxHeartbeats 8000000 in
theorem drop_ok (h : IsLk w b M T L In G) (ho : okO o) : Calls Try.prog 25 #[.pointer (some ⟨b, 0, none⟩), ekO o] w fun e w' =>
    e = .returned (.tuple #[.int .i64 ((heldL L o).getLast?.getD (-1)), .bool (heldL L o).getLast?.isSome]) ∧ Lt w w' b M T (dropL L o) In G := by
  obtain ⟨oi, id⟩ := o
  have k0 := ((Kept.refl (fun _ => False) w).alloc (.cells #[.pointer (some ⟨b, 0, none⟩)] 32)).alloc (.cells #[.bool oi, .int .i64 id] 38)
  have na := (Blk.new w [.pointer (some ⟨b, 0, none⟩)] 32).alloc (.cells #[.bool oi, .int .i64 id] 38)
  have nb := Blk.new (w.alloc (.cells #[.pointer (some ⟨b, 0, none⟩)] 32)) [.bool oi, .int .i64 id] 38
  rw [World.size_alloc] at nb
  have hL := h.same k0
  obtain ⟨w0, hw0⟩ : ∃ w0, (w.alloc (.cells #[.pointer (some ⟨b, 0, none⟩)] 32)).alloc (.cells #[.bool oi, .int .i64 id] 38) = w0 := ⟨_, rfl⟩
  rw [hw0] at hL k0 nb na
  obtain ⟨B, hB⟩ : ∃ B, w.heap.size = B := ⟨_, rfl⟩
  rw [hB] at nb na
  have hma := made_ok hL
  have a0 := na.cell 0 rfl
  have b0 := nb.cell 0 rfl
  have b1 := nb.cell 1 rfl
  obtain ⟨_, _, _, c3, _⟩ := hL.cells
  obtain ⟨pv, hpv, hl⟩ := hL.holds ho
  have l1 : ∀ n, _ := fun n => hl (w0.drewN n) (hL.hm.kept ((Kept.refl (fun _ => False) w0).drewN n) (fun x => x))
  simp only [ekO] at l1
  have HT : Hid (∀ n, Calls Try.prog 28 #[.pointer pv] (w0.drewN n) fun e w' => e = .returned (.tuple #[.int .i64 ((heldL L (oi, id)).getLast?.getD 0), .bool (heldL L (oi, id)).getLast?.isSome]) ∧ ∃ m, w' = (w0.drewN n).drewN m) := fun n => top_any (hpv.same ((Kept.refl (fun _ => False) w0).drewN n))
  have HO := Lib.hid ho
  have HH := Lib.hid h
  clear h ho
  cases hlast : (heldL L (oi, id)).getLast? with
  | none =>
    rw [hlast] at HT
    simp only [Option.getD_none, Option.isSome_none] at HT ⊢
    have hnil : heldL L (oi, id) = [] := by simpa using hlast
    have HN := Lib.hid (drop_none hnil)
    have K0 := Lib.hid k0
    clear hlast hnil hl hpv hL na nb k0
    show Calls Try.prog 25 #[.pointer (some ⟨b, 0, none⟩), .agg #[.bool oi, .int .i64 id]] w _
    refine callsIn_wide (n := 8) |>.1 ?_
    refine callsIn_of_wp_marks Try.func25 rfl trivial ?_ rfl
    simp only [Try.ntmps25, List.size_toArray, List.length_cons, List.length_nil, Nat.reduceAdd, Nat.reduceSub, Array.replicate_succ, Array.replicate_zero, List.push_toArray, List.append_toArray, List.nil_append, List.cons_append]
    refine wpIn_wide.2 ?_
    go_upto_region 3 with (go_at_call 31; refine hma.mono ?_; rintro e w1 ⟨rfl, rfl⟩)
    go_quiet (first | (go_at_call 28; refine Calls.quiet_of (HT.out _)))
    go_wp2_with fail
    refine ⟨_, results_tmp2 rfl _ _ _, rfl, ?_⟩
    rw [HN.out]
    exact Lt.same HH.out (K0.out.drewN _)
  | some x0 =>
    rw [hlast] at HT
    simp only [Option.getD_some, Option.isSome_some] at HT ⊢
    have K0 := Lib.hid k0
    have NA := Lib.hid na
    have NB := Lib.hid nb
    have HL := Lib.hid hL
    have HPV := Lib.hid hpv
    have HLK := Lib.hid hl
    clear hlast hl hpv hL na nb k0
    show Calls Try.prog 25 #[.pointer (some ⟨b, 0, none⟩), .agg #[.bool oi, .int .i64 id]] w _
    refine callsIn_wide (n := 8) |>.1 ?_
    refine callsIn_of_wp_marks Try.func25 rfl trivial ?_ rfl
    simp only [Try.ntmps25, List.size_toArray, List.length_cons, List.length_nil, Nat.reduceAdd, Nat.reduceSub, Array.replicate_succ, Array.replicate_zero, List.push_toArray, List.append_toArray, List.nil_append, List.cons_append]
    refine wpIn_wide.2 ?_
    go_upto_region 3 with (go_at_call 31; refine hma.mono ?_; rintro e w1 ⟨rfl, rfl⟩)
    go_quiet (first | (go_at_call 28; refine Calls.quiet_of (HT.out _)))
    obtain ⟨w2, hw2⟩ : ∃ w2, w0.drewN nq = w2 := ⟨_, rfl⟩
    have k2 : Kept (fun _ => False) w0 w2 := by rw [← hw2]; exact (Kept.refl _ _).drewN nq
    rw [hw2]
    have hwB : B + 1 < w2.heap.size := Nat.lt_of_lt_of_le NB.out.lt k2.size
    clear hw2 hma HT l1 a0 b0 b1 c3 hw0
    have HB := Lib.hid hB
    have hL2 := HL.out.same k2
    have na2 := NA.out.kept k2 (fun x => x)
    have nb2 := NB.out.kept k2 (fun x => x)
    have hp2 := HPV.out.same k2
    have K2 := Lib.hid (K0.out.then k2 (fun _ x => x.elim))
    clear hB NA NB HL HPV K0 k2
    obtain ⟨_, _, _, c3, _⟩ := hL2.cells
    have a0 := na2.cell 0 rfl
    have b0 := nb2.cell 0 rfl
    have b1 := nb2.cell 1 rfl
    have l1 := HLK.out w2.drew hL2.hm
    simp only [ekO] at l1
    go_upto_region 6 with fail
    go_still_tail 6, (by kernel_rfl)
    change wpList _ _ _ _ _ w2.drew
    go_wp2_with (go_at_call 32; refine (SI.all_any pv _).mono ?_; rintro e w' ⟨rfl, rfl⟩)
    obtain ⟨O2, hO2⟩ : ∃ O2, w2.heap.size = O2 := ⟨_, rfl⟩
    have bN := (Blk.new w2 [.pointer pv] 84)
    simp only [hO2]
    rw [hO2] at bN hwB
    have k3 := ((Kept.refl (fun _ => False) w2).alloc (.cells #[.pointer pv] 84)).drew
    have hz3 : (w2.alloc (.cells #[.pointer pv] 84)).drew.heap.size = O2 + 1 := by
      show (w2.alloc (.cells #[.pointer pv] 84)).heap.size = O2 + 1
      rw [World.size_alloc, hO2]
    have bN3 : Blk (w2.alloc (.cells #[.pointer pv] 84)).drew O2 [.pointer pv] 84 := bN
    have hobl : M.ob < O2 := by rw [← hO2]; exact hL2.om.lt
    obtain ⟨w3, hw3⟩ : ∃ w3, (w2.alloc (.cells #[.pointer pv] 84)).drew = w3 := ⟨_, rfl⟩
    rw [hw3] at bN3 k3 hz3 ⊢
    have hp3 := hp2.same k3
    have HL3 := Lib.hid (hL2.same k3)
    have NA3 := Lib.hid (na2.kept k3 (fun x => x))
    have NB3 := Lib.hid (nb2.kept k3 (fun x => x))
    have K3 := Lib.hid (K2.out.then k3 (fun _ x => x.elim))
    clear l1 bN hw3 k3 hp2 hL2 na2 nb2 a0 b0 b1 c3 K2 HLK hO2
    have HX : Hid (∀ x ∈ heldL L (oi, id), I64 x) := fun x hx => by
      have h1 := holdL_of HL3.out.inv.nd (held_mem.1 hx)
      rw [← HL3.out.oat] at h1
      exact HL3.out.ook _ (mem_getA h1)
    have hgs : Hangs (fun _ _ => False) (fun _ => False) w3.heap.size := ⟨fun _ _ _ _ h => h, fun _ h => h.elim⟩
    obtain ⟨l, hl⟩ : ∃ l, heldL L (oi, id) = l := ⟨_, rfl⟩
    rw [hl] at hp3 HX
    have HLE := Lib.hid hl
    clear hl
    refine (wpIn_wide (n := 8)).1 ?_
    refine wpIn_rangeFunc_ownG rfl (by decide) (gf := 68) (lb := #[.pointer (some ⟨O2, 0, none⟩)]) rfl trivial (enters_of Try.func68 (by kernel_rfl) rfl)
      (SI.all_stops_mem 7 O2 pv l (fun _ _ => False) w3 (by decide) (fun _ _ _ h => h.elim) (by omega) (bN3.cell 0 rfl) hp3) Keeps.trans ?hkb (Below.refl _ _) (fun _ => rfl)
      (fun pre W => IsMap W ekI ekO M.ob (dels M.O (pre.map Subtype.val)) ∧ Kept (fun g => g = M.ob) w3 W ∧ w3.heap.size ≤ W.heap.size)
      (fun _ _ _ => False) ?hI (fun _ _ _ _ _ hs _ _ => hs) ?h0
      (fun x => { tmps := #[.pointer (some ⟨b, 0, none⟩), .agg #[.bool oi, .int .i64 id], .pointer (some ⟨B, 0, none⟩), .pointer (some ⟨B + 1, 0, none⟩), .int .i64 0, .bool false, .int .i64 x0, .bool true, .int .i64 x.1, .pointer (some ⟨b, 0, none⟩), .bool true, .bool false, .tuple #[.int .i64 x0, .bool true], .pointer (some ⟨b, 0, none⟩), .pointer (some ⟨b, 0, none⟩), .pointer (some ⟨b, 3, none⟩), .map (some M.hb), .agg #[.bool oi, .int .i64 id], .pointer pv, .tuple #[.int .i64 x0, .bool true], .int .i64 x0, .bool true, .bool true, .bool false, .pointer (some ⟨b, 0, none⟩), .pointer (some ⟨b, 0, none⟩), .pointer (some ⟨b, 3, none⟩), .map (some M.hb), .agg #[.bool oi, .int .i64 id], .pointer pv, .func (.func 68) #[] #[.pointer (some ⟨O2, 0, none⟩)], .int .i64 x.1, undef, undef, undef, undef, undef, undef, undef, undef, undef, undef, undef], defers := [] }) ?assign ?body ?done ?stop
    case hkb => exact fun W l o o' hl ho hc _ => keeps_putObj hgs W l o o' hl ho hc
    case hI =>
      rintro s W W' row ⟨h1, h4, h5⟩ hg hr
      have hg' := hg.size
      have hlt := h1.lt
      obtain ⟨es, ck, hb, hrest⟩ := h1
      refine ⟨⟨es, ck, (hg.block M.ob hlt (fun e => by have := (hr M.ob e.symm).1; omega)).trans hb, hrest⟩, h4.of_grown hg (n := w3.heap.size) (Nat.le_refl _) (fun r e => (hr r e).1), by omega⟩
    case h0 => exact ⟨HL3.out.om, Kept.refl _ _, Nat.le_refl _⟩
    case assign =>
      intro l x W K hK
      gi_wp2
      exact hK
    case body =>
      rintro l' pre ⟨x, hx⟩ W ⟨h1, h4, h5⟩ hlt
      have a0 := (NA3.out.kept h4 (blk_ne_map NA3.out HL3.out.om)).cell 0 rfl
      have c4 := (HL3.out.blk.kept h4 (blk_ne_map HL3.out.blk HL3.out.om)).cell 4 (v := .map (some M.ob)) rfl
      have hx64 := HX.out x hx
      gi_wp2_with (gi_at_delete; refine wpListIn_drop _ rfl _ _ _ _ rfl h1 keyI (dels_ok HL3.out.ook) Try.underlying71 rfl x rfl hx64 ?_; intro w8 hm8 k8 hs8)
      refine ⟨⟨k8.size, fun g o' hg hg2 hc => ?_⟩, ⟨k8.size, fun g cs t f hg _ => ?_, fun g h => h.elim⟩, ?_, h4.then k8 (fun g hg => Or.inl hg), by have := k8.size; omega⟩
      · rw [k8.block g (Array.getElem?_eq_some_iff.1 hg2).1 (fun e => by omega)]
        exact hg2
      · exact k8.block g (Array.getElem?_eq_some_iff.1 hg).1 (fun e => by
          obtain ⟨es, ck, hb, _⟩ := h1
          rw [e, hb] at hg
          cases hg)
      · rw [List.map_append, List.map_singleton, dels_app]
        exact hm8
    case done =>
      rintro D ys W hD hys ⟨h1, h4, h5⟩ hK
      rw [hys] at h1
      have a0 := (NA3.out.kept h4 (blk_ne_map NA3.out HL3.out.om)).cell 0 rfl
      have b0 := (NB3.out.kept h4 (blk_ne_map NB3.out HL3.out.om)).cell 0 rfl
      have b1 := (NB3.out.kept h4 (blk_ne_map NB3.out HL3.out.om)).cell 1 rfl
      have c3 := (HL3.out.blk.kept h4 (blk_ne_map HL3.out.blk HL3.out.om)).cell 3 (v := .map (some M.hb)) rfl
      have hmW0 : IsMap W ekO evP M.hb M.H := HL3.out.hm.kept h4 (fun e => HL3.out.nb.1 e)
      have hmW : IsMap W.drew ekO evP M.hb M.H := hmW0
      gi_wp2
      go_wp2_with fail
      go_still_tail 5, (by kernel_rfl)
      change wpList _ _ _ _ _ W.drew
      go_wp2_with (at_delete; refine wpList_drop _ rfl _ _ _ _ rfl hmW keyO HL3.out.hok Try.underlying70 rfl ((oi, id) : Ow) rfl HO.out ?_; intro w9 hm9 k9 _)
      have k9' := Kept.undrew1 k9
      obtain ⟨M2, g1, g2, g3, g4⟩ := HL3.out.drop (o := (oi, id)) (O' := dels M.O l.reverse) (fun r => by
        rw [getA_dels, HL3.out.oat, holdL_drop HL3.out.inv.nd]
        have : r ∈ l.reverse ↔ holdL L r = some (oi, id) := by
          rw [List.mem_reverse, ← HLE.out, held_mem]
          exact ⟨fun hm => holdL_of HL3.out.inv.nd hm, fun hm => holdL_mem hm⟩
        by_cases e : holdL L r = some (oi, id)
        · rw [if_pos e, if_pos (this.2 e)]
        · rw [if_neg e, if_neg (fun h => e (this.1 h))]) (dels_ok HL3.out.ook) h1 h4 hm9 k9'
      have hDlt := (Array.getElem?_eq_some_iff.1 hK).1
      have hKD := (k9'.block D hDlt (fun e => by
        obtain ⟨es, ck, hb, _⟩ := (show IsMap W ekO evP M.hb M.H from hmW)
        rw [← e, hK] at hb
        cases hb)).trans hK
      have hg := grownBy_putObj' w9 D (.deferred none)
      have kD : Kept (fun g => g = D) w9 (w9.putObj D (.deferred none)) := (Kept.refl _ w9).grown hg (fun g e => Or.inl (by cases e; rfl))
      obtain ⟨q1, q2, q3, q4, q5, q6, q7⟩ := g2
      have hmD : ∀ g, lmut b M2 g → ¬ g = D := fun g hg e => by have := HL3.out.mlt g (g4 g hg); omega
      have hfD : ∀ g, lfix M2 g → ¬ g = D := fun g hg e => by
        have h9 : lfix M g := by
          unfold lfix at hg ⊢
          rw [q1, q2, q3, q4] at hg
          exact hg
        have := HL3.out.fx.lt g h9
        omega
      refine ⟨by simp, .inl ⟨_, _, rfl, run_takeDeferred hKD, ?_⟩⟩
      refine ⟨_, results_tmp2 rfl _ _ _, rfl, M2, g1.kept kD hmD hfD, ⟨q1, q2, q3, q4, q5, q6, q7⟩, ?_, fun g hg => Or.inl (g4 g hg)⟩
      have hK3 := K3.out.size
      exact ((K3.out.mono (fun _ _ x => x.elim)).then g3 (fun i hi => Or.inl hi)).then kD (fun i hi => Or.inr (by omega))
    case stop =>
      rintro D c pre W _ _ h _
      exact h.elim
end
end Go.Proofs.Ytnfpiocjdhipcaa.LK
