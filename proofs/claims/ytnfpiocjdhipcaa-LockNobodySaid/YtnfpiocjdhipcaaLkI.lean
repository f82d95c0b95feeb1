/- lock.Lock: Priority. -/
import Derived.Test.YtnfpiocjdhipcaaLkH
import Derived.Test.YtnfpiocjdhipcaaInR
namespace Go.Proofs.Ytnfpiocjdhipcaa.LK
open Go.RowKit Go.Fr Go.Tb Go.Shelf
attribute [local go_sem] Oper.semAt_some

theorem fold_max (T : Tb) : ∀ (l : List Int) (p a : Int), l.foldl (fun p r => max p (ceilT T r)) (max p a) = max (l.foldl (fun p r => max p (ceilT T r)) p) a
  | [], _, _ => rfl
  | r :: l, p, a => by
    show l.foldl _ (max (max p a) (ceilT T r)) = max (l.foldl _ (max p (ceilT T r))) a
    rw [show max (max p a) (ceilT T r) = max (max p (ceilT T r)) a by omega]
    exact fold_max T l _ a
theorem top_app (T : Tb) (p : Int) (l : List Int) (r : Int) : topL T p (l ++ [r]) = max (topL T p l) (ceilT T r) := by
  unfold topL
  rw [List.foldl_append]
  rfl
theorem top_rev (T : Tb) (p : Int) : ∀ l : List Int, topL T p l.reverse = topL T p l
  | [] => rfl
  | r :: l => by
    rw [List.reverse_cons, top_app, top_rev T p l]
    show _ = l.foldl _ (max p (ceilT T r))
    rw [fold_max]
    rfl

theorem eqO_diff (id : Int) (w : World) : (binOp .eql 38 (.agg #[.bool true, .int .i64 id]) (.agg #[.bool false, .int .i64 id])).run Try.prog w = .ok (.bool false) w := by kernel_rfl
section
variable {w w' : World} {b : Nat} {M : Lm} {T : Tb} {L : List Take} {In : List Bool} {G : Gt} {S : Nat → Prop} {o : Ow} {r : Int}
set_option maxRecDepth 100000 in
set_option maxHeartbeats 8000000 in
theorem prio_ok (h : IsLk w b M T L In G) (ho : okO o) : Calls Try.prog 10 #[.pointer (some ⟨b, 0, none⟩), ekO o] w fun e w' =>
    e = .returned (.int .i64 (prioL T L In o)) ∧ Kept (fun _ => False) w w' := by
  obtain ⟨oi, id⟩ := o
  have k0 := ((Kept.refl (fun _ => False) w).alloc (.cells #[.pointer (some ⟨b, 0, none⟩)] 32)).alloc (.cells #[.bool oi, .int .i64 id] 38)
  have na := (Blk.new w [.pointer (some ⟨b, 0, none⟩)] 32).alloc (.cells #[.bool oi, .int .i64 id] 38)
  have nb := Blk.new (w.alloc (.cells #[.pointer (some ⟨b, 0, none⟩)] 32)) [.bool oi, .int .i64 id] 38
  rw [World.size_alloc] at nb
  have hL := h.same k0
  obtain ⟨w0, hw0⟩ : ∃ w0, (w.alloc (.cells #[.pointer (some ⟨b, 0, none⟩)] 32)).alloc (.cells #[.bool oi, .int .i64 id] 38) = w0 := ⟨_, rfl⟩
  rw [hw0] at hL k0 nb na
  obtain ⟨B, hB⟩ : ∃ B, w.heap.size = B := ⟨_, rfl⟩
  rw [hB] at nb na
  have hma := made_ok hL
  have a0 := na.cell 0 rfl
  have b0 := nb.cell 0 rfl
  have b1 := nb.cell 1 rfl
  obtain ⟨c0, _⟩ := hL.cells
  obtain ⟨z, hz⟩ : ∃ z, prioL T L In (oi, id) = z := ⟨_, rfl⟩
  rw [hz]
  have HZ := Lib.hid hz
  have HO := Lib.hid ho
  have hML : Hid (∀ P, w0.heap.size ≤ P → b < w0.heap.size ∧ (∀ g, lmut b M g → g ≠ P) ∧ ∀ g, lfix M g → g ≠ P) := fun P hP => ⟨hL.blk.lt, fun g hg e => by have := hL.mlt g hg; omega, fun g hg e => by have := hL.fx.lt g hg; omega⟩
  clear h ho hz
  show Calls Try.prog 10 #[.pointer (some ⟨b, 0, none⟩), .agg #[.bool oi, .int .i64 id]] w _
  refine callsIn_wide (n := 8) |>.1 ?_
  refine callsIn_of_wp_marks Try.func10 rfl trivial ?_ rfl
  simp only [Try.ntmps10, List.size_toArray, List.length_cons, List.length_nil, Nat.reduceAdd, Nat.reduceSub, Array.replicate_succ, Array.replicate_zero, List.push_toArray, List.append_toArray, List.nil_append, List.cons_append]
  refine wpIn_wide.2 ?_
  go_upto_region 3 with (go_at_call 31; refine hma.mono ?_; rintro e w1 ⟨rfl, rfl⟩)
  clear hma
  have HB := Lib.hid hB
  have K0 := Lib.hid k0
  have NA := Lib.hid na
  have NB := Lib.hid nb
  have HL := Lib.hid hL
  clear hB hw0 k0 na nb hL
  have kr : Kept (fun _ => False) w0 (w0.alloc (.cells #[.int .i64 0, .slice none 0 0, .int .i64 0, .int .i64 0] 79)) := (Kept.refl _ _).alloc _
  have d0 := (HL.out.same kr).cells.1
  have d1 := (NB.out.kept kr (fun x => x)).cell 0 rfl
  have d2 := (NB.out.kept kr (fun x => x)).cell 1 rfl
  have d3 := (NA.out.kept kr (fun x => x)).cell 0 rfl
  clear kr
  rcases HL.out.fx.rowAt HO.out with ⟨y, hry, hry2, _, hlt, _⟩ | ⟨hr0, hlt, _⟩
  · have l1 := hlt w0.drew ((Kept.refl _ _).drew)
    have l2 := hlt (w0.alloc (.cells #[.int .i64 0, .slice none 0 0, .int .i64 0, .int .i64 0] 79)).drew (((Kept.refl _ _).alloc _).drew)
    simp only [ekO] at l1 l2
    clear hlt hry
    have HRY := Lib.hid hry2
    clear hry2
    go_cut [5, 6] from 13 to 21 (fun q f wx => ∃ g9, q = .pointer (some ⟨g9, 0, none⟩) ∧ f = .bool true ∧ wx.cell? ⟨g9, 0, none⟩ = some (.int .i64 y.pr) ∧ wx.cell? ⟨g9, 2, none⟩ = some (.int .i64 y.inl) ∧ Hid (Kept (fun _ => False) w0 wx))
    case first =>
      have NR := Lib.hid (Blk.new w0 [.int .i64 y.pr, .slice y.oa y.own.length y.oc, .int .i64 y.inl, .int .i64 y.cat] 79)
      go_region
      all_goals
        go_wp2_with fail
        go_meet
        exact ⟨_, rfl, rfl, NR.out.cell 0 rfl, NR.out.cell 2 rfl, ((Kept.refl _ _).alloc _).drew⟩
    case rest =>
      obtain ⟨g9, rfl, rfl, r0, r2, hKc⟩ := hcut
      clear l1 l2 d0 d1 d2 d3 a0 b0 b1 c0
      go_upto_region 7 with fail
      have kP := (Kept.refl (fun _ => False) wc).alloc (.cells #[.int .i64 y.pr] 3)
      have bP := Blk.new wc [.int .i64 y.pr] 3
      obtain ⟨w2, hw2⟩ : ∃ w2, wc.alloc (.cells #[.int .i64 y.pr] 3) = w2 := ⟨_, rfl⟩
      obtain ⟨P, hP⟩ : ∃ P, wc.heap.size = P := ⟨_, rfl⟩
      rw [hw2] at kP bP ⊢
      rw [hP] at bP
      simp only [hP]
      have kc2 : Kept (fun _ => False) w0 w2 := hKc.out.then kP (fun _ x => x.elim)
      have hL2 := HL.out.same kc2
      have nb2 := NB.out.kept kc2 (fun x => x)
      have na2 := NA.out.kept kc2 (fun x => x)
      have g9l := World.block_lt_of_cell? wc ⟨g9, 0, none⟩ r0
      have r2 := (kP.cell (p := ⟨g9, 2, none⟩) g9l (fun x => x)).trans r2
      have hwP : w2.heap.size = P + 1 := by rw [← hw2, ← hP]; simp
      have hPB : w0.heap.size ≤ P := by rw [← hP]; exact hKc.out.size
      have hg9P : g9 < P := by rw [← hP]; exact g9l
      have hBP : B + 1 < P := by have := NB.out.lt; omega
      have K2 := Lib.hid (K0.out.then kc2 (fun _ x => x.elim))
      clear kP kc2 hw2 hP hKc r0 HL NB NA K0 g9l
      obtain ⟨_, _, _, c3, _⟩ := hL2.cells
      have a0 := na2.cell 0 rfl
      have b0 := nb2.cell 0 rfl
      have b1 := nb2.cell 1 rfl
      obtain ⟨pv, hpv, hl⟩ := hL2.holds HO.out
      have l1 := hl w2.drew hL2.hm
      simp only [ekO] at l1
      clear hl
      go_still_tail 6, (by kernel_rfl)
      change wpList _ _ _ _ _ w2.drew
      go_wp2_with (go_at_call 32; refine (SI.all_any pv _).mono ?_; rintro e w' ⟨rfl, rfl⟩)
      have bN := (Blk.new w2 [.pointer pv] 84)
      rw [hwP] at bN
      have k3 := ((Kept.refl (fun _ => False) w2).alloc (.cells #[.pointer pv] 84)).drew
      have hz3 : (w2.alloc (.cells #[.pointer pv] 84)).drew.heap.size = P + 2 := by
        show (w2.alloc (.cells #[.pointer pv] 84)).heap.size = P + 2
        rw [World.size_alloc, hwP]
      have bN3 : Blk (w2.alloc (.cells #[.pointer pv] 84)).drew (P + 1) [.pointer pv] 84 := bN
      obtain ⟨w3, hw3⟩ : ∃ w3, (w2.alloc (.cells #[.pointer pv] 84)).drew = w3 := ⟨_, rfl⟩
      rw [hw3] at bN3 k3 hz3 ⊢
      have bP3 := bP.kept k3 (fun x => x)
      have hp3 := hpv.same k3
      have K3 : Hid (Kept (fun _ => False) w w3) := K2.out.then k3 (fun _ x => x.elim)
      have HL3 := Lib.hid (hL2.same k3)
      have NA3 := Lib.hid (na2.kept k3 (fun x => x))
      have NB3 := Lib.hid (nb2.kept k3 (fun x => x))
      have g9l2 := World.block_lt_of_cell? w2 ⟨g9, 2, none⟩ r2
      have r3 : Hid (w3.cell? ⟨g9, 2, none⟩ = some (.int .i64 y.inl)) := (k3.cell (p := ⟨g9, 2, none⟩) g9l2 (fun x => x)).trans r2
      have hlen := hpv.len
      have hbP : Hid (b < w0.heap.size ∧ (∀ g, lmut b M g → g ≠ P) ∧ (∀ g, lfix M g → g ≠ P)) := hML.out P hPB
      clear l1 bN hw3 k3 bP hpv K2 nb2 na2 a0 b0 b1 c3 hL2 r2 g9l2
      obtain ⟨ca, cc, e2, hce⟩ := HL3.out.fx.cei
      have HX : Hid (∀ x ∈ heldL L (oi, id), ∃ (k gb off : Nat), x = (k : Int) ∧ k < T.ress.length ∧ ca = some ⟨gb, off, none⟩ ∧ gb < w3.heap.size ∧ gb ≠ P ∧ w3.cell? ⟨gb, off + k, none⟩ = some (.int .i64 (ceilT T x))) := fun x hx => by
        obtain ⟨_, _, _, hres, _⟩ := HL3.out.inv.own _ (held_mem.1 hx)
        unfold resT at hres
        simp only [Bool.and_eq_true, decide_eq_true_eq] at hres
        obtain ⟨hx0, hres⟩ := hres
        cases hq : T.ress[x.toNat]? with
        | none => rw [hq] at hres; cases hres
        | some yv =>
          have hql := (List.getElem?_eq_some_iff.1 hq).1
          obtain ⟨gb, off, e3, g0, g1⟩ := camel_one hce (k := x.toNat) (x := yv.2) (by rw [List.getElem?_map, hq]; rfl) (v := .int .i64 yv.2) rfl
          refine ⟨x.toNat, gb, off, by omega, hql, e3, g0, hbP.out.2.2 gb (Or.inr (Or.inr (Or.inl (by rw [e2, e3]; rfl)))), ?_⟩
          rw [g1]
          unfold ceilT
          rw [hq]
          rfl
      obtain ⟨l, hl⟩ : ∃ l, heldL L (oi, id) = l := ⟨_, rfl⟩
      rw [hl] at hp3 hlen HX
      have HLE := Lib.hid hl
      have HE2 := Lib.hid e2
      clear hl hce e2
      have hgs := ftBox_hangs (B := P) (n := w3.heap.size) (by omega)
      refine (wpIn_wide (n := 8)).1 ?_
      refine wpIn_rangeFunc_ownG rfl (by decide) (gf := 68) (lb := #[.pointer (some ⟨P + 1, 0, none⟩)]) rfl trivial (enters_of Try.func68 (by kernel_rfl) rfl)
        (SI.all_stops_mem 7 (P + 1) pv l (ftBox P) w3 (by decide) ?hft (by omega) (bN3.cell 0 rfl) hp3) Keeps.trans ?hkb (Below.refl _ _) (fun _ => rfl)
        (fun pre W => Blk W P [.int .i64 (topL T y.pr (pre.map Subtype.val))] 3 ∧ Kept (fun g => g = P) w3 W ∧ w3.heap.size ≤ W.heap.size)
        (fun _ _ _ => False) ?hI (fun _ _ _ _ _ hs _ _ => hs) ?h0
        (fun x => { tmps := #[.pointer (some ⟨b, 0, none⟩), .agg #[.bool oi, .int .i64 id], .pointer (some ⟨B, 0, none⟩), .pointer (some ⟨B + 1, 0, none⟩), .int .i64 0, .pointer (some ⟨g9, 0, none⟩), .bool true, .pointer (some ⟨P, 0, none⟩), .int .i64 x.1, .pointer (some ⟨b, 0, none⟩), .bool true, .bool false, u12, u13, u14, u15, u16, u17, u18, u19, u20, .bool true, .bool false, .pointer (some ⟨g9, 0, none⟩), .int .i64 y.pr, .pointer (some ⟨b, 0, none⟩), .pointer (some ⟨b, 0, none⟩), .pointer (some ⟨b, 3, none⟩), .map (some M.hb), .agg #[.bool oi, .int .i64 id], .pointer pv, .func (.func 68) #[] #[.pointer (some ⟨P + 1, 0, none⟩)], .int .i64 x.1, undef, undef, undef, undef, undef, undef, undef, undef, undef, undef, undef, undef, undef, undef, undef, undef, undef, undef, undef, undef, undef, undef, undef, undef, undef, undef, undef, undef], defers := [] }) ?assign ?body ?done ?stop
      case hft =>
        intro W' hW' k hk
        have := hgs.dep w3 W' (fun b hb => hW'.block b (hgs.low b hb)) k hk
        rcases this with rfl | ⟨v', hv', ho'⟩
        · omega
        · have h1 := bP3.cell 0 rfl
          rw [h1] at hv'
          cases hv'
          simp [Value.ownBlock] at ho'
      case hkb => exact fun W l o o' hl ho hc _ => keeps_putObj hgs W l o o' hl ho hc
      case hI =>
        rintro s W W' row ⟨h1, h4, h5⟩ hg hr
        have hg' := hg.size
        exact ⟨h1.cells hg (fun r e => (hr r e).2), h4.of_grown hg (n := w3.heap.size) (Nat.le_refl _) (fun r e => (hr r e).1), by omega⟩
      case h0 => exact ⟨bP3, Kept.refl _ _, Nat.le_refl _⟩
      case assign =>
        intro l x W K hK
        gi_wp2
        exact hK
      case body =>
        rintro l' pre ⟨x, hx⟩ W ⟨h1, h4, h5⟩ hlt
        obtain ⟨k, gb, off, rfl, hk, rfl, hgb, hgP, g1⟩ := HX.out x hx
        have c0 := h1.cell 0 rfl
        have f0 := h1.frozen 0
        have a0 := (NA3.out.kept h4 (fun e => by omega)).cell 0 rfl
        have c2 := (HL3.out.blk.kept h4 (fun e => by have := hbP.out.1; omega)).cell 2 (v := M.vc) rfl
        rw [HE2.out, List.length_map] at c2
        have gc := (h4.cell (p := ⟨gb, off + k, none⟩) hgb hgP).trans g1
        have hk0 : (0 : Int) ≤ (k : Int) := by omega
        have hk1 : (k : Int) < (T.ress.length : Int) := by omega
        have fin : ∀ v : Int, v = max (topL T y.pr (pre.map Subtype.val)) (ceilT T (k : Int)) → KeepsFrom w3.heap.size W (W.setCell ⟨P, 0, none⟩ (.int .i64 v)).drew ∧ Keeps (ftBox P) W (W.setCell ⟨P, 0, none⟩ (.int .i64 v)).drew ∧
            Blk (W.setCell ⟨P, 0, none⟩ (.int .i64 v)).drew P [.int .i64 (topL T y.pr ((pre ++ [(⟨(k : Int), hx⟩ : {x : Int // x ∈ l})]).map Subtype.val))] 3 ∧ Kept (fun g => g = P) w3 (W.setCell ⟨P, 0, none⟩ (.int .i64 v)).drew ∧ w3.heap.size ≤ (W.setCell ⟨P, 0, none⟩ (.int .i64 v)).drew.heap.size := by
          rintro v rfl
          have kS := ((Kept.refl (fun g => g = P) W).setCell (p := ⟨P, 0, none⟩) (Or.inl rfl) (.int .i64 (max (topL T y.pr (pre.map Subtype.val)) (ceilT T (k : Int))))).drew
          have hb := h1.set 0 (.int .i64 (max (topL T y.pr (pre.map Subtype.val)) (ceilT T (k : Int))))
          refine ⟨kS.others (fun g _ hg => by subst hg; exact h1.isCells) _, kS.keeps (fun g hg => Or.inl hg) (fun g hg => ?_), ?_, h4.then kS (fun g hg => Or.inl hg), Nat.le_trans h5 kS.size⟩
          · rcases hg with rfl | ⟨v', hv', hk'⟩
            · exact Or.inl (Or.inl rfl)
            · have h9 := hb.cell 0 rfl
              rw [show (W.setCell ⟨P, 0, none⟩ (.int .i64 (max (topL T y.pr (pre.map Subtype.val)) (ceilT T (k : Int))))).drew.cell? ⟨P, 0, none⟩ = _ from h9] at hv'
              cases hv'
              simp [Value.ownBlock] at hk'
          · rw [List.map_append, List.map_singleton, top_app]
            exact hb
        have HF := Lib.hid fin
        clear HX fin h4 h1 g1
        obtain ⟨t, ht⟩ : ∃ t, topL T y.pr (pre.map Subtype.val) = t := ⟨_, rfl⟩
        obtain ⟨cv, hcv⟩ : ∃ cv, ceilT T (k : Int) = cv := ⟨_, rfl⟩
        rw [ht] at c0
        rw [ht, hcv] at HF
        rw [hcv] at gc
        clear ht hcv
        gi_wp2
        refine wpIn_region_tail 9 (by kernel_rfl) (by kernel_rfl) (by kernel_rfl) ?_
        simp only [List.take_succ_cons, List.take_zero, List.drop_succ_cons, List.drop_zero]
        repeat still_step
        try refine wpStill_nil ?_
        go_wp2_with fail
        all_goals exact ⟨rfl, HF.out _ (by omega)⟩
      case done =>
        rintro D ys W hD hys ⟨h1, h4, h5⟩ hK
        rw [hys, top_rev] at h1
        have hLW := HL3.out.kept h4 hbP.out.2.1 hbP.out.2.2
        have a0 := (NA3.out.kept h4 (fun e => by omega)).cell 0 rfl
        have b0 := (NB3.out.kept h4 (fun e => by omega)).cell 0 rfl
        have b1 := (NB3.out.kept h4 (fun e => by omega)).cell 1 rfl
        have r2 := (h4.cell (p := ⟨g9, 2, none⟩) (show g9 < _ by omega) (fun e => by have e2 : g9 = P := e; omega)).trans r3.out
        obtain ⟨_, _, _, _, _, c5, _⟩ := hLW.cells
        have hle : ∀ n, (Instr.lookup 72 (.map (some M.eb)) (.int .i64 id) false).run Try.prog (W.drewN n) = .ok (.bool (inAt In id)) (W.drewN n) := fun n => by
          have hl := (hLW.em.kept ((Kept.refl (fun _ => False) W).drewN n) (fun x => x)).look keyI hLW.eok Try.underlying72 (show I64 id from HO.out) (zeroB (W.drewN n)) false
          rw [hLW.eat] at hl
          cases hi : inAt In id <;> rw [hi] at hl <;> exact hl
        have hid : 0 ≤ id := by
          have := HRY.out
          unfold rowT at this
          by_cases hneg : id < 0
          · rw [if_pos hneg] at this
            cases this
          · omega
        obtain ⟨t, ht⟩ : ∃ t, topL T y.pr l = t := ⟨_, rfl⟩
        rw [ht] at h1
        have hzv : z = if oi = false ∧ inAt In id = true then max t y.inl else t := by
          rw [← HZ.out, ← ht, ← HLE.out]
          unfold prioL
          rw [HRY.out]
          have : (In[id.toNat]? = some true) ↔ inAt In id = true := by
            unfold inAt
            cases hq : In[id.toNat]? with
            | none => simp
            | some q => cases q <;> simp [hid]
          simp only [this]
          rfl
        have c0 := h1.cell 0 rfl
        have f0 := h1.frozen 0
        have hes : (id == id) = true := by simp
        have hed := eqO_diff id
        clear hLW ht hys
        have HFIN : Hid (∀ wf, Kept (fun g => g = P) W wf → wf.heap[D]? = some (.deferred (some [])) ∧ Kept (fun _ => False) w (wf.putObj D (.deferred none))) := fun wf kf => by
          have hDlt := (Array.getElem?_eq_some_iff.1 hK).1
          have hKD := (kf.block D hDlt (fun e => by
            obtain ⟨cs, t', f, hce⟩ := h1.isCells
            rw [e] at hK
            rw [hK] at hce
            cases hce)).trans hK
          have hBe := HB.out
          have hKw : Kept (fun _ => False) w wf := (K3.out.then h4 (fun i hi => Or.inr (by omega))).then kf (fun i hi => Or.inr (by omega))
          exact ⟨hKD, hKw.of_grown (grownBy_putObj' wf D (.deferred none)) (n := w3.heap.size) (by have := K3.out.size; omega) (fun r e => by cases e; exact hD)⟩
        clear h1 h4 h5 hK hD
        cases oi with
        | true =>
          obtain rfl : z = t := hzv
          gi_wp2
          go_wp2_with fail
          go_quiet (fail)
          go_wp2_with fail
          obtain ⟨q1, q2⟩ := HFIN.out _ ((Kept.refl _ W).drewN nq)
          refine ⟨by simp, .inl ⟨_, _, rfl, run_takeDeferred q1, ?_⟩⟩
          exact ⟨_, results_tmp rfl _ _ _, rfl, q2⟩
        | false =>
          cases hi : inAt In id with
          | false =>
            rw [hi] at hle hzv
            have hzt : z = t := by simpa using hzv
            clear hzv
            subst hzt
            gi_wp2
            go_wp2_with fail
            go_quiet (fail)
            go_wp2_with fail
            obtain ⟨q1, q2⟩ := HFIN.out _ ((Kept.refl _ W).drewN nq)
            refine ⟨by simp, .inl ⟨_, _, rfl, run_takeDeferred q1, ?_⟩⟩
            exact ⟨_, results_tmp rfl _ _ _, rfl, q2⟩
          | true =>
            rw [hi] at hle hzv
            simp only [and_self, if_true] at hzv
            gi_wp2
            go_wp2_with fail
            go_quiet (fail)
            go_wp2_with fail
            all_goals
              obtain ⟨q1, q2⟩ := HFIN.out _ (((Kept.refl (fun g => g = P) W).drewN nq).setCell (p := ⟨P, 0, none⟩) (Or.inl rfl) _)
              refine ⟨by simp, .inl ⟨_, _, rfl, run_takeDeferred q1, ?_⟩⟩
              first
                | (have e1 : max t y.inl = y.inl := by omega
                   rw [e1]
                   exact ⟨_, results_tmp rfl _ _ _, rfl, q2⟩)
                | (have e1 : max t y.inl = t := by omega
                   rw [e1]
                   exact ⟨_, results_tmp rfl _ _ _, rfl, q2⟩)
      case stop =>
        rintro D c pre W _ _ h _
        exact h.elim
  · have l1 := hlt w0.drew ((Kept.refl _ _).drew)
    have l2 := hlt (w0.alloc (.cells #[.int .i64 0, .slice none 0 0, .int .i64 0, .int .i64 0] 79)).drew (((Kept.refl _ _).alloc _).drew)
    simp only [ekO] at l1 l2
    clear hlt
    have hz := HZ.out
    unfold prioL at hz
    rw [hr0] at hz
    simp only at hz
    subst hz
    clear HZ
    go_region
    all_goals
      go_wp2_with fail
      exact ⟨_, results_tmp rfl _ _ _, rfl, (K0.out.alloc _).drew⟩
end
end Go.Proofs.Ytnfpiocjdhipcaa.LK
