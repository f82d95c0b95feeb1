/- lock.Lock: Holder, Enter, Leave, Has. -/
import Derived.Test.YtnfpiocjdhipcaaLkK
import Derived.Laws.ResultCell
namespace Go.Proofs.Ytnfpiocjdhipcaa.LK
open Go.RowKit Go.Fr Go.Tb
attribute [local go_sem] Oper.semAt_some

section
variable {w w' : World} {b : Nat} {M : Lm} {T : Tb} {L : List Take} {In : List Bool} {G : Gt} {S : Nat → Prop} {o : Ow} {r : Int}
set_option maxRecDepth 100000 in
set_option maxHeartbeats 4000000 in
theorem holder_ok (h : IsLk w b M T L In G) (hr : I64 r) : Calls Try.prog 13 #[.pointer (some ⟨b, 0, none⟩), .int .i64 r] w fun e w' =>
    e = .returned (.tuple #[ekO ((holdL L r).getD (false, 0)), .bool (holdL L r).isSome]) ∧ Kept (fun _ => False) w w' := by
  have k0 := (Kept.refl (fun _ => False) w).alloc (.cells #[.bool false, .int .i64 0] 38)
  have nb := Blk.new w [.bool false, .int .i64 0] 38
  have hL := h.same k0
  obtain ⟨w0, hw0⟩ : ∃ w0, w.alloc (.cells #[.bool false, .int .i64 0] 38) = w0 := ⟨_, rfl⟩
  rw [hw0] at hL k0 nb
  obtain ⟨B, hB⟩ : ∃ B, w.heap.size = B := ⟨_, rfl⟩
  rw [hB] at nb
  have hma := made_ok hL
  obtain ⟨_, _, _, _, c4, _⟩ := hL.cells
  have hlo := hL.om.look keyI hL.ook Try.underlying71 hr (zeroO w0) true
  rw [hL.oat] at hlo
  obtain ⟨pi, pd, hp⟩ : ∃ (pi : Bool) (pd : Int), (holdL L r).getD (false, 0) = (pi, pd) := ⟨_, _, rfl⟩
  have hv : ((holdL L r).map ekO).getD (ekO (false, 0)) = ekO ((holdL L r).getD (false, 0)) := by cases holdL L r <;> rfl
  rw [hv, hp] at hlo
  rw [hp]
  simp only [ekI, ekO, if_true] at hlo ⊢
  have f0 := nb.frozen 0
  have f1 := nb.frozen 1
  have b0 := nb.cell 0 rfl
  have b1 := nb.cell 1 rfl
  have NB := Lib.hid nb
  have K0 := Lib.hid k0
  have HL := Lib.hid hL
  clear hv hp hL nb k0 h
  go_enter Try.func13, Try.ntmps13
  go_upto_region 3 with (go_at_call 31; refine hma.mono ?_; rintro e w1 ⟨rfl, rfl⟩)
  go_upto_region 4 with fail
  have kx := (Kept.refl (fun _ => False) w0).alloc (.cells #[.bool pi, .int .i64 pd] 38)
  have nx := Blk.new w0 [.bool pi, .int .i64 pd] 38
  have nb1 := NB.out.kept kx (fun x => x)
  have K1 := K0.out.then kx (fun _ x => x.elim)
  obtain ⟨w1, hw1⟩ : ∃ w1, w0.alloc (.cells #[.bool pi, .int .i64 pd] 38) = w1 := ⟨_, rfl⟩
  obtain ⟨X, hX⟩ : ∃ X, w0.heap.size = X := ⟨_, rfl⟩
  rw [hw1] at nx nb1 K1 ⊢
  rw [hX] at nx
  have K1 := Lib.hid K1
  simp only [hX]
  have b0 := nb1.cell 0 rfl
  have b1 := nb1.cell 1 rfl
  have f0 := nb1.frozen 0
  have f1 := nb1.frozen 1
  have x0 := nx.cell 0 rfl
  have x1 := nx.cell 1 rfl
  have hBX : B < X := by rw [← hX]; exact NB.out.lt
  clear kx hw1 hX hlo c4 hma hw0
  go_wp2_with fail
  have KF : Kept (fun _ => False) w ((w1.setCell ⟨B, 0, none⟩ (.bool pi)).setCell ⟨B, 1, none⟩ (.int .i64 pd)) := (K1.out.set (b := B) 0 (Or.inr (by omega)) _).set (b := B) 1 (Or.inr (by omega)) _
  refine bodyPost_ret (v := .tuple #[.agg #[.bool pi, .int .i64 pd], .bool (holdL L r).isSome]) (by rw [results_cell_tmp rfl]; go_simp) rfl ⟨rfl, KF⟩
set_option maxRecDepth 100000 in
set_option maxHeartbeats 4000000 in
theorem has_ok (h : IsLk w b M T L In G) {i : Int} (hi : I64 i) : Calls Try.prog 56 #[.pointer (some ⟨b, 0, none⟩), .int .i64 i] w fun e w' => e = .returned (.bool (inAt In i)) ∧ w = w' := by
  have hma := made_ok h
  obtain ⟨_, _, _, _, _, c5, _⟩ := h.cells
  have hl := h.em.look keyI h.eok Try.underlying72 hi (zeroB w) false
  rw [h.eat] at hl
  have hl2 : (Instr.lookup 72 (.map (some M.eb)) (.int .i64 i) false).run Try.prog w = .ok (.bool (inAt In i)) w := by
    cases hi : inAt In i <;> rw [hi] at hl <;> exact hl
  clear hl h
  go_enter Try.func56, Try.ntmps56
  go_wp2_with (go_at_call 31; refine hma.mono ?_; rintro e w1 ⟨rfl, rfl⟩)
  go_ret
  exact ⟨rfl, rfl⟩
/-- who has entered -/
theorem IsLk.enter {E' : List (Int × Bool)} {In' : List Bool} (h : IsLk w b M T L In G) (hE : ∀ i : Int, getA E' i = if inAt In' i = true then some true else none) (hok : ∀ p ∈ E', I64 p.1) (hl : In'.length = In.length) (hm : IsMap w' ekI evB M.eb E') (k : Kept (fun g => g = M.eb) w w') : Lt w w' b M T L In' G := by
  have l3 : lmut b M M.eb := Or.inr (Or.inr (Or.inr (Or.inl rfl)))
  refine ⟨{ M with E := E' }, ?_, ⟨rfl, rfl, rfl, rfl, rfl, rfl, rfl⟩, k.mono (fun g _ e => by rw [e]; exact l3), fun g hg => Or.inl hg⟩
  refine { blk := h.blk.kept k (blk_ne_map h.blk h.em), fx := (h.fx.kept k (fun g hg e => h.sep g hg (by rw [e]; exact l3))).to, hm := h.hm.kept k (fun e => h.nb.2.1 e), om := h.om.kept k (fun e => h.nb.2.2 e), em := hm, hok := h.hok, ook := h.ook, eok := hok, hat := fun p => ?_, oat := h.oat, eat := hE, inv := h.inv, li := hl.trans h.li, ap := h.ap, hd := h.hd, nb := h.nb, sep := h.sep }
  have h2 := h.hat p
  show StkAt w' T L p (getA M.H p)
  cases hq : getA M.H p with
  | none => rw [hq] at h2; exact h2
  | some q =>
    rw [hq] at h2
    exact ⟨h2.1, h2.2.kept k (fun g hg => (h.hd p q hq g hg).2.2.2)⟩
/-- the row of a task -/
def inlT (T : Tb) (i : Int) : Option Int := (rowT T (false, i)).map (·.inl)
/-- a task enters or leaves: the answer; who has entered behind it -/
def enterL (T : Tb) (In : List Bool) (i : Int) (on : Bool) : Int × List Bool :=
  match inlT T i with
  | none => (2, In)
  | some z => (0, In.set i.toNat (on && decide (0 ≤ z)))
theorem task_at {i : Int} {x : RowR} (h : rowT T (false, i) = some x) : 0 ≤ i ∧ i.toNat < T.tasks.length := by
  unfold rowT at h
  by_cases hn : i < 0
  · rw [if_pos hn] at h; cases h
  · rw [if_neg hn] at h
    simp only [Bool.false_eq_true, if_false, Option.map_eq_some_iff] at h
    obtain ⟨y, hy, _⟩ := h
    exact ⟨by omega, (List.getElem?_eq_some_iff.1 hy).1⟩
theorem inAt_set {i j : Int} {v : Bool} (h0 : 0 ≤ i) (h1 : i.toNat < In.length) : inAt (In.set i.toNat v) j = if i = j then v else inAt In j := by
  unfold inAt
  by_cases e : i = j
  · subst e
    rw [if_pos rfl, List.getElem?_set_self h1]
    simp [h0]
  · rw [if_neg e]
    by_cases hj : 0 ≤ j
    · rw [List.getElem?_set_ne (fun e2 => e (by omega))]
    · simp [hj]
set_option maxRecDepth 100000 in
set_option maxHeartbeats 4000000 in
theorem enter_ok (h : IsLk w b M T L In G) {i : Int} (hi : I64 i) (on : Bool) : Calls Try.prog 30 #[.pointer (some ⟨b, 0, none⟩), .int .i64 i, .bool on] w fun e w' =>
    e = .returned (.int .i64 (enterL T In i on).1) ∧ Lt w w' b M T L (enterL T In i on).2 G := by
  have hma := made_ok h
  obtain ⟨c0, _, _, _, _, c5, _⟩ := h.cells
  rcases h.fx.rowAt (o := (false, i)) hi with ⟨y, hry, hr, _, hlt, _⟩ | ⟨hr, hlt, _⟩
  · have l1 := hlt w (Kept.refl _ _)
    simp only [ekO] at l1
    have hz : inlT T i = some y.inl := by unfold inlT; rw [hr]; rfl
    have hEn : enterL T In i on = (0, In.set i.toNat (on && decide (0 ≤ y.inl))) := by unfold enterL; rw [hz]
    rw [hEn]
    obtain ⟨In2, hI2⟩ : ∃ In2, In.set i.toNat (on && decide (0 ≤ y.inl)) = In2 := ⟨_, rfl⟩
    rw [hI2]
    obtain ⟨t0, t1⟩ := task_at hr
    have hlen := h.li
    have HH := Lib.hid h
    have kx := (Kept.refl (fun _ => False) w).alloc (.cells #[.int .i64 y.pr, .slice y.oa y.own.length y.oc, .int .i64 y.inl, .int .i64 y.cat] 79)
    have hL1 := h.same kx
    have nx := Blk.new w [.int .i64 y.pr, .slice y.oa y.own.length y.oc, .int .i64 y.inl, .int .i64 y.cat] 79
    clear hlt hry hr hz hEn h
    have mkE : ∀ (w1 w2 : World) (v : Bool) (E' : List (Int × Bool)), v = (on && decide (0 ≤ y.inl)) → (∀ j, getA E' j = if i = j then (if v = true then some true else none) else getA M.E j) → (∀ p ∈ E', I64 p.1) → IsLk w1 b M T L In G → Kept (fun _ => False) w w1 → IsMap w2 ekI evB M.eb E' → Kept (fun g => g = M.eb) w1 w2 → Lt w w2 b M T L In2 G := by
      rintro w1 w2 v E' rfl hE hok hLw k1 hm k2
      rw [← hI2]
      refine Lt.after (Ag.refl M) (k1.mono (fun _ _ x => x.elim)) (fun g hg => Or.inl hg) (hLw.enter (fun j => ?_) hok (by simp) hm k2)
      rw [hE, inAt_set t0 (by rw [hlen]; exact t1)]
      by_cases e : i = j
      · rw [if_pos e, if_pos e]
      · rw [if_neg e, if_neg e, hLw.eat]
    have MK := Lib.hid mkE
    clear mkE hI2
    go_enter Try.func30, Try.ntmps30
    go_upto_region 6 with (go_at_call 31; refine hma.mono ?_; rintro e w1 ⟨rfl, rfl⟩)
    obtain ⟨w1, hw1⟩ : ∃ w1, w.alloc (.cells #[.int .i64 y.pr, .slice y.oa y.own.length y.oc, .int .i64 y.inl, .int .i64 y.cat] 79) = w1 := ⟨_, rfl⟩
    obtain ⟨X, hX⟩ : ∃ X, w.heap.size = X := ⟨_, rfl⟩
    rw [hw1] at kx hL1 nx ⊢
    rw [hX] at nx
    simp only [hX]
    have x2 := nx.cell 2 rfl
    obtain ⟨_, _, _, _, _, c5, _⟩ := hL1.cells
    have HL1 := Lib.hid hL1
    have KX := Lib.hid kx
    clear hw1 hX hma l1 c0 nx hL1 kx
    cases on with
    | true =>
      by_cases hin : 0 ≤ y.inl
      · have d : decide (0 ≤ y.inl) = true := by simpa using hin
        go_wp2_with (at_mapUpdate; refine wpList_store _ rfl _ _ _ _ rfl HL1.out.em keyI HL1.out.eok Try.underlying72 rfl i rfl hi true rfl ?_; intro w2 hm2 k2 _)
        go_ret
        exact ⟨rfl, MK.out _ _ true _ (by rw [d]; rfl) (fun j => by rw [getA_put]; rfl) (put_ok HL1.out.eok hi) HL1.out KX.out hm2 k2⟩
      · have d : decide (0 ≤ y.inl) = false := by simpa using hin
        go_wp2_with (at_delete; refine wpList_drop _ rfl _ _ _ _ rfl HL1.out.em keyI HL1.out.eok Try.underlying72 rfl i rfl hi ?_; intro w2 hm2 k2 _)
        go_ret
        exact ⟨rfl, MK.out _ _ false _ (by rw [d]; rfl) (fun j => by rw [getA_del]; rfl) (del_ok HL1.out.eok) HL1.out KX.out hm2 k2⟩
    | false =>
      go_wp2_with (at_delete; refine wpList_drop _ rfl _ _ _ _ rfl HL1.out.em keyI HL1.out.eok Try.underlying72 rfl i rfl hi ?_; intro w2 hm2 k2 _)
      go_ret
      exact ⟨rfl, MK.out _ _ false _ (by rfl) (fun j => by rw [getA_del]; rfl) (del_ok HL1.out.eok) HL1.out KX.out hm2 k2⟩
  · have l1 := hlt w (Kept.refl _ _)
    simp only [ekO] at l1
    have hz : inlT T i = none := by unfold inlT; rw [hr]; rfl
    have hEn : enterL T In i on = (2, In) := by unfold enterL; rw [hz]
    rw [hEn]
    have HH := Lib.hid h
    clear hlt hr hz hEn h
    go_enter Try.func30, Try.ntmps30
    go_wp2_with (go_at_call 31; refine hma.mono ?_; rintro e w1 ⟨rfl, rfl⟩)
    go_ret
    exact ⟨rfl, Lt.same HH.out ((Kept.refl _ _).alloc _)⟩
end
end Go.Proofs.Ytnfpiocjdhipcaa.LK
