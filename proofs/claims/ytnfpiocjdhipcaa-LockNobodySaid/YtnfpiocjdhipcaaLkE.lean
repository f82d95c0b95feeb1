/- lock.Lock: Get. -/
import Derived.Test.YtnfpiocjdhipcaaLkC
import Derived.Test.YtnfpiocjdhipcaaLkD
namespace Go.Proofs.Ytnfpiocjdhipcaa.LK
open Go.RowKit Go.Fr Go.Tb
attribute [local go_sem] Oper.semAt_some

section
variable {w w' : World} {b : Nat} {M : Lm} {T : Tb} {L : List Take} {In : List Bool} {G : Gt} {S : Nat → Prop} {o : Ow} {r : Int}
theorem Lt.same (h : IsLk w b M T L In G) (k : Kept (fun _ => False) w w') : Lt w w' b M T L In G := ⟨M, h.same k, Ag.refl M, k.mono (fun _ _ x => x.elim), fun _ hg => Or.inl hg⟩
/-- an owner's stack -/
theorem stackOf_ok {x : RowR} (h : IsLk w b M T L In G) (ho : okO o) (hx : rowT T o = some x) : Calls Try.prog 27 #[.pointer (some ⟨b, 0, none⟩), ekO o] w fun e w' =>
    ∃ (M' : Lm) (s : StkP), e = .returned (.pointer (some ⟨s.b, 0, none⟩)) ∧ IsLk w' b M' T L In G ∧ getA M'.H o = some s ∧ M'.O = M.O ∧ Ag M M' ∧ Kept (lmut b M) w w' ∧ ∀ g, lmut b M' g → lmut b M g ∨ w.heap.size ≤ g := by
  cases hs : getA M.H o with
  | some s =>
    refine (stackOf_some h ho hs).mono ?_
    rintro e w' ⟨rfl, k⟩
    exact ⟨M, s, rfl, h.same k, hs, rfl, Ag.refl M, k.mono (fun _ _ x => x.elim), fun _ hg => Or.inl hg⟩
  | none =>
    refine (stackOf_none h ho hs hx (h.fx.sm o x hx)).mono ?_
    rintro e w' ⟨s, rfl, hd, hb, hv, hL, k⟩
    refine ⟨_, s, rfl, hL, by show getA (putA M.H o s) o = _; rw [getA_put, if_pos rfl], rfl, ⟨rfl, rfl, rfl, rfl, rfl, rfl, rfl⟩, k.mono (fun g _ e => Or.inr (Or.inl e)), ?_⟩
    rintro g (e | e | e | e | ⟨p, hp, hg⟩)
    · exact Or.inl (Or.inl e)
    · exact Or.inl (Or.inr (Or.inl e))
    · exact Or.inl (Or.inr (Or.inr (Or.inl e)))
    · exact Or.inl (Or.inr (Or.inr (Or.inr (Or.inl e))))
    · rcases mem_put hp with rfl | hp
      · rcases hg with rfl | hg
        · exact Or.inr hb
        · rw [show (o, s).2.v = s.v from rfl, hv] at hg
          cases hg
      · exact Or.inl (Or.inr (Or.inr (Or.inr (Or.inr ⟨p, hp, hg⟩))))
/-- Push, where there is room -/
theorem push_at {s : StkP} (h : IsLk w b M T L In G) (hs : getA M.H o = some s) (hd : (heldL L o).length < s.d) (hd2 : s.d ≤ 1024) : Calls Try.prog 34 #[.pointer (some ⟨s.b, 0, none⟩), .int .i64 r] w fun e w' => e = .returned (.int .i64 0) ∧
    ∃ v' h', SI.IsStk w' s.b v' s.d h' (heldL L o ++ [r]) ∧ Kept (SI.foot s.b s.v) w w' ∧ ∀ i, SI.foot s.b v' i → SI.foot s.b s.v i ∨ w.heap.size ≤ i := by
  refine (SI.push_room r (h.stk hs) hd hd2).mono ?_
  rintro e w' ⟨rfl, v', h1, k, hf⟩
  exact ⟨rfl, v', _, h1, k, hf⟩
theorem lmut_lt (h : IsLk w b M T L In G) {B : Nat} (hB : B = w.heap.size) : ∀ g, lmut b M g → g ≠ B := fun g hg e => by have := h.mlt g hg; omega

set_option maxRecDepth 100000 in
set_option maxHeartbeats 8000000 in
theorem get_no (h : IsLk w b M T L In G) (ho : okO o) (hk : knownT T o r = false) : Calls Try.prog 11 #[.pointer (some ⟨b, 0, none⟩), ekO o, .int .i64 r] w fun e w' => e = .returned (.int .i64 3) ∧ Kept (fun _ => False) w w' := by
  obtain ⟨oi, id⟩ := o
  have k0 := (Kept.refl (fun _ => False) w).alloc (.cells #[.bool oi, .int .i64 id] 38)
  have nb := Blk.new w [.bool oi, .int .i64 id] 38
  have hL := h.same k0
  obtain ⟨w0, hw0⟩ : ∃ w0, w.alloc (.cells #[.bool oi, .int .i64 id] 38) = w0 := ⟨_, rfl⟩
  rw [hw0] at hL k0 nb
  obtain ⟨B, hB⟩ : ∃ B, w.heap.size = B := ⟨_, rfl⟩
  rw [hB] at nb
  have b0 := nb.cell 0 rfl
  have b1 := nb.cell 1 rfl
  have hkn := known_ok hL ho r
  rw [hk] at hkn
  simp only [ekO] at hkn
  have K0 := Lib.hid k0
  clear nb hL k0 hk h ho
  show Calls Try.prog 11 #[.pointer (some ⟨b, 0, none⟩), .agg #[.bool oi, .int .i64 id], .int .i64 r] w _
  go_enter Try.func11, Try.ntmps11
  go_wp2_with (go_at_call 26; refine hkn.mono ?_; rintro e w1 ⟨rfl, k1⟩)
  go_ret
  exact ⟨rfl, K0.out.then k1 (fun _ x => x.elim)⟩
theorem Lt.after {w1 w2 : World} {M1 : Lm} {L' : List Take} {In' : List Bool} {G' : Gt} (hA : Ag M M1) (k : Kept (lmut b M) w w1) (hn : ∀ g, lmut b M1 g → lmut b M g ∨ w.heap.size ≤ g) (h : Lt w1 w2 b M1 T L' In' G') : Lt w w2 b M T L' In' G' := by
  obtain ⟨M2, h2, hA2, k2, hn2⟩ := h
  refine ⟨M2, h2, hA.trans hA2, k.then k2 hn, fun g hg => ?_⟩
  rcases hn2 g hg with e | e
  · exact hn g e
  · exact Or.inr (Nat.le_trans k.size e)
theorem Kept.undrew1 {S : Nat → Prop} {w w' : World} (h : Kept S w.drew w') : Kept S w w' := ⟨h.os, h.tape, h.output, h.size, h.block⟩

set_option maxRecDepth 100000 in
set_option maxHeartbeats 16000000 in
theorem get_yes {x : RowR} (h : IsLk w b M T L In G) (ho : okO o) (hr : I64 r) (hk : knownT T o r = true) (hx : rowT T o = some x) : Calls Try.prog 11 #[.pointer (some ⟨b, 0, none⟩), ekO o, .int .i64 r] w fun e w' =>
    e = .returned (.int .i64 (if mayL T L o r then 0 else 1)) ∧ Lt w w' b M T (if mayL T L o r then L ++ [(o, r)] else L) In G := by
  obtain ⟨oi, id⟩ := o
  obtain ⟨mv, hmv⟩ : ∃ mv, mayL T L (oi, id) r = mv := ⟨_, rfl⟩
  rw [hmv]
  have hres : resT T r = true := by
    unfold knownT at hk
    simp only [Bool.and_eq_true] at hk
    exact hk.2
  obtain ⟨k, rfl⟩ : ∃ k : Nat, r = k := by
    unfold resT at hres
    simp only [Bool.and_eq_true, decide_eq_true_eq] at hres
    exact ⟨r.toNat, by omega⟩
  obtain ⟨yv, hyv⟩ : ∃ yv, T.ress[k]? = some yv := by
    unfold resT at hres
    cases hq : T.ress[k]? with
    | some yv => exact ⟨yv, rfl⟩
    | none => simp [hq] at hres
  have hceil : ceilT T (k : Int) = yv.2 := by unfold ceilT; simp [hyv]
  have hkl := (List.getElem?_eq_some_iff.1 hyv).1
  have k0 := (Kept.refl (fun _ => False) w).alloc (.cells #[.bool oi, .int .i64 id] 38)
  have nb := Blk.new w [.bool oi, .int .i64 id] 38
  have hL := h.same k0
  have hBm := lmut_lt h rfl
  obtain ⟨w0, hw0⟩ : ∃ w0, w.alloc (.cells #[.bool oi, .int .i64 id] 38) = w0 := ⟨_, rfl⟩
  rw [hw0] at hL k0 nb
  obtain ⟨B, hB⟩ : ∃ B, w.heap.size = B := ⟨_, rfl⟩
  rw [hB] at nb hBm
  have b0 := nb.cell 0 rfl
  have b1 := nb.cell 1 rfl
  have hkn := known_ok hL ho (k : Int)
  rw [hk] at hkn
  simp only [ekO] at hkn
  have HX := Lib.hid hx
  have HR := Lib.hid hr
  have HO := Lib.hid ho
  have HH := Lib.hid h
  have HKN := Lib.hid hk
  have HMV := Lib.hid hmv
  clear hk hres hr hx ho h
  show Calls Try.prog 11 #[.pointer (some ⟨b, 0, none⟩), .agg #[.bool oi, .int .i64 id], .int .i64 k] w _
  go_enter Try.func11, Try.ntmps11
  go_upto_region 3 with (go_at_call 26; refine hkn.mono ?_; rintro e w1 ⟨rfl, k1⟩)
  have hL1 := hL.same k1
  have nb1 := nb.kept k1 (fun x => x)
  have K1 := Lib.hid (k0.then k1 (fun _ x => x.elim))
  have HB := Lib.hid hB
  clear b0 b1 hkn nb hL k0 k1 hw0 hB
  have b0 := nb1.cell 0 rfl
  have b1 := nb1.cell 1 rfl
  obtain ⟨c0, _⟩ := hL1.cells
  rcases hL1.fx.rowAt HO.out with ⟨y, hry, hry2, hcam, _, hlf⟩ | ⟨hr0, _⟩
  rotate_left
  · rw [HX.out] at hr0
    cases hr0
  have hxy : x = y.r := by
    have := HX.out.symm.trans hry2
    cases this
    rfl
  have l1 := hlf w1.drew ((Kept.refl _ _).drew)
  have l2 := hlf (w1.alloc (.cells #[.int .i64 0, .slice none 0 0, .int .i64 0, .int .i64 0] 79)).drew (((Kept.refl _ _).alloc _).drew)
  have kr : Kept (fun _ => False) w1 (w1.alloc (.cells #[.int .i64 0, .slice none 0 0, .int .i64 0, .int .i64 0] 79)) := (Kept.refl _ _).alloc _
  have d0 := (hL1.same kr).cells.1
  have d1 := (nb1.kept kr (fun x => x)).cell 0 rfl
  have d2 := (nb1.kept kr (fun x => x)).cell 1 rfl
  simp only [ekO] at l1 l2
  have HL1 := Lib.hid hL1
  have NB1 := Lib.hid nb1
  have HC1 := Lib.hid hcam
  have HRY := Lib.hid hry2
  clear kr hlf hL1 nb1 hcam hry hry2
  go_cut [7] from 15 to 21 (fun q wx => ∃ g9, q = .pointer (some ⟨g9, 0, none⟩) ∧ wx.cell? ⟨g9, 0, none⟩ = some (.int .i64 y.pr) ∧ wx.cell? ⟨g9, 1, none⟩ = some (.slice y.oa y.own.length y.oc) ∧ Hid (Kept (fun _ => False) w1 wx))
  case first =>
    have NB := Lib.hid (Blk.new w1 [.int .i64 y.pr, .slice y.oa y.own.length y.oc, .int .i64 y.inl, .int .i64 y.cat] 79)
    go_region
    all_goals
      go_wp2_with fail
      go_meet
      exact ⟨_, rfl, NB.out.cell 0 rfl, NB.out.cell 1 rfl, ((Kept.refl _ _).alloc _).drew⟩
  case rest =>
    obtain ⟨g9, rfl, r0, r1, hKc⟩ := hcut
    clear l1 l2 d0 d1 d2 b0 b1 c0
    have hLc := HL1.out.same hKc.out
    obtain ⟨_, _, _, _, c4, _⟩ := hLc.cells
    have hlo := hLc.om.look keyI hLc.ook Try.underlying71 HR.out (zeroO wc) true
    rw [hLc.oat] at hlo
    simp only [ekI, if_true] at hlo
    have KC := Lib.hid (K1.out.then hKc.out (fun _ x => x.elim))
    have NBC := Lib.hid (NB1.out.kept hKc.out (fun x => x))
    have HLC := Lib.hid hLc
    have HCC := Lib.hid (camel_kept HC1.out hKc.out (fun _ _ x => x))
    clear HL1 NB1 K1 HC1 hLc hKc
    cases hh : holdL L k with
    | some p =>
      rw [hh] at hlo
      obtain ⟨pi, pd⟩ := p
      simp only [Option.map_some, Option.getD_some, Option.isSome_some, ekO] at hlo
      have hm : mv = false := by
        rw [← hmv]
        unfold mayL
        rw [HX.out]
        simp [hh]
      subst hm
      go_upto_region 5 with fail
      have kz := (Kept.refl (fun _ => False) wc).alloc (.cells #[.bool pi, .int .i64 pd] 38)
      go_quiet (fail)
      go_wp2_with fail
      go_ret
      exact ⟨rfl, Lt.same HH.out ((KC.out.then kz (fun _ x => x.elim)).drewN _)⟩
    | none =>
      rw [hh] at hlo
      simp only [Option.map_none, Option.getD_none, Option.isSome_none, ekO] at hlo
      have HHN := Lib.hid hh
      clear hh
      go_upto_region 5 with fail
      have kz := (Kept.refl (fun _ => False) wc).alloc (.cells #[.bool false, .int .i64 0] 38)
      obtain ⟨w3, hw3⟩ : ∃ w3, wc.alloc (.cells #[.bool false, .int .i64 0] 38) = w3 := ⟨_, rfl⟩
      rw [hw3] at kz ⊢
      have g9l := World.block_lt_of_cell? wc ⟨g9, 0, none⟩ r0
      have r0 := (kz.cell (p := ⟨g9, 0, none⟩) g9l (fun x => x)).trans r0
      have r1 := (kz.cell (p := ⟨g9, 1, none⟩) g9l (fun x => x)).trans r1
      have hL3 := HLC.out.same kz
      have NB3 := Lib.hid (NBC.out.kept kz (fun x => x))
      have K3 := Lib.hid (KC.out.then kz (fun _ x => x.elim))
      have hC3 := camel_kept HCC.out kz (fun _ _ x => x)
      obtain ⟨_, _, c2, _⟩ := hL3.cells
      obtain ⟨ca, cc, e2, hce⟩ := hL3.fx.cei
      rw [e2, List.length_map] at c2
      obtain ⟨gb, off, rfl, _, g1⟩ := camel_one hce (k := k) (x := yv.2) (by rw [List.getElem?_map, hyv]; rfl) (v := .int .i64 yv.2) rfl
      have hk0 : (0 : Int) ≤ (k : Int) := by omega
      have hk1 : (k : Int) < (T.ress.length : Int) := by omega
      have hsm : y.own.length ≤ 1024 := hL3.fx.sm _ _ HRY.out
      have HCO : Hid (∀ n, Calls Try.prog 33 #[.slice y.oa y.own.length y.oc, .int .i64 k] (w3.drewN n) fun e w' => e = .returned (.bool (decide ((k : Int) ∈ y.own))) ∧ w' = w3.drewN n) := fun n => by
        refine (contains_ok (c := y.oc) (k : Int) (camel_kept hC3 ((Kept.refl (fun _ => False) w3).drewN n) (fun _ _ x => x)) hsm).mono ?_
        rintro e w' ⟨rfl, rfl⟩
        exact ⟨rfl, rfl⟩
      have hmv2 : mv = (decide ((k : Int) ∈ y.own) && decide (y.pr ≤ yv.2)) := by
        rw [← hmv]
        unfold mayL
        rw [HRY.out]
        simp only [HHN.out, Option.isNone_none, Bool.and_true, hceil]
        rfl
      have HL3 := Lib.hid hL3
      clear kz hw3 hL3 hce hC3 hsm hmv hlo c4 g9l
      by_cases q1 : (k : Int) ∈ y.own
      · have d1 : decide ((k : Int) ∈ y.own) = true := by simpa using q1
        rw [d1] at HCO hmv2
        by_cases q2 : y.pr ≤ yv.2
        · have d2 : decide (y.pr ≤ yv.2) = true := by simpa using q2
          have d3 : decide (yv.2 < y.pr) = false := by simpa using q2
          rw [d2] at hmv2
          obtain rfl : mv = true := hmv2
          go_quiet (first | (go_at_call 33; refine Calls.quiet_of_same (HCO.out _)))
          obtain ⟨w4, hw4⟩ : ∃ w4, w3.drewN nq = w4 := ⟨_, rfl⟩
          have k4 : Kept (fun _ => False) w3 w4 := by rw [← hw4]; exact (Kept.refl _ _).drewN nq
          rw [hw4]
          clear hw4 HCO r0 r1 c2 g1 d1 d2 d3
          have HL4 := Lib.hid (HL3.out.same k4)
          have nb4 := NB3.out.kept k4 (fun x => x)
          have K4 := Lib.hid (K3.out.then k4 (fun _ x => x.elim))
          have HSO := Lib.hid (stackOf_ok HL4.out HO.out HRY.out)
          have b0 := nb4.cell 0 rfl
          have b1 := nb4.cell 1 rfl
          have NB4 := Lib.hid nb4
          clear nb4 k4 HL3 NB3 K3
          simp only [ekO] at HSO
          have hnn := HHN.out
          have HMem := Lib.hid q1
          clear q1 q2
          go_upto_region 8 with (first
            | (go_at_call 27; refine HSO.out.mono ?_; rintro e w5 ⟨M', s, rfl, hL5, hs5, hO5, hA5, k5, hn5⟩
               have HP := Lib.hid (push_at (r := (k : Int)) hL5 hs5 (by
                 have h1 := hL5.hat (oi, id)
                 rw [hs5] at h1
                 obtain ⟨⟨x', hx', hd'⟩, _⟩ := h1
                 rw [HRY.out] at hx'
                 cases hx'
                 have h2 := held_lt hL5.inv HRY.out HMem.out hnn
                 omega) (by
                 have h1 := hL5.hat (oi, id)
                 rw [hs5] at h1
                 obtain ⟨⟨x', hx', hd'⟩, _⟩ := h1
                 have h2 := hL5.fx.sm _ _ hx'
                 omega))
               have HL5 := Lib.hid hL5
               have nb5 := NB4.out.kept k5 (fun e => hBm _ ((by exact e)) rfl)
               clear hL5 b0 b1)
            | (go_at_call 34; refine HP.out.mono ?_; rintro e w6 ⟨rfl, v', h', hs6, k6, hf6⟩))
          have hL5 := HL5.out
          have hmB : ∀ g, lmut b M' g → g ≠ B := fun g hg e => by
            rcases hn5 g hg with h1 | h1
            · exact hBm g h1 e
            · have := NB4.out.lt
              omega
          have nb6 := nb5.kept k6 (fun e => hmB B (hL5.foot hs5 B e) rfl)
          have b0 := nb6.cell 0 rfl
          have b1 := nb6.cell 1 rfl
          have hd5 := hL5.hd _ s hs5
          have c4 := (hL5.blk.kept k6 (fun e => (hd5 _ e).1 rfl)).cell 4 (v := .map (some M'.ob)) rfl
          have om6 := hL5.om.kept k6 (fun e => (hd5 _ e).2.2.1 rfl)
          obtain ⟨w7, st, hm7, k7, _⟩ := (om6.kept ((Kept.refl (fun _ => False) w6).drew) (fun x => x)).store keyI hL5.ook Try.underlying71 HR.out ((oi, id) : Ow)
          simp only [ekI, ekO] at st
          have hoat := hL5.oat
          have hfin : Hid (∀ wf, Kept (fun _ => False) w7 wf → Lt w wf b M T (L ++ [((oi, id), (k : Int))]) In G) := fun wf kf => by
            have ht : Lt w4 w7 b M T (L ++ [((oi, id), (k : Int))]) In G := by
              refine Lt.after hA5 k5 hn5 (hL5.turn HO.out hs5 (L' := L ++ [((oi, id), (k : Int))]) (O' := putA M'.O (k : Int) ((oi, id) : Ow)) (l' := heldL L (oi, id) ++ [(k : Int)]) ?_ ?_ ?_ (put_ok hL5.ook HR.out) hs6 k6 hf6 hm7 (Kept.undrew1 k7))
              · have hg := inv_get (o := (oi, id)) (r := (k : Int)) hL5.inv
                rw [show getL T L (oi, id) (k : Int) = (0, L ++ [((oi, id), (k : Int))]) from by
                  unfold getL
                  rw [HKN.out, HMV.out]
                  rfl] at hg
                exact hg
              · intro p
                rw [held_app]
                by_cases e : ((oi, id) : Ow) = p
                · rw [if_pos e, if_pos e, e]
                · rw [if_neg e, if_neg e]
              · intro r'
                rw [getA_put, holdL_app hnn, hoat]
            obtain ⟨M2, g1, g2, g3, g4⟩ := ht
            have hK := K4.out
            exact ⟨M2, g1.same kf, g2, ((hK.mono (fun _ _ x => x.elim)).then g3 (fun i hi => Or.inl hi)).then kf (fun _ x => x.elim), fun g hg => (g4 g hg).imp (fun h1 => h1) (fun h1 => Nat.le_trans hK.size h1)⟩
          clear hs6 k6 hf6 hm7 k7 om6 hd5 hoat nb6 nb5 hmB hnn hL5 hn5 k5 hA5 hO5 hs5 HSO HP
          go_still_tail 6, (by kernel_rfl)
          change wpList _ _ _ _ _ w6.drew
          go_wp2_with fail
          go_ret
          exact ⟨rfl, hfin.out _ (Kept.refl _ _)⟩
        · have d2 : decide (y.pr ≤ yv.2) = false := by simpa using q2
          have d3 : decide (yv.2 < y.pr) = true := by simpa using q2
          rw [d2] at hmv2
          obtain rfl : mv = false := hmv2
          go_quiet (first | (go_at_call 33; refine Calls.quiet_of_same (HCO.out _)))
          go_wp2_with fail
          go_ret
          exact ⟨rfl, Lt.same HH.out (K3.out.drewN _)⟩
      · have d1 : decide ((k : Int) ∈ y.own) = false := by simpa using q1
        rw [d1] at HCO hmv2
        obtain rfl : mv = false := hmv2
        go_quiet (first | (go_at_call 33; refine Calls.quiet_of_same (HCO.out _)))
        go_wp2_with fail
        go_ret
        exact ⟨rfl, Lt.same HH.out (K3.out.drewN _)⟩
/-- Get -/
theorem get_ok (h : IsLk w b M T L In G) (ho : okO o) (hr : I64 r) : Calls Try.prog 11 #[.pointer (some ⟨b, 0, none⟩), ekO o, .int .i64 r] w fun e w' =>
    e = .returned (.int .i64 (getL T L o r).1) ∧ Lt w w' b M T (getL T L o r).2 In G := by
  unfold getL
  cases hk : knownT T o r with
  | false =>
    refine (get_no h ho hk).mono ?_
    rintro e w' ⟨rfl, k⟩
    exact ⟨rfl, Lt.same h k⟩
  | true =>
    cases hx : rowT T o with
    | none =>
      unfold knownT at hk
      rw [hx] at hk
      cases hk
    | some x =>
      refine (get_yes h ho hr hk hx).mono ?_
      rintro e w' ⟨rfl, hl⟩
      cases hm : mayL T L o r <;> rw [hm] at hl <;> exact ⟨rfl, hl⟩
end
end Go.Proofs.Ytnfpiocjdhipcaa.LK
