/- The document's board: Tick. -/
import Derived.Test.YtemhfonneggneaaRbE
namespace Go.Proofs.Ytemhfonneggneaa.RB
open Go.RowKit Go.Fr Go.Tb Go.Proofs.Ytemhfonneggneaa.CK
open Go.Proofs.Ytemhfonneggneaa.BD (Ob ob_nil infoI)
attribute [local go_sem] Oper.semAt_some

/-- does the j-th alarm hang on counter c? -/
def onC (T : Tb) (c : Nat) (j : Nat) : Bool := T.alarms[j]?.map (·.counter) == some (c : Int)
/-- the alarms behind a tick of counter c, the first k of them ticked -/
def tkA (T : Tb) (c : Nat) (A : List (Bool × Nat × Nat)) (k : Nat) : List (Bool × Nat × Nat) := A.mapIdx (fun j a => if decide (j < k) && onC T c j then tick1 a else a)
/-- those of the first k that expire -/
def fireA (T : Tb) (c : Nat) (A : List (Bool × Nat × Nat)) (k : Nat) : List Int := ((List.range k).filter (fun j => onC T c j && (A[j]?.map fires == some true))).map (fun j : Nat => (j : Int))
theorem tkA_len (T : Tb) (c : Nat) (A : List (Bool × Nat × Nat)) (k : Nat) : (tkA T c A k).length = A.length := by simp [tkA]
theorem tkA_zero (T : Tb) (c : Nat) (A : List (Bool × Nat × Nat)) : tkA T c A 0 = A := by
  apply List.ext_getElem?
  intro i
  simp only [tkA, List.getElem?_mapIdx]
  cases A[i]? <;> simp
theorem tkA_at (T : Tb) (c : Nat) (A : List (Bool × Nat × Nat)) (k : Nat) : (tkA T c A k)[k]? = A[k]? := by
  simp only [tkA, List.getElem?_mapIdx]
  cases A[k]? <;> simp
theorem tkA_succ {T : Tb} {c : Nat} {A : List (Bool × Nat × Nat)} {k : Nat} {a : Bool × Nat × Nat} (ha : A[k]? = some a) : tkA T c A (k + 1) = (tkA T c A k).set k (if onC T c k then tick1 a else a) := by
  apply List.ext_getElem?
  intro i
  rw [List.getElem?_set]
  have hk : k < A.length := (List.getElem?_eq_some_iff.1 ha).1
  by_cases hi : k = i
  · subst hi
    rw [if_pos rfl, if_pos (by rw [tkA_len]; exact hk)]
    simp only [tkA, List.getElem?_mapIdx, ha, Option.map_some]
    simp
  · rw [if_neg hi]
    simp only [tkA, List.getElem?_mapIdx]
    have : decide (i < k + 1) = decide (i < k) := by
      rw [Bool.eq_iff_iff, decide_eq_true_eq, decide_eq_true_eq]; omega
    rw [this]
theorem fireA_succ {T : Tb} {c : Nat} {A : List (Bool × Nat × Nat)} {k : Nat} {a : Bool × Nat × Nat} (ha : A[k]? = some a) : fireA T c A (k + 1) = fireA T c A k ++ (if onC T c k && fires a then [(k : Int)] else []) := by
  unfold fireA
  rw [List.range_succ, List.filter_append, List.map_append]
  congr 1
  rw [List.filter_cons, List.filter_nil, ha]
  cases onC T c k <;> cases h : fires a <;> simp [h]
theorem fireA_len (T : Tb) (c : Nat) (A : List (Bool × Nat × Nat)) (k : Nat) : (fireA T c A k).length ≤ k := by
  unfold fireA
  rw [List.length_map]
  exact Nat.le_trans (List.length_filter_le _ _) (by simp)
theorem Ob.kept {w wr wf : World} {ao : Option Addr} {c : Nat} {O : List Int} {S : Nat → Prop} (h : Ob w wr ao c O) (k : Kept S wr wf) (hS : ∀ g, w.heap.size ≤ g → ¬ S g) : Ob w wf ao c O := ⟨row_kept h.row k (fun g hg => hS g (h.own g hg)), h.own⟩

section
variable {w w' : World} {p : Nat} {M : Rm} {T : Tb} {V : List Nat} {A : List (Bool × Nat × Nat)} {R : List Bool} {S : Nat → Prop}
theorem tick_no {i : Int} (hs : IsRb w p M T V A R) (hi : ¬ (0 ≤ i ∧ i < V.length)) : Calls Try.prog 38 #[.pointer (some ⟨p, 0, none⟩), .int .i64 i] w fun e w' => e = .returned (.tuple #[.slice none 0 0, .int .i64 2]) ∧ w = w' := by
  obtain ⟨o1, k1, o2, k2, o3, k3, _, _, _, c13, _, _⟩ := hs.lists
  by_cases h : i < 0
  · have d0 : decide (i < 0) = true := by simpa using h
    go_enter Try.func38, Try.ntmps38
    go_wp2_with fail
    go_ret2
    exact ⟨rfl, rfl⟩
  · have d0 : decide (i < 0) = false := by simpa using h
    have d1 : decide ((V.length : Int) ≤ i) = true := by rw [decide_eq_true_eq]; omega
    go_enter Try.func38, Try.ntmps38
    go_wp2_with fail
    go_ret2
    exact ⟨rfl, rfl⟩
set_option maxRecDepth 100000 in
set_option maxHeartbeats 8000000 in
theorem tick_in {c now mx mn : Nat} {bs : Int} (hs : IsRb w p M T V A R) (hT : ∀ wx, Kept (rfoot p M) w wx → TabIn wx T) (hv : V[c]? = some now) (hr : T.counters[c]? = some ((mx : Int), bs, (mn : Int))) (hnow : now ≤ mx) (hmx : mx ≤ 2147483647) (_ : V.length ≤ 64) (hla : A.length ≤ 64)
    (hgood : ∀ a ∈ A, a.1 = true → 1 ≤ a.2.1 ∧ a.2.1 ≤ 4294967295) :
    Calls Try.prog 38 #[.pointer (some ⟨p, 0, none⟩), .int .i64 c] w fun e w' =>
    ∃ ao cc, e = .returned (.tuple #[.slice ao (fireA T c A A.length).length cc, .int .i64 0]) ∧ Ob w w' ao cc (fireA T c A A.length) ∧ IsRb w' p M T (V.set c (after mx now 1)) (tkA T c A A.length) R ∧ Kept (rfoot p M) w w' := by
  obtain ⟨i0, hi, hz0, hz1, hz2⟩ := info_parts infoI
  have hcv : c < V.length := (List.getElem?_eq_some_iff.1 hv).1
  have hcc : c < T.counters.length := (List.getElem?_eq_some_iff.1 hr).1
  have hc0 : (0 : Int) ≤ (c : Int) := by omega
  have hc1 : (c : Int) < (V.length : Int) := by omega
  have hc2 : (c : Int) < (T.counters.length : Int) := by omega
  have d1 : decide ((V.length : Int) ≤ (c : Int)) = false := by rw [decide_eq_false_iff_not]; omega
  have d2 : decide (V.length ≤ c) = false := by rw [decide_eq_false_iff_not]; omega
  obtain ⟨gv, cv, hmv, c13, q0, _, hfz, _⟩ := hs.val hv
  obtain ⟨_, _, c5, _, _⟩ := hs.tab
  obtain ⟨b5, o5, h5, _, hl5⟩ := camel_at (hT w (Kept.refl _ _)).counters hr
  rw [h5] at c5
  have f0 := hl5 0 _ rfl
  simp only [Nat.add_zero] at f0
  have hfv := hfz c
  have HS := Lib.hid hs
  have HV := Lib.hid hv
  obtain ⟨bm, hbm⟩ : ∃ bm : Bool, ((now : Int) == (mx : Int)) = bm := ⟨_, rfl⟩
  have HBM : Hid (bm = true ↔ now = mx) := by
    unfold Hid
    rw [← hbm, beq_iff_eq]; omega
  have LT := Lib.hid hs.lt
  have HLA := hs.lens.2.1
  have HG := Lib.hid hgood
  have HT := Lib.hid hT
  obtain ⟨x', hx'⟩ : ∃ x', after mx now 1 = x' := ⟨_, rfl⟩
  have haf : Hid (x' = if now = mx then 0 else now + 1) := by
    unfold Hid
    rw [← hx']
    unfold after
    rw [Nat.min_eq_left hnow]
    by_cases h : now = mx
    · rw [if_pos h]; subst h
      by_cases h0 : now = 0
      · subst h0; rfl
      · rw [Nat.mod_eq_of_lt (show 1 < now + 1 by omega)]; exact Nat.mod_self _
    · rw [if_neg h, Nat.mod_eq_of_lt (show 1 < mx + 1 by omega)]
      exact Nat.mod_eq_of_lt (by omega)
  rw [hx']
  clear hs hT hl5 h5 hmv hv hr hfz hgood hx'
  go_enter Try.func38, Try.ntmps38
  go_wp2_with fail
  go_quiet (fail)
  go_upto_if 35 with fail
  have kq := (Kept.refl (fun _ => False) w).drewN nq
  obtain ⟨wq, hwq⟩ : ∃ wq, w.drewN nq = wq := ⟨_, rfl⟩
  rw [hwq] at kq ⊢
  have HSq := Lib.hid (HS.out.same kq)
  have KQ := Lib.hid kq
  clear hwq kq c13 q0 c5 f0 hfv
  obtain ⟨gv, cv, hmv, c13, q0, _, hfz, _⟩ := HSq.out.val HV.out
  have hfv := hfz c
  have SET := Lib.hid (fun x => HSq.out.setV hmv hcv x)
  clear hmv hfz
  go_cut [] (fun wx => Hid (IsRb wx p M T (V.set c x') A R ∧ Kept (rfoot p M) w wx))
  case first =>
   as_aux_lemma =>
    have KR : Hid (Kept (rfoot p M) w wq) := KQ.out.mono (fun _ _ x => x.elim)
    cases bm with
    | true =>
      have hx0 : Hid (x' = 0) := by rw [Hid, haf.out, if_pos (HBM.out.1 rfl)]
      clear haf HBM hbm
      go_wp2_with fail
      go_meet
      obtain ⟨h1, h2⟩ := SET.out 0
      rw [hx0.out]
      exact ⟨h1, KR.out.then h2 (fun _ h => Or.inl h)⟩
    | false =>
      have hx0 : Hid (x' = now + 1) := by rw [Hid, haf.out, if_neg (fun h => by cases HBM.out.2 h)]
      have hnx : IntKind.u32.wrap ((now : Int) + 1) = ((now + 1 : Nat) : Int) := by rw [IntWalk.u32_in _ (by omega)]; omega
      clear haf HBM hbm
      go_wp2_with fail
      go_region
      all_goals
        go_wp2_with fail
        go_meet
        have h := SET.out (now + 1)
        rw [show ((now + 1 : Nat) : Int) = (now : Int) + 1 from by push_cast; rfl] at h
        rw [hx0.out]
        exact ⟨h.1.same ((Kept.refl _ _).drew), (KR.out.then h.2 (fun _ h => Or.inl h)).drew⟩
  case rest =>
    obtain ⟨w3, hw3⟩ : ∃ w3, w3 = wc := ⟨_, rfl⟩
    subst hw3
    have HC := Lib.hid hcut
    clear SET c13 q0 hfv hcut HBM hbm haf
    have B0 : Hid (Ob w3 w3 none 0 (fireA T c A 0)) := ob_nil w3
    have T0 : Hid (IsRb w3 p M T (V.set c x') (tkA T c A 0) R) := by rw [Hid, tkA_zero]; exact HC.out.out.1
    have LT3 : Hid (∀ g, rfoot p M g → g < w3.heap.size) := fun g hg => HC.out.out.1.lt g hg
    have KC : Hid (Kept (rfoot p M) w w3) := HC.out.out.2
    clear HC
    go_wp2_with fail
    go_loopw [6, 7] (fun l i wr => ∃ (k : Nat) (ao : Option Addr) (cc : Nat), k ≤ A.length ∧ i = .int .i64 k ∧ l = .slice ao (fireA T c A k).length cc ∧ Hid (IsRb wr p M T (V.set c x') (tkA T c A k) R) ∧ Hid (Ob w3 wr ao cc (fireA T c A k)) ∧ Hid (Kept (rfoot p M) w3 wr)) (fun _ i _ => A.length - (intOf i).toNat)
    case atStart => exact ⟨0, none, 0, Nat.zero_le _, rfl, rfl, T0, B0, Kept.refl _ _⟩
    case round =>
      clear T0 B0
      obtain ⟨k, ao, cc, hk, rfl, rfl, hS, hO, hK⟩ := hrel
      have htl := tkA_len T c A k
      by_cases hkl : k < A.length
      · obtain ⟨a, ha, hma⟩ := at_of hkl
        have hat := tkA_at T c A k
        rw [ha] at hat
        obtain ⟨g, cg, hv, c14, q0, q1, q2, _, hf, _⟩ := hS.out.look hat
        obtain ⟨_, _, _, c6, _⟩ := hS.out.tab
        obtain ⟨x, hx, _⟩ := at_of (l := T.alarms) (k := k) (by omega)
        obtain ⟨b6, o6, h6, _, hl6⟩ := camel_at (HT.out wr (KC.out.then hK.out (fun _ h => Or.inl h))).alarms hx
        rw [h6] at c6
        have e0 := hl6 0 _ rfl
        simp only [Nat.add_zero] at e0
        have hk0 : (0 : Int) ≤ (k : Int) := by omega
        have hk1 : (k : Int) < (A.length : Int) := by omega
        have hk1' : (k : Int) < ((tkA T c A k).length : Int) := by omega
        have hk2 : (k : Int) < (T.alarms.length : Int) := by omega
        have hon : onC T c k = decide (x.counter = (c : Int)) := by
          unfold onC
          rw [hx]
          rw [Bool.eq_iff_iff]
          simp
        have hts := tkA_succ (T := T) (c := c) ha
        have hfs := fireA_succ (T := T) (c := c) ha
        have hfl := fireA_len T c A k
        rw [hon] at hts hfs
        have hgd := HG.out a hma
        obtain ⟨xc, xk, xt, xm, xa, xi, xy⟩ := x
        dsimp only at e0 hts hfs
        obtain ⟨sa, lf, cy⟩ := a
        dsimp only at q0 q1 q2 hgd
        obtain ⟨O, hO'⟩ : ∃ O, fireA T c A k = O := ⟨_, rfl⟩
        obtain ⟨B, hB'⟩ : ∃ B, tkA T c A k = B := ⟨_, rfl⟩
        rw [hO'] at hO hfs hfl ⊢
        rw [hB'] at hS hts hat hv c14 htl hk1'
        rw [htl] at hv c14
        have HTS := Lib.hid hts
        have HFS := Lib.hid hfs
        have HAT := Lib.hid hat
        have HVM := Lib.hid hv
        have z1 := hf (k * 3 + 1)
        have z0 := hf (k * 3)
        have z2 := hf (k * 3 + 2)
        clear hts hfs hat hv ha hma hx hl6 h6 hon hO' hB' hf
        -- nothing is done
        have stay : Hid (tick1 (sa, lf, cy) = (sa, lf, cy) ∧ fires (sa, lf, cy) = false ∨ ¬ xc = (c : Int) → tkA T c A (k + 1) = B ∧ fireA T c A (k + 1) = O) := fun h => by
          have h1 := HTS.out
          have h2 := HFS.out
          rcases h with ⟨h3, h4⟩ | h3
          · rw [h3, ite_self, set_eq_of_getElem? HAT.out] at h1
            rw [h4, Bool.and_false, if_neg Bool.false_ne_true, List.append_nil] at h2
            exact ⟨h1, h2⟩
          · rw [decide_eq_false h3] at h1 h2
            rw [if_neg Bool.false_ne_true, set_eq_of_getElem? HAT.out] at h1
            rw [Bool.false_and, if_neg Bool.false_ne_true, List.append_nil] at h2
            exact ⟨h1, h2⟩
        cases sa with
        | false =>
          obtain ⟨e1, e2⟩ := stay.out (Or.inl ⟨rfl, rfl⟩)
          have HS5 : Hid (IsRb wr p M T (V.set c x') (tkA T c A (k + 1)) R) := by rw [Hid, e1]; exact hS.out
          have O5 : Hid (Ob w3 wr ao cc (fireA T c A (k + 1))) := by rw [Hid, e2]; exact hO.out
          have HL5 : Hid (O.length = (fireA T c A (k + 1)).length) := by rw [Hid, e2]
          clear e1 e2 stay HTS HFS hS hO
          go_wp2_with fail
          go_roundw
          case rel => exact ⟨k + 1, ao, cc, by omega, by go_num, by rw [HL5.out], HS5, O5, hK⟩
          case measure => simp [intOf]; omega
        | true =>
          have hlf := hgd rfl
          by_cases hxc : xc = (c : Int)
          · have d4 : (xc != (c : Int)) = false := by simpa using hxc
            have ht1 := HTS.out
            have hf1 := HFS.out
            rw [decide_eq_true hxc] at ht1 hf1
            rw [if_pos rfl] at ht1
            rw [Bool.true_and] at hf1
            obtain ⟨m, hm⟩ : ∃ m, lf - 1 = m := ⟨_, rfl⟩
            have hm1 : (lf : Int) - 1 = (m : Int) := by omega
            have hm2 : m ≤ 4294967295 := by omega
            have ht2 : Hid (tkA T c A (k + 1) = B.set k (if m = 0 then (if cy = 0 then (false, 0, 0) else (true, cy, cy)) else (true, m, cy))) := by
              rw [Hid, ht1]; unfold tick1; dsimp only; rw [if_pos rfl, hm]
            have hf2 : Hid (fireA T c A (k + 1) = O ++ (if m = 0 then [(k : Int)] else [])) := by
              rw [Hid, hf1]; unfold fires; dsimp only; rw [hm]
              by_cases h : m = 0 <;> simp [h]
            clear ht1 hf1 HTS HFS stay hxc hgd
            have SET := Lib.hid (hS.out.setA (c := cg) (by rw [htl]; exact HVM.out) HAT.out (i := 1) (true, m, cy) (u := .int .u32 m) (by decide) rfl)
            have hkB : k < B.length := by omega
            go_wp2_with fail
            go_cut [] from 87 to 103 (fun wx => Hid (IsRb wx p M T (V.set c x') (B.set k (true, m, cy)) R ∧ Kept (rfoot p M) wr wx))
            case first =>
             as_aux_lemma =>
              go_region
              all_goals
                go_wp2_with fail
                go_meet
                exact ⟨SET.out.1.same ((Kept.refl _ _).drew), SET.out.2.drew⟩
            case rest =>
              have HCB := Lib.hid hcut
              have hBk : Hid ((B.set k (true, m, cy))[k]? = some (true, m, cy)) := List.getElem?_set_self hkB
              have HO2 : Hid (Ob w3 wc ao cc O) := Ob.kept hO.out HCB.out.out.2 (fun g hg h => by have := LT3.out g h; omega)
              have HK2 : Hid (Kept (rfoot p M) w3 wc) := hK.out.then HCB.out.out.2 (fun _ h => Or.inl h)
              clear SET z0 z1 z2 q0 q1 q2 c14 hcut hS hO e0 c6
              obtain ⟨g', cg', hv', c14, q0, q1, q2, _, hf, _⟩ := HCB.out.out.1.look hBk.out
              rw [HVM.out] at hv'
              rw [List.length_set, htl] at hv' c14
              cases hv'
              dsimp only at q0 q1 q2
              by_cases hm0 : m = 0
              · subst hm0
                rw [if_pos rfl] at ht2 hf2
                have hsz := HK2.out.size
                go_upto_region 14 with (at_builtin; refine wpList_append_any rfl (.tmp 112) (.tmp 114) 40 rfl 3 i0 (.int .i64 0) 1 8 Try.underlying40 hi hz0 hz1 hz2 rfl (by decide) _ _ _ (O.map (Value.int .i64)) rfl (row_alloc HO2.out.row _) _ 1 1 [.int .i64 (k : Int)] rfl (shows_new _ [_] _ (by simp) rfl) (by simp [Value.oneCell']) (by unfold maxLen; omega) (by omega) ?_; intro ao5 c5 w5 r1 r2 r3)
                have O5 : Hid (Ob w3 w5 ao5 c5 (fireA T c A (k + 1))) := by rw [Hid, hf2.out]; exact HO2.out.snoc hsz r1 r3
                have KO : Hid (Kept (fun i => (Value.slice ao O.length cc).ownBlock = some i) wc w5) := ((Kept.refl _ wc).alloc _).grown r2 (fun i e => Or.inl e)
                have HS6 : Hid (IsRb w5 p M T (V.set c x') (B.set k (true, 0, cy)) R) := HCB.out.out.1.kept KO.out (fun g hg e => by have := HO2.out.own g e; have := LT3.out g hg; omega)
                have HK6 : Hid (Kept (rfoot p M) w3 w5) := HK2.out.then KO.out (fun i e => Or.inr (HO2.out.own i e))
                have HL5 : Hid (O.length + 1 = (fireA T c A (k + 1)).length) := by rw [Hid, hf2.out]; simp
                clear r1 r2 r3 HO2 KO HCB HK2 q0 q1 q2 hf c14
                obtain ⟨g', cg', hv', c14, q0, q1, q2, _, hf, _⟩ := HS6.out.look hBk.out
                rw [HVM.out] at hv'
                rw [List.length_set, htl] at hv' c14
                cases hv'
                dsimp only at q0 q1 q2
                have z1 := hf (k * 3 + 1)
                have z0 := hf (k * 3)
                have z2 := hf (k * 3 + 2)
                have hvm : M.a = .slice (some ⟨g, 0, none⟩) (B.set k (true, 0, cy)).length cg := by rw [List.length_set, htl]; exact HVM.out
                by_cases hcy : cy = 0
                · subst hcy
                  rw [if_pos rfl] at ht2
                  have SET := Lib.hid (HS6.out.setA3 hvm hBk.out false 0 0)
                  rw [List.set_set, ← ht2.out] at SET
                  clear hvm hf
                  go_wp2_with fail
                  go_roundw
                  case rel => exact ⟨k + 1, ao5, c5, by omega, by go_num, by rw [HL5.out], SET.out.1, Ob.kept O5.out SET.out.2 (fun g hg h => by have := LT3.out g h; omega), HK6.out.then SET.out.2 (fun _ h => Or.inl h)⟩
                  case measure => simp [intOf]; omega
                · have d5 : decide ((0 : Int) < (cy : Int)) = true := by rw [decide_eq_true_eq]; omega
                  have d6 : decide (0 < cy) = true := by rw [decide_eq_true_eq]; omega
                  rw [if_neg hcy] at ht2
                  have SET := Lib.hid (HS6.out.setA hvm hBk.out (i := 1) (true, cy, cy) (u := .int .u32 cy) (by decide) rfl)
                  rw [List.set_set, ← ht2.out] at SET
                  clear hvm hf hcy
                  go_wp2_with fail
                  go_region
                  all_goals
                    go_wp2_with fail
                    go_roundw
                    case rel => exact ⟨k + 1, ao5, c5, by omega, by go_num, by rw [HL5.out], SET.out.1.same ((Kept.refl _ _).drew), Ob.kept O5.out SET.out.2.drew (fun g hg h => by have := LT3.out g h; omega), HK6.out.then SET.out.2.drew (fun _ h => Or.inl h)⟩
                    case measure => simp [intOf]; omega
              · have d5 : decide ((0 : Int) < (m : Int)) = true := by rw [decide_eq_true_eq]; omega
                have d6 : decide (0 < m) = true := by rw [decide_eq_true_eq]; omega
                rw [if_neg hm0] at ht2 hf2
                rw [List.append_nil] at hf2
                have HS5 : Hid (IsRb wc p M T (V.set c x') (tkA T c A (k + 1)) R) := by rw [Hid, ht2.out]; exact HCB.out.out.1
                have O5 : Hid (Ob w3 wc ao cc (fireA T c A (k + 1))) := by rw [Hid, hf2.out]; exact HO2.out
                have HL5 : Hid (O.length = (fireA T c A (k + 1)).length) := by rw [Hid, hf2.out]
                clear hf HCB HO2 ht2 hf2 hm0
                go_wp2_with fail
                go_roundw
                case rel => exact ⟨k + 1, ao, cc, by omega, by go_num, by rw [HL5.out], HS5, O5, HK2⟩
                case measure => simp [intOf]; omega
          · have d4 : (xc != (c : Int)) = true := by simpa using hxc
            obtain ⟨e1, e2⟩ := stay.out (Or.inr hxc)
            have HS5 : Hid (IsRb wr p M T (V.set c x') (tkA T c A (k + 1)) R) := by rw [Hid, e1]; exact hS.out
            have O5 : Hid (Ob w3 wr ao cc (fireA T c A (k + 1))) := by rw [Hid, e2]; exact hO.out
            have HL5 : Hid (O.length = (fireA T c A (k + 1)).length) := by rw [Hid, e2]
            clear e1 e2 stay HTS HFS hS hO hxc
            go_wp2_with fail
            go_roundw
            case rel => exact ⟨k + 1, ao, cc, by omega, by go_num, by rw [HL5.out], HS5, O5, hK⟩
            case measure => simp [intOf]; omega
      · obtain rfl : k = A.length := by omega
        obtain ⟨o1, k1, o2, k2, o3, k3, _, _, _, _, c14, _⟩ := hS.out.lists
        rw [htl] at c14
        go_wp2_with fail
        go_ret2
        exact ⟨ao, cc, rfl, ⟨hO.out.row, fun g hg => Nat.le_trans KC.out.size (hO.out.own g hg)⟩, hS.out, KC.out.then hK.out (fun _ h => Or.inl h)⟩
end
end Go.Proofs.Ytemhfonneggneaa.RB
