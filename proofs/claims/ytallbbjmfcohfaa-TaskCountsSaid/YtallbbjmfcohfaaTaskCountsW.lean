/- TaskCounts: the walk. -/
import Derived.Test.YtallbbjmfcohfaaTskT
import Derived.Deep.CutBlock
import Derived.BigQuiet
namespace Go.Proofs.Ytallbbjmfcohfaa.taskCountsW
open Go.RowKit Go.Fr Go.Proofs.Ytallbbjmfcohfaa.TK

theorem below_of {w w' : World} (k : Kept (fun i => w.heap.size ≤ i) w w') : Below w.heap.size w w' := k.below (Nat.le_refl _) (fun _ h => h)
def eI (x : Int) : List Value := [.int .i64 x]
def cn (l : List Tk) : List Value := l.map (fun x => Value.int .i64 x.2.2.2)
theorem cn_len (l : List Tk) : (cn l).length = l.length := List.length_map _
theorem cn_at {l : List Tk} {k : Nat} {lm st ac : Int} {ex : Bool} (h : l[k]? = some (lm, ex, st, ac)) : (cn l)[k]? = some (.int .i64 ac) := by simp [cn, h]
theorem cn_set {l : List Tk} {k : Nat} (x : Tk) : cn (l.set k x) = (cn l).set k (.int .i64 x.2.2.2) := by simp [cn, List.map_set]
theorem cn_same {l : List Tk} {k : Nat} {lm st st' ac : Int} {ex : Bool} (h : l[k]? = some (lm, ex, st, ac)) : cn (l.set k (lm, ex, st', ac)) = cn l := by
  rw [cn_set]
  refine List.ext_getElem? (fun j => ?_)
  by_cases hj : j = k
  · subst hj
    rw [List.getElem?_set_self (by rw [cn_len]; exact (List.getElem?_eq_some_iff.1 h).1), cn_at h]
  · rw [List.getElem?_set_ne (Ne.symm hj)]
theorem cn_new (rs : List (Int × Bool)) : cn (rs.map mkT) = (List.replicate rs.length (0 : Int)).flatMap eI := by
  induction rs with
  | nil => rfl
  | cons r rs ih => rw [List.length_cons, List.replicate_succ, List.flatMap_cons, ← ih]; rfl
theorem sh_new (rs : List (Int × Bool)) : (rs.map mkT).map sh = rs := by
  rw [List.map_map]
  exact List.map_id'' (fun _ => rfl) rs
theorem sh_at {l : List Tk} {rs : List (Int × Bool)} {k : Nat} {lm st ac : Int} {ex : Bool} (h : l.map sh = rs) (hx : l[k]? = some (lm, ex, st, ac)) : rs[k]? = some (lm, ex) := by
  rw [← h, List.getElem?_map, hx]; rfl

def Alike (l l' : List Tk) : Prop := l'.map sh = l.map sh ∧ cn l' = cn l
theorem Alike.refl (l : List Tk) : Alike l l := ⟨rfl, rfl⟩
theorem Alike.set {l : List Tk} {i lm st ac : Int} {ex : Bool} (st' : Int) (h : at? l i = some (lm, ex, st, ac)) : Alike l (l.set i.toNat (lm, ex, st', ac)) := by
  obtain ⟨k, rfl, hx⟩ := at_some h
  exact ⟨sh_set hx rfl, cn_same hx⟩
theorem start_alike (run : Int) (l : List Tk) (i : Int) : Alike l (startP run l i).2.2 := by
  unfold startP
  cases h : at? l i with
  | none => exact .refl l
  | some x =>
    obtain ⟨lm, ex, st, ac⟩ := x
    dsimp only
    split
    · exact .refl l
    · split
      · exact .set 0 h
      · exact .refl l
theorem rel_alike (l : List Tk) (i : Int) : Alike l (relP l i).2 := by
  unfold relP
  cases h : at? l i with
  | none => exact .refl l
  | some x =>
    obtain ⟨lm, ex, st, ac⟩ := x
    dsimp only
    split
    · exact .set 2 h
    · exact .refl l
theorem pre_alike (run : Int) (l : List Tk) : Alike l (preP run l).2.2.2 := by
  unfold preP
  cases h : at? l run with
  | none => exact .refl l
  | some x => exact .set 2 h
theorem wait_alike (run : Int) (l : List Tk) : Alike l (waitP run l).2.2.2 := by
  unfold waitP
  cases h : at? l run with
  | none => exact .refl l
  | some x =>
    obtain ⟨lm, ex, st, ac⟩ := x
    cases ex with
    | false => exact .refl l
    | true => exact .set 1 h

theorem pair_at {w w' : World} {ao : Option Addr} {l : List (Int × Int)} (hc : CameL w 2 (encKK .i64 .i64) ao l) (hb : Below w.heap.size w w') {k : Nat} (hk : k < l.length) :
    ∃ kd tk sb so, l[k]? = some (kd, tk) ∧ ao = some ⟨sb, so, none⟩ ∧ sb < w.heap.size ∧ w'.cell? ⟨sb, so + k * 2, none⟩ = some (.int .i64 kd) ∧ w'.cell? ⟨sb, so + k * 2 + 1, none⟩ = some (.int .i64 tk) := by
  obtain ⟨⟨kd, tk⟩, hx⟩ : ∃ x, l[k]? = some x := ⟨_, List.getElem?_eq_getElem hk⟩
  obtain ⟨sb, so, rfl, hsb, hcc⟩ := hc (by rintro rfl; simp at hk)
  have h0 : ∀ (j : Nat) (v : Value), (encKK .i64 .i64 (kd, tk))[j]? = some v → w'.cell? ⟨sb, so + k * 2 + j, none⟩ = some v := fun j v hv => by
    rw [hb.cell (p := ⟨sb, so + k * 2 + j, none⟩) hsb]
    exact hcc k _ hx j v hv
  exact ⟨kd, tk, sb, so, hx, rfl, hsb, h0 0 _ rfl, h0 1 _ rfl⟩
theorem row_at {w w' : World} {ao : Option Addr} {l : List (Int × Bool)} (hc : CameL w 2 (encKB .i64) ao l) (hb : Below w.heap.size w w') {k : Nat} {lm : Int} {ex : Bool} (hx : l[k]? = some (lm, ex)) :
    ∃ sb so, ao = some ⟨sb, so, none⟩ ∧ sb < w.heap.size ∧ w'.cell? ⟨sb, so + k * 2, none⟩ = some (.int .i64 lm) ∧ w'.cell? ⟨sb, so + k * 2 + 1, none⟩ = some (.bool ex) := by
  obtain ⟨sb, so, rfl, hsb, hcc⟩ := hc (by rintro rfl; simp at hx)
  have h0 : ∀ (j : Nat) (v : Value), (encKB .i64 (lm, ex))[j]? = some v → w'.cell? ⟨sb, so + k * 2 + j, none⟩ = some v := fun j v hv => by
    rw [hb.cell (p := ⟨sb, so + k * 2 + j, none⟩) hsb]
    exact hcc k _ hx j v hv
  exact ⟨sb, so, rfl, hsb, h0 0 _ rfl, h0 1 _ rfl⟩

theorem those_run {run : Int} {l : List Tk} (h : Ok run l) : ∀ k, (those l 0 k).length ≤ 1 := by
  have key : ∀ k, k ≤ l.length → (those l 0 k).length ≤ if 0 ≤ run ∧ run < k then 1 else 0 := by
    intro k
    induction k with
    | zero => intro _; simp [those_zero]
    | succ k ih =>
      intro hk
      obtain ⟨⟨lm, ex, st, ac⟩, hx⟩ : ∃ a, l[k]? = some a := ⟨_, List.getElem?_eq_getElem (by omega)⟩
      obtain ⟨_, _, _, _, _, _, _, g8⟩ := h.el _ _ _ _ _ hx
      have ih := ih (by omega)
      by_cases h0 : st = 0
      · have hr := g8.1 h0
        rw [those_hit hx (by simpa using h0), List.length_append, List.length_singleton]
        rw [if_pos (by omega)]
        split at ih <;> omega
      · have hr : ¬ run = k := fun e => h0 (g8.2 e)
        rw [those_miss hx (by simpa using h0)]
        split at ih
        · rw [if_pos (by omega)]; exact ih
        · rw [if_neg (by omega)]; exact ih
  intro k
  rcases Nat.lt_or_ge l.length k with hk | hk
  · have e : those l 0 k = those l 0 l.length := by
      obtain ⟨d, rfl⟩ : ∃ d, k = l.length + d := ⟨k - l.length, by omega⟩
      clear hk
      induction d with
      | zero => rfl
      | succ d ih =>
        rw [← ih, ← Nat.add_assoc]
        have hp : thoseP l 0 (l.length + d) = false := by simp [thoseP]
        simp [those, List.range_succ, List.filter_append, hp]
    rw [e]
    have := key l.length (Nat.le_refl _)
    split at this <;> omega
  · have := key k hk
    split at this <;> omega

/-- the table, and the law's own counts -/
structure Cn (w wr : World) (b : Nat) (v : Value) (g : Nat) (rs : List (Int × Bool)) (run : Int) (l : List Tk) : Prop where
  tk : IsTk wr b v run l
  ok : Ok run l
  sh : l.map sh = rs
  cnt : Blk wr g (cn l) 3
  sep : ¬ foot b v g
  fresh : ∀ i, foot b v i → w.heap.size ≤ i
  gf : w.heap.size ≤ g
  kept : Kept (fun i => w.heap.size ≤ i) w wr

section
variable {w wr w2 : World} {b g : Nat} {v : Value} {rs : List (Int × Bool)} {run run' : Int} {l l' : List Tk}
theorem Cn.len (h : Cn w wr b v g rs run l) : l.length = rs.length := by rw [← h.sh, List.length_map]
theorem Cn.same (h : Cn w wr b v g rs run l) (k : Kept (fun _ => False) wr w2) : Cn w w2 b v g rs run l :=
  ⟨h.tk.kept k (fun _ _ h => h), h.ok, h.sh, h.cnt.kept k (fun h => h), h.sep, h.fresh, h.gf, h.kept.then k (fun _ h => False.elim h)⟩
/-- a call of the table's: its list, and the counts as they were -/
theorem Cn.call (h : Cn w wr b v g rs run l) (t : IsTk w2 b v run' l') (o : Ok run' l') (hs : l'.map TK.sh = l.map TK.sh) (hc : cn l' = cn l) (k : Kept (foot b v) wr w2) : Cn w w2 b v g rs run' l' :=
  ⟨t, o, hs.trans h.sh, by rw [hc]; exact h.cnt.kept k h.sep, h.sep, h.fresh, h.gf, h.kept.then k (fun i hi => Or.inl (h.fresh i hi))⟩
/-- a call that changes one task's activations, and the law's store -/
theorem Cn.count (h : Cn w wr b v g rs run l) {k : Nat} {x : Tk} (t : IsTk w2 b v run' (l.set k x)) (o : Ok run' (l.set k x)) (hs : (l.set k x).map TK.sh = l.map TK.sh) (kk : Kept (foot b v) wr w2) :
    Cn w (w2.setCell ⟨g, k, none⟩ (.int .i64 x.2.2.2)) b v g rs run' (l.set k x) := by
  have kg := (Kept.refl (fun i => i = g) w2).setCell (p := ⟨g, k, none⟩) (Or.inl rfl) (.int .i64 x.2.2.2)
  refine ⟨t.kept kg (fun i hi e => h.sep (by rw [← e]; exact hi)), o, hs.trans h.sh, ?_, h.sep, h.fresh, h.gf, (h.kept.then kk (fun i hi => Or.inl (h.fresh i hi))).then kg (fun i hi => Or.inl (by rw [hi]; exact h.gf))⟩
  rw [cn_set]
  exact (h.cnt.kept kk h.sep).set k _
end

set_option maxRecDepth 100000 in
set_option maxHeartbeats 40000000 in
theorem walk (w : World) (a0 : Option Addr) (cap0 : Nat) (l0 : List (Int × Bool)) (hl0 : l0.length ≤ cap0) (hm0 : cap0 ≤ maxLen) (hc0 : CameL w 2 (encKB .i64) a0 l0)
    (hw0 : ∀ x ∈ l0, (Lit.int .i64 x.1).wf = true) (a1 : Option Addr) (cap1 : Nat) (l1 : List (Int × Int)) (hl1 : l1.length ≤ cap1) (hm1 : cap1 ≤ maxLen) (hc1 : CameL w 2 (encKK .i64 .i64) a1 l1)
    (hw1 : ∀ x ∈ l1, (Lit.int .i64 x.1).wf = true ∧ (Lit.int .i64 x.2).wf = true) :
    Calls Try.prog 5 #[.slice a0 l0.length cap0, .slice a1 l1.length cap1] w fun e w' => e = .returned (.bool true) ∧ Below w.heap.size w w' := by
  unfold maxLen at hm0 hm1
  have HC0 := Lib.hid hc0
  have HC1 := Lib.hid hc1
  clear hc0 hw0 hc1 hw1
  rcases new_cases l0 with hbad | ⟨h256, hgd⟩
  · have hn := new_fails (ao := a0) (c := cap0) hbad w HC0.out
    go_enter Try.func5, Try.ntmps5
    go_wp2_with fail
    refine hn.mono ?_
    rintro e w1 ⟨rfl, k1⟩
    go_wp2_with (first | (go_at_call 9; refine (num_ok _ _).mono ?_; rintro e w' ⟨rfl, rfl⟩) | (go_at_call 11; refine (alive_law _).mono ?_; rintro e wz ⟨rfl, kz⟩))
    go_ret
    exact ⟨rfl, (k1.then kz (fun _ h => Or.inl h)).below (Nat.le_refl _) (fun _ h => False.elim h)⟩
  · have hn := new_ok a0 cap0 l0 w h256 HC0.out hgd
    have ho := Ok.new l0 hgd
    obtain ⟨i0, hi, hz0, hz1, hz2⟩ := info_parts info_i
    obtain ⟨C0, hC0⟩ : ∃ A : List Value, (List.replicate l0.length (0 : Int)).flatMap eI = A := ⟨_, rfl⟩
    have hmk : ∀ w, (Instr.makeSlice 46 (.int .i64 (l0.length : Int)) (.int .i64 (l0.length : Int))).run Try.prog w = .ok (.slice (some ⟨w.heap.size, 0, none⟩) l0.length l0.length) (w.alloc (.cells C0.toArray 3)) := by
      rw [← hC0]; exact fun w => run_make_flat (enc := eI) (fun _ => rfl) (by decide) 0 _ _ i0 _ Try.underlying46 hi hz0 hz1 rfl .i64 .i64 l0.length (by rw [hz2]; omega) (by omega) w
    go_enter Try.func5, Try.ntmps5
    go_wp2_with fail
    refine hn.mono ?_
    rintro e w1 ⟨b, v, rfl, h1, hf, k1⟩
    have K0 := Lib.hid k1
    have S0 : Hid (Cn w (w1.alloc (.cells C0.toArray 3)) b v w1.heap.size l0 (-1) (l0.map mkT)) := by
      have hlt := h1.lt
      have kk := (Kept.refl (fun _ => False) w1).alloc (.cells C0.toArray 3)
      exact ⟨h1.kept kk (fun _ _ h => h), ho, sh_new l0, by rw [cn_new, hC0]; exact Blk.new w1 C0 _, fun h => by have := hlt _ h; omega, hf, k1.size, (k1.mono (fun _ _ h => False.elim h)).then kk (fun _ h => False.elim h)⟩
    clear h1 hf k1 hn ho
    go_wp2_with (go_at_call 9; refine (num_ok _ _).mono ?_; rintro e w' ⟨rfl, rfl⟩)
    obtain ⟨g, hg⟩ : ∃ g, w1.heap.size = g := ⟨_, rfl⟩
    obtain ⟨w2, hw2⟩ : ∃ w2, w1.alloc (.cells C0.toArray 3) = w2 := ⟨_, rfl⟩
    rw [hg, hw2] at S0
    simp only [hg, hw2]
    clear hg hw2 hmk hC0
    go_loopg [8] l1.length (fun m i wx => ∃ (k : Nat) (run : Int) (l : List Tk), m = l1.length - k ∧ k ≤ l1.length ∧ i = .int .i64 k ∧ Hid (Cn w wx b v g l0 run l))
    case atStart => exact ⟨0, _, _, rfl, Nat.zero_le _, rfl, S0⟩
    case round =>
      clear S0
      obtain ⟨k, run, l, hm, hk, rfl, hS⟩ := hrel
      have HM := Lib.hid hm
      clear hm
      by_cases hkl : k < l1.length
      · obtain ⟨kd, tk, sb, so, hx1, rfl, hsb, q0, q1⟩ := pair_at HC1.out (below_of hS.out.kept) hkl
        have hk0 : (0 : Int) ≤ (k : Int) := by omega
        have hk1 : (k : Int) < (l1.length : Int) := by omega
        go_upto_block 2 with fail
        obtain ⟨xb, hxbe⟩ : ∃ xb, wr.heap.size = xb := ⟨_, rfl⟩
        have SX : Hid (Cn w (wr.alloc (.cells #[.int .i64 kd, .int .i64 tk] 48)) b v g l0 run l) := hS.out.same ((Kept.refl _ wr).alloc _)
        have BX : Hid (Blk (wr.alloc (.cells #[.int .i64 kd, .int .i64 tk] 48)) xb [.int .i64 kd, .int .i64 tk] 48) := by rw [← hxbe]; exact Blk.new wr [.int .i64 kd, .int .i64 tk] _
        have XF : Hid (∀ i, foot b v i → i < xb) := by rw [← hxbe]; exact hS.out.tk.lt
        have hgx : g < xb := by rw [← hxbe]; exact hS.out.cnt.lt
        simp only [hxbe]
        obtain ⟨wx, hwx⟩ : ∃ wx, wr.alloc (.cells #[.int .i64 kd, .int .i64 tk] 48) = wx := ⟨_, rfl⟩
        rw [hwx] at SX BX ⊢
        clear hwx hxbe hS q0 q1 hx1 hsb hk0 hk1
        have x1 := BX.out.cell 1 rfl
        have hlen := SX.out.len
        have hgb : ¬ g = xb := by omega
        go_cut [] (fun wz => ∃ (run : Int) (l : List Tk), Hid (Cn w wz b v g l0 run l))
        case first =>
          by_cases e1 : kd = 1
          · subst e1
            as_aux_lemma =>
            cases ha : at? l tk with
            | none =>
              have hc := act_no tk SX.out.tk (hasT_none ha)
              have hout : tk < 0 ∨ (l0.length : Int) ≤ tk := by
                have := hasT_none ha
                simp [hasT] at this
                rw [hlen] at this
                omega
              clear ha
              by_cases t0 : tk < 0
              · have d0 : decide (tk < 0) = true := by simpa using t0
                go_wp2_with fail
                refine hc.mono ?_
                rintro e w' ⟨rfl, rfl⟩
                go_wp2_with fail
                go_quiet (fail)
                go_wp2_with fail
                go_meet
                exact ⟨run, l, SX.out.same (by exact (Kept.refl (fun _ => False) _).same rfl rfl rfl rfl)⟩
              · have d0 : decide (tk < 0) = false := by simpa using t0
                have d1 : decide ((l0.length : Int) ≤ tk) = true := by simp; omega
                go_wp2_with fail
                refine hc.mono ?_
                rintro e w' ⟨rfl, rfl⟩
                go_wp2_with fail
                go_quiet (fail)
                go_wp2_with fail
                go_meet
                exact ⟨run, l, SX.out.same (by exact (Kept.refl (fun _ => False) _).same rfl rfl rfl rfl)⟩
            | some x =>
              obtain ⟨lm, ex, st, ac⟩ := x
              obtain ⟨n, rfl, hx⟩ := at_some ha
              obtain ⟨g1, g2, g3, g4, g5, g6, g7, g8⟩ := SX.out.ok.el _ _ _ _ _ hx
              have hnl := (List.getElem?_eq_some_iff.1 hx).1
              rw [hlen] at hnl
              obtain ⟨rb, ro, rfl, hrb, r0, r1⟩ := row_at HC0.out (below_of SX.out.kept) (sh_at SX.out.sh hx)
              have hn0 : (0 : Int) ≤ (n : Int) := by omega
              have hn1 : (n : Int) < (l0.length : Int) := by omega
              have d0 : decide ((n : Int) < 0) = false := by simp
              have d1 : decide ((l0.length : Int) ≤ (n : Int)) = false := by simp; omega
              have d2 : decide (l0.length ≤ n) = false := by simp; omega
              have d3 : ¬ (l0.length ≤ n) := by omega
              have cc := SX.out.cnt.cell n (cn_at hx)
              have zz := SX.out.cnt.frozen n
              by_cases hf : lm ≤ ac
              · obtain rfl : ac = lm := by omega
                have hc := act_full SX.out.tk hx hf
                clear ha hx g1 g2 g3 g4 g5 g6 g7 g8 hf hgb hgx hlen
                go_wp2_with fail
                refine hc.mono ?_
                rintro e w' ⟨rfl, q, rfl⟩
                go_wp2_with fail
                go_quiet (fail)
                go_wp2_with fail
                go_meet
                exact ⟨run, l, SX.out.same (by exact (Kept.refl (fun _ => False) _).same rfl rfl rfl rfl)⟩
              · obtain ⟨st', hst⟩ : ∃ st', (if st = 3 then (2 : Int) else st) = st' := ⟨_, rfl⟩
                have hoc := SX.out.ok.act n
                have hp : ∃ bb, actP l n = (bb, 0, l.set n (lm, ex, st', ac + 1)) := ⟨_, by unfold actP; rw [ha, ← hst]; exact if_neg hf⟩
                obtain ⟨bb, hp⟩ := hp
                have hc := act_all n SX.out.tk SX.out.ok
                rw [hp] at hc hoc
                have HX := Lib.hid hx
                have HO := Lib.hid hoc
                clear ha hx hst hp hoc
                go_wp2_with fail
                refine hc.mono ?_
                rintro e w' ⟨rfl, t1, kk⟩
                have bx := BX.out.kept kk (fun h => by have := XF.out _ h; omega)
                have nx := SX.out.cnt.kept kk SX.out.sep
                have x1' := bx.cell 1 rfl
                have cc' := nx.cell n (cn_at HX.out)
                have zz' := nx.frozen n
                have hN := Lib.hid (SX.out.count (x := (lm, ex, st', ac + 1)) t1 HO.out (sh_set HX.out rfl) kk)
                have x3 := (bx.other (p := ⟨g, n, none⟩) (fun e => hgb e) (.int .i64 (ac + 1))).cell 1 rfl
                have c3 := hN.out.cnt.cell n (cn_at (List.getElem?_set_self (by rw [hlen]; exact hnl)))
                clear x1 cc zz bx nx t1 kk r0 r1
                go_upto_region 16 with fail
                obtain ⟨w3, hw3⟩ : ∃ w3, w'.setCell ⟨g, n, none⟩ (.int .i64 (ac + 1)) = w3 := ⟨_, rfl⟩
                rw [hw3] at hN x3 c3 ⊢
                clear hw3 x1' cc' zz' hc g1 g2 g3 g4 g5 g6 g7 g8 hf hgb hgx hlen
                go_wp2_with fail
                go_quiet (fail)
                go_wp2_with fail
                go_meet
                exact ⟨run, _, hN.out.same (by exact (Kept.refl (fun _ => False) _).same rfl rfl rfl rfl)⟩
          · have f1 : (kd == 1) = false := by simpa using e1
            by_cases e2 : kd = 2
            · subst e2
              as_aux_lemma =>
              go_wp2_with fail
              refine (start_all tk SX.out.tk).mono ?_
              rintro e w' ⟨rfl, t1, kk⟩
              have hal := start_alike run l tk
              have hN := Lib.hid (SX.out.call t1 (SX.out.ok.start tk) hal.1 hal.2 kk)
              clear t1 kk hal
              go_wp2_with fail
              go_meet
              exact ⟨_, _, hN⟩
            · have f2 : (kd == 2) = false := by simpa using e2
              by_cases e3 : kd = 3
              · subst e3
                as_aux_lemma =>
                go_wp2_with fail
                refine (preempt_all SX.out.tk SX.out.ok).mono ?_
                rintro e w' ⟨rfl, t1, kk⟩
                have hal := pre_alike run l
                have hN := Lib.hid (SX.out.call t1 SX.out.ok.pre hal.1 hal.2 kk)
                clear t1 kk hal
                go_wp2_with fail
                go_meet
                exact ⟨_, _, hN⟩
              · have f3 : (kd == 3) = false := by simpa using e3
                by_cases e4 : kd = 4
                · subst e4
                  as_aux_lemma =>
                  go_wp2_with fail
                  refine (wait_all SX.out.tk SX.out.ok).mono ?_
                  rintro e w' ⟨rfl, t1, kk⟩
                  have hal := wait_alike run l
                  have hN := Lib.hid (SX.out.call t1 SX.out.ok.wait hal.1 hal.2 kk)
                  clear t1 kk hal
                  go_wp2_with fail
                  go_meet
                  exact ⟨_, _, hN⟩
                · have f4 : (kd == 4) = false := by simpa using e4
                  by_cases e5 : kd = 5
                  · subst e5
                    as_aux_lemma =>
                    go_wp2_with fail
                    refine (release_all tk SX.out.tk).mono ?_
                    rintro e w' ⟨rfl, t1, kk⟩
                    have hal := rel_alike l tk
                    have hN := Lib.hid (SX.out.call t1 (SX.out.ok.rel tk) hal.1 hal.2 kk)
                    clear t1 kk hal
                    go_wp2_with fail
                    go_meet
                    exact ⟨_, _, hN⟩
                  · have f5 : (kd == 5) = false := by simpa using e5
                    by_cases e7 : kd = 7
                    · subst e7
                      as_aux_lemma =>
                      go_wp2_with fail
                      refine (again_all SX.out.tk SX.out.ok).mono ?_
                      rintro e w' ⟨rfl, t1, kk⟩
                      have hal := pre_alike run l
                      have hN := Lib.hid (SX.out.call t1 SX.out.ok.pre hal.1 hal.2 kk)
                      clear t1 kk hal
                      go_wp2_with fail
                      go_meet
                      exact ⟨_, _, hN⟩
                    · have f7 : (kd == 7) = false := by simpa using e7
                      by_cases e6 : kd = 6
                      · subst e6
                        as_aux_lemma =>
                        rcases SX.out.ok.at with ⟨rfl, _⟩ | ⟨n, lm, ex, ac, rfl, hx, _, h1, h2, h3⟩
                        · have hc := end_no SX.out.tk (by decide)
                          go_wp2_with fail
                          refine hc.mono ?_
                          rintro e w' ⟨rfl, rfl⟩
                          go_wp2_with (go_at_call 9; refine (num_ok _ _).mono ?_; rintro e w' ⟨rfl, rfl⟩)
                          go_meet
                          exact ⟨-1, l, SX.out.same (Kept.refl _ _)⟩
                        · have hnl := (List.getElem?_eq_some_iff.1 hx).1
                          rw [hlen] at hnl
                          have hn0 : (0 : Int) ≤ (n : Int) := by omega
                          have hn1 : (n : Int) < (l0.length : Int) := by omega
                          have d0 : decide ((n : Int) < 0) = false := by simp
                          have d1 : decide ((l0.length : Int) ≤ (n : Int)) = false := by simp; omega
                          have d2 : decide (l0.length ≤ n) = false := by simp; omega
                          have d3 : ¬ (l0.length ≤ n) := by omega
                          have HX := Lib.hid hx
                          by_cases hac : ac = 1
                          · subst hac
                            have hc := end_last SX.out.tk hx rfl
                            have hoc := SX.out.ok.fin
                            have hp : endP n l = ((n : Int), 3, 0, -1, l.set n (lm, ex, 3, 0)) := by unfold endP; rw [at_nat, hx]; rfl
                            rw [hp] at hoc
                            have HO := Lib.hid hoc
                            clear hx hp hoc
                            go_wp2_with fail
                            refine hc.mono ?_
                            rintro e w' ⟨rfl, t1, kk⟩
                            have nx := SX.out.cnt.kept kk SX.out.sep
                            have cc' := nx.cell n (cn_at HX.out)
                            have zz' := nx.frozen n
                            have hN := Lib.hid (SX.out.count (x := (lm, ex, 3, 0)) t1 HO.out (sh_set HX.out rfl) kk)
                            clear t1 kk nx
                            go_wp2_with (go_at_call 9; refine (num_ok _ _).mono ?_; rintro e w' ⟨rfl, rfl⟩)
                            go_meet
                            exact ⟨_, _, hN⟩
                          · have hc := end_more SX.out.tk hx (by omega) (by omega)
                            have hoc := SX.out.ok.fin
                            have hp : endP n l = ((n : Int), 2, 0, -1, l.set n (lm, ex, 2, ac - 1)) := by unfold endP; rw [at_nat, hx]; exact if_neg hac
                            rw [hp] at hoc
                            have HO := Lib.hid hoc
                            clear hx hp hoc
                            go_wp2_with fail
                            refine hc.mono ?_
                            rintro e w' ⟨rfl, t1, kk⟩
                            have nx := SX.out.cnt.kept kk SX.out.sep
                            have cc' := nx.cell n (cn_at HX.out)
                            have zz' := nx.frozen n
                            have hN := Lib.hid (SX.out.count (x := (lm, ex, 2, ac - 1)) t1 HO.out (sh_set HX.out rfl) kk)
                            clear t1 kk nx
                            go_wp2_with (go_at_call 9; refine (num_ok _ _).mono ?_; rintro e w' ⟨rfl, rfl⟩)
                            go_meet
                            exact ⟨_, _, hN⟩
                      · have f6 : (kd == 6) = false := by simpa using e6
                        go_wp2_with fail
                        go_meet
                        exact ⟨run, l, SX⟩
        case rest =>
          clear SX BX XF x1 hgb hgx hlen
          obtain ⟨run, l, hS⟩ := hcut
          have hth := those_run hS.out.ok l.length
          obtain ⟨T, hT⟩ : ∃ T, (those l 0 l.length).length = T := ⟨_, rfl⟩
          have ht1 : ¬ (1 : Int) < (T : Int) := by omega
          have ht2 : ¬ 1 < T := by omega
          have hto := those_ok 0 hS.out.tk
          rw [hT] at hto
          clear hT hth
          go_wp2_with fail
          refine hto.mono ?_
          rintro e w4 ⟨ao, c, rfl, hTh⟩
          have hS4 := Lib.hid (hS.out.same hTh.kept)
          clear hTh hto hS
          go_wp2_with fail
          go_loopg [15] l0.length (fun m i wx => ∃ (j : Nat), m = l0.length - j ∧ j ≤ l0.length ∧ i = .int .i64 j ∧ Hid (Cn w wx b v g l0 run l))
          case atStart => exact ⟨0, rfl, Nat.zero_le _, rfl, hS4⟩
          case round =>
            clear hS4
            obtain ⟨j, hm, hj, rfl, hS⟩ := hrel
            have HJ := Lib.hid hm
            clear hm
            have hlen := hS.out.len
            by_cases hjl : j < l0.length
            · obtain ⟨⟨lm, ex, st, ac⟩, hx⟩ : ∃ a, l[j]? = some a := ⟨_, List.getElem?_eq_getElem (by omega)⟩
              obtain ⟨g1, g2, g3, g4, g5, g6, g7, g8⟩ := hS.out.ok.el _ _ _ _ _ hx
              obtain ⟨rb, ro, rfl, hrb, r0, r1⟩ := row_at HC0.out (below_of hS.out.kept) (sh_at hS.out.sh hx)
              have hj0 : (0 : Int) ≤ (j : Int) := by omega
              have hj1 : (j : Int) < (l0.length : Int) := by omega
              have cc := hS.out.cnt.cell j (cn_at hx)
              have ha : ∀ n, Calls Try.prog 20 #[.pointer (some ⟨b, 0, none⟩), .int .i64 j] (wr.drewN n) fun e w' => e = .returned (.int .i64 ac) ∧ w' = wr.drewN n := fun n => (active_ok (hS.out.tk.drewN n) hx).mono fun _ _ h => ⟨h.1, h.2.symm⟩
              have hst := state_ok hS.out.tk hx
              have d0 : decide (ac < 0) = false := by simp; omega
              have d1 : decide (lm < ac) = false := by simp; omega
              clear hx
              by_cases h3 : st = 3
              · subst h3
                obtain rfl : ac = 0 := g6.2 rfl
                clear g1 g2 g3 g4 g5 g6 g7 g8
                as_aux_lemma =>
                go_wp2_with fail
                refine hst.mono ?_
                rintro e w5 ⟨rfl, rfl⟩
                go_wp2_with fail
                go_big_quiet (first | (go_at_call 20; refine Calls.quiet_of_same (ha _)))
                go_wp2_with fail
                go_roundg (l0.length - (j + 1))
                case measure => have := HJ.out; omega
                case rel => exact ⟨j + 1, rfl, by omega, by go_num, hS.out.same (by exact (Kept.refl (fun _ => False) _).same rfl rfl rfl rfl)⟩
              · have e3 : (st == 3) = false := by simpa using h3
                have e0 : (ac == 0) = false := by simp; intro h; exact h3 (g6.1 h)
                by_cases h1 : st = 1
                · subst h1
                  obtain rfl : ex = true := g7 rfl
                  clear g1 g2 g3 g4 g5 g6 g7 g8 h3
                  as_aux_lemma =>
                  go_wp2_with fail
                  refine hst.mono ?_
                  rintro e w5 ⟨rfl, rfl⟩
                  go_wp2_with fail
                  go_big_quiet (first | (go_at_call 20; refine Calls.quiet_of_same (ha _)))
                  go_wp2_with fail
                  go_roundg (l0.length - (j + 1))
                  case measure => have := HJ.out; omega
                  case rel => exact ⟨j + 1, rfl, by omega, by go_num, hS.out.same (by exact (Kept.refl (fun _ => False) _).same rfl rfl rfl rfl)⟩
                · have e1 : (st == 1) = false := by simpa using h1
                  clear g1 g2 g3 g4 g5 g6 g7 g8 h3 h1
                  as_aux_lemma =>
                  go_wp2_with fail
                  refine hst.mono ?_
                  rintro e w5 ⟨rfl, rfl⟩
                  go_wp2_with fail
                  go_big_quiet (first | (go_at_call 20; refine Calls.quiet_of_same (ha _)))
                  go_wp2_with fail
                  go_roundg (l0.length - (j + 1))
                  case measure => have := HJ.out; omega
                  case rel => exact ⟨j + 1, rfl, by omega, by go_num, hS.out.same (by exact (Kept.refl (fun _ => False) _).same rfl rfl rfl rfl)⟩
            · have hj1 : ¬ (j : Int) < (l0.length : Int) := by omega
              go_wp2_with fail
              go_roundg (l1.length - (k + 1))
              case measure => have := HM.out; omega
              case rel => exact ⟨k + 1, run, l, rfl, by omega, by go_num, hS⟩
      · obtain rfl : k = l1.length := by omega
        go_wp2_with (go_at_call 11; refine (alive_law _).mono ?_; rintro e wz ⟨rfl, kz⟩)
        go_ret
        exact ⟨rfl, below_of (hS.out.kept.then kz (fun _ h => h.elim))⟩
end Go.Proofs.Ytallbbjmfcohfaa.taskCountsW
