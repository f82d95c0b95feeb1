/- lock.New. -/
import Derived.Test.YtnfpiocjdhipcaaLkQ
import Derived.Test.YtnfpiocjdhipcaaLkU
import Derived.Test.YtnfpiocjdhipcaaTbM
namespace Go.Proofs.Ytnfpiocjdhipcaa.LK
open Go.RowKit Go.Fr Go.Tb Go.Proofs.Ytnfpiocjdhipcaa.TC
attribute [local go_sem] Oper.semAt_some

theorem infoBo : (Try.prog.info? 4).map (fun i => (i.zero, i.size, i.bytes)) = some (some (.bool false), 1, 1) := by kernel_rfl
abbrev sn : Value := .slice none 0 0
theorem own_len {T : Tb} {pr : Int} {l : List Int} (h : OwnP T pr l) : l.length ≤ T.ress.length := by
  have key : ∀ n, n < l.length → ∃ r, l[n]? = some r ∧ (n : Int) ≤ r ∧ r < T.ress.length := by
    intro n
    induction n with
    | zero =>
      intro hn
      obtain ⟨r, e, h1, h2, h3, _⟩ := h 0 hn
      have := (List.getElem?_eq_some_iff.1 h3).1
      exact ⟨r, h1, by omega, by omega⟩
    | succ n ih =>
      intro hn
      obtain ⟨q, hq, hq1, _⟩ := ih (by omega)
      obtain ⟨r, e, h1, h2, h3, h4, _⟩ := h (n + 1) hn
      have := (List.getElem?_eq_some_iff.1 h3).1
      rcases h4 with h4 | ⟨q', hq', hlt⟩
      · omega
      · rw [Nat.add_sub_cancel, hq] at hq'
        cases hq'
        exact ⟨r, h1, by push_cast; omega, by omega⟩
  rcases Nat.eq_zero_or_pos l.length with h0 | h0
  · omega
  · obtain ⟨r, _, h1, h2⟩ := key (l.length - 1) (by omega)
    omega
/-- what tables that may be are known to be -/
structure LOk (T : Tb) : Prop where
  nt : T.tasks.length ≤ 256
  ni : T.isrs.length ≤ 32
  nr : T.ress.length ≤ 65
  ot : ∀ x ∈ T.tasks, x.own.length ≤ 65
  oi : ∀ x ∈ T.isrs, x.own.length ≤ 65
theorem lok {T : Tb} (h : CheckP T) : LOk T := by
  obtain ⟨⟨_, _, h1, h2, _, _, h3, _⟩, _, _, ⟨⟨ht, _⟩, _, hi, _⟩, _⟩ := h
  refine ⟨h1.2, h3, h2, fun x hx => Nat.le_trans (own_len (ht x hx).2.2.1) h2, fun x hx => ?_⟩
  obtain ⟨k, hk⟩ := List.mem_iff_getElem?.1 hx
  exact Nat.le_trans (own_len (hi k (List.getElem?_eq_some_iff.1 hk).1 x hk).1.2.2.1) h2
theorem lok_sm {T : Tb} (h : LOk T) (o : Ow) (x : RowR) (hx : rowT T o = some x) : x.own.length ≤ 1024 := by
  unfold rowT at hx
  split at hx
  · cases hx
  · split at hx
    · simp only [Option.map_eq_some_iff] at hx
      obtain ⟨y, hy, rfl⟩ := hx
      have := h.oi y (List.mem_of_getElem? hy)
      show y.own.length ≤ 1024
      omega
    · simp only [Option.map_eq_some_iff] at hx
      obtain ⟨y, hy, rfl⟩ := hx
      have := h.ot y (List.mem_of_getElem? hy)
      show y.own.length ≤ 1024
      omega
theorem pw_new {w1 w2 w3 : World} {T : Tb} {b rb : Nat} (k1 : Kept (fun _ => False) w1 w2) (h2 : w2.alloc (.map #[] 0) = w3) (hr : w2.heap.size = rb) (hb : w3.heap.size = b) :
    Pw w1 (w3.alloc (.cells #[.map (some rb), sn, sn, .map none, .map none, .map none, .bool false, .int .i64 0, .int .i64 0] 74)) b rb T 0 0 [] sn sn 0 0 := by
  have hm := IsMap.made w2 ekO evR
  have kb := (Kept.refl (fun _ => False) w3).alloc (.cells #[.map (some rb), sn, sn, .map none, .map none, .map none, .bool false, .int .i64 0, .int .i64 0] 74)
  have nb := Blk.new w3 [.map (some rb), sn, sn, .map none, .map none, .map none, .bool false, .int .i64 0, .int .i64 0] 74
  rw [h2, hr] at hm
  rw [hb] at nb
  have hz3 : w3.heap.size = w2.heap.size + 1 := by rw [← h2]; simp
  have hs1 := k1.size
  have k3 : Kept (fun _ => False) w1 w3 := by rw [← h2]; exact k1.alloc _
  exact ⟨nb, hm.kept kb (fun x => x), fun p hp => (by cases hp), fun o => (by rw [rowK_0]; rfl), fun p hp => (by cases hp), k3.then kb (fun _ x => x.elim), ⟨by omega, by omega⟩, World.ownsRow_nil _ _ _ _, World.ownsRow_nil _ _ _ _, fun g hg => (by cases hg), fun g hg => (by cases hg)⟩

theorem pw_fx {w0 w : World} {b rb : Nat} {T : Tb} {rows : List (Ow × RowV)} {vi vc : Value} (h : Pw w0 w b rb T T.tasks.length T.isrs.length rows vi vc T.ress.length T.ress.length) (hl : LOk T) :
    Fx w ⟨rb, vi, vc, rows, 0, 0, 0, [], [], []⟩ T ∧ ∀ g, lfix ⟨rb, vi, vc, rows, 0, 0, 0, [], [], []⟩ g → g ≠ b ∧ w0.heap.size ≤ g := by
  have hi : Lv w vi 1 encB1 (T.ress.map (·.1)) := by
    have hr := h.inl
    obtain ⟨ao, c, rfl, _⟩ := row_any hr
    have e1 : (T.ress.take T.ress.length).map (fun x => Value.bool x.1) = (T.ress.map (·.1)).flatMap encB1 := by
      rw [List.take_length]
      induction T.ress with
      | nil => rfl
      | cons a l ih => simp [encB1] at ih ⊢; exact ih
    rw [e1] at hr
    have hlen : (T.ress.map (·.1)).length = T.ress.length := by simp
    refine ⟨ao, c, by rw [hlen], camel_of_row (enc := encB1) (e := 4) (c := c) (fun _ => rfl) ?_⟩
    rw [hlen]
    exact hr
  have hc : Lv w vc 1 (encK .i64) (T.ress.map (·.2)) := by
    have hr := h.cei
    obtain ⟨ao, c, rfl, _⟩ := row_any hr
    have e1 : (T.ress.take T.ress.length).map (fun x => Value.int .i64 x.2) = (T.ress.map (·.2)).flatMap (encK .i64) := by
      rw [List.take_length]
      induction T.ress with
      | nil => rfl
      | cons a l ih => simp [encK] at ih ⊢; exact ih
    rw [e1] at hr
    have hlen : (T.ress.map (·.2)).length = T.ress.length := by simp
    refine ⟨ao, c, by rw [hlen], camel_of_row (enc := encK .i64) (e := 3) (c := c) (fun _ => rfl) ?_⟩
    rw [hlen]
    exact hr
  refine ⟨⟨h.map, h.rok, fun o => by rw [← rowK_all]; exact h.rat o, fun p hp => (h.own p hp).1, hi, hc, fun g hg => ?_, lok_sm hl⟩, fun g hg => ?_⟩
  · rcases hg with rfl | e | e | ⟨p, hp, a, ha, rfl⟩
    · exact h.map.lt
    · exact row_lt h.inl e
    · exact row_lt h.cei e
    · exact ((h.own p hp).2 a ha).1.2.1
  · rcases hg with rfl | e | e | ⟨p, hp, a, ha, rfl⟩
    · exact ⟨fun e => blk_ne_map h.blk h.map e.symm, h.new.2⟩
    · exact ⟨(h.li g e).2.1, (h.li g e).1⟩
    · exact ⟨(h.lc g e).2.1, (h.lc g e).1⟩
    · exact ⟨((h.own p hp).2 a ha).1.2.2.1, ((h.own p hp).2 a ha).1.1⟩
set_option maxRecDepth 100000 in
set_option maxHeartbeats 16000000 in
theorem new_ok {w : World} {T : Tb} (hT : TabIn w T) (hW : T.Wf) (hic : T.isrs.length ≤ T.ic) :
    Calls Try.prog 6 #[.agg T.cells.toArray] w fun e w' => (¬ CheckP T ∧ e = .returned (.tuple #[.pointer none, .int .i64 190]) ∧ Kept (fun _ => False) w w') ∨
      (CheckP T ∧ ∃ b M, e = .returned (.tuple #[.pointer (some ⟨b, 0, none⟩), .int .i64 0]) ∧ IsLk w' b M T [] (List.replicate T.tasks.length false) (false, 0, 0) ∧ (∀ g, lmut b M g → w.heap.size ≤ g) ∧ (∀ g, lfix M g → w.heap.size ≤ g) ∧ Kept (fun _ => False) w w') := by
  have k0 : Kept (fun _ => False) w (box w T) := (Kept.refl _ w).alloc _
  have nb : Blk (box w T) w.heap.size T.cells 30 := Blk.new w T.cells 30
  have hT1 := hT.same k0
  obtain ⟨w1, hw1⟩ : ∃ w1, box w T = w1 := ⟨_, rfl⟩
  obtain ⟨B, hB⟩ : ∃ B, w.heap.size = B := ⟨_, rfl⟩
  rw [hw1] at k0 nb hT1
  rw [hB] at nb
  have hck := check_ok hT1 hW hic
  have HT := Lib.hid hT1
  have HW := Lib.hid hW
  have NB := Lib.hid nb
  have K0 := Lib.hid k0
  clear hT hT1 hW nb k0 hic
  have hs : T.cells.toArray.size = 13 := rfl
  have hn0 : (T.cells.toArray = #[]) = False := by simp [Tb.cells]
  unfold box at hw1
  generalize hZ : T.cells.toArray = Z0 at hw1 hs hn0 hck ⊢
  have HZ := Lib.hid hZ
  have HCK := Lib.hid hck
  clear hZ hck
  go_enter Try.func6, Try.ntmps6
  go_upto_region 1 with fail
  clear hs hn0 hw1 hB
  have hck := HCK.out
  rw [← HZ.out] at hck
  obtain ⟨c0, c1, c2, c3, c4, c5, c6, c7, c8, c9, c10, c11, c12⟩ := tab_cells NB.out
  clear HCK
  go_upto_if 13 with (go_at_call 21; refine hck.mono ?_; rintro e w2 ⟨hsy, k2⟩; have HSY := Lib.hid hsy; have K2 := Lib.hid k2; clear hsy k2; rcases HSY.out with ⟨rfl, hP⟩ | ⟨rfl, hP⟩)
  · clear c0 c1 c2 c3 c4 c5 c6 c7 c8 c9 c10 c11 c12 hck HSY
    have HP := Lib.hid hP
    have HLO := Lib.hid (lok hP)
    clear hP
    go_upto_region 4 with (refine wpList_make w2 rfl 68 rfl ?_; intro w3 hw3)
    obtain ⟨rb, hrb⟩ : ∃ rb, w2.heap.size = rb := ⟨_, rfl⟩
    obtain ⟨b, hb⟩ : ∃ b, w3.heap.size = b := ⟨_, rfl⟩
    simp only [hrb, hb]
    have hP0 : Hid (Pw w1 (w3.alloc (.cells #[.map (some rb), sn, sn, .map none, .map none, .map none, .bool false, .int .i64 0, .int .i64 0] 74)) b rb T 0 0 [] sn sn 0 0) := pw_new K2.out hw3 hrb hb
    obtain ⟨w4, hw4⟩ : ∃ w4, w3.alloc (.cells #[.map (some rb), sn, sn, .map none, .map none, .map none, .bool false, .int .i64 0, .int .i64 0] 74) = w4 := ⟨_, rfl⟩
    rw [hw4] at hP0 ⊢
    clear hw3 hw4 hrb hb K2
    have hnt := HLO.out.nt
    obtain ⟨c0, c1, c2, c3, c4, c5, c6, c7, c8, c9, c10, c11, c12⟩ := tab_cells (NB.out.kept hP0.out.kept (fun x => x))
    clear c0 c1 c3 c4 c5 c6 c7 c8 c9 c10 c11 c12
    go_upto_region 5 with fail
    clear c2
    go_loopw [20] (fun i wr => ∃ (k : Nat) (rows : List (Ow × RowV)), k ≤ T.tasks.length ∧ i = .int .i64 k ∧ Hid (Pw w1 wr b rb T k 0 rows sn sn 0 0)) (fun i _ => T.tasks.length - (intOf i).toNat)
    case atStart => exact ⟨0, [], Nat.zero_le _, rfl, hP0⟩
    case round =>
      clear hP0
      obtain ⟨k, rows, hk, rfl, hPk⟩ := hrel
      by_cases hkl : k < T.tasks.length
      · obtain ⟨x, hx, hxm⟩ := at_of hkl
        have hTr := HT.out.same hPk.out.kept
        obtain ⟨tb, toff, hta, _, ce⟩ := camel_at hTr.tasks hx
        have e0 : wr.cell? ⟨tb, toff + k * 8, none⟩ = some (.int .i64 x.pr) := ce 0 _ rfl
        have e1 : wr.cell? ⟨tb, toff + k * 8 + 1, none⟩ = some (.int .i64 x.ring) := ce 1 _ rfl
        have e2 : wr.cell? ⟨tb, toff + k * 8 + 2, none⟩ = some (.bool x.full) := ce 2 _ rfl
        have e3 : wr.cell? ⟨tb, toff + k * 8 + 3, none⟩ = some (.int .i64 x.limit) := ce 3 _ rfl
        have e4 : wr.cell? ⟨tb, toff + k * 8 + 4, none⟩ = some (.int .u32 x.mask) := ce 4 _ rfl
        have e5 : wr.cell? ⟨tb, toff + k * 8 + 5, none⟩ = some (.int .i64 x.inl) := ce 5 _ rfl
        have e6 : wr.cell? ⟨tb, toff + k * 8 + 6, none⟩ = some (.slice x.oa x.own.length x.oc) := ce 6 _ rfl
        have e7 : wr.cell? ⟨tb, toff + k * 8 + 7, none⟩ = some (.int .u32 x.auto) := ce 7 _ rfl
        have hk0 : (0 : Int) ≤ (k : Int) := by omega
        have hk1 : (k : Int) < (T.tasks.length : Int) := by omega
        have hown := Lib.hid (hTr.town x hxm)
        have hol := HLO.out.ot x hxm
        have HX := Lib.hid hx
        clear ce hTr hx hxm
        go_upto_region 7 with fail
        have nx := Blk.new wr [.int .i64 x.pr, .int .i64 x.ring, .bool x.full, .int .i64 x.limit, .int .u32 x.mask, .int .i64 x.inl, .slice x.oa x.own.length x.oc, .int .u32 x.auto] 55
        have kx := (Kept.refl (fun _ => False) wr).alloc (.cells #[.int .i64 x.pr, .int .i64 x.ring, .bool x.full, .int .i64 x.limit, .int .u32 x.mask, .int .i64 x.inl, .slice x.oa x.own.length x.oc, .int .u32 x.auto] 55)
        obtain ⟨w6, hw6⟩ : ∃ w6, wr.alloc (.cells #[.int .i64 x.pr, .int .i64 x.ring, .bool x.full, .int .i64 x.limit, .int .u32 x.mask, .int .i64 x.inl, .slice x.oa x.own.length x.oc, .int .u32 x.auto] 55) = w6 := ⟨_, rfl⟩
        obtain ⟨X, hX⟩ : ∃ X, wr.heap.size = X := ⟨_, rfl⟩
        rw [hw6] at nx kx ⊢
        rw [hX] at nx
        simp only [hX]
        have hP6 := Lib.hid (hPk.out.same kx)
        have hown6 := Lib.hid (camel_kept hown.out kx (fun _ _ x => x))
        have NX := Lib.hid nx
        have g0 := hP6.out.blk.cell 0 (v := .map (some rb)) rfl
        have y0 := nx.cell 0 rfl
        have y5 := nx.cell 5 rfl
        have y6 := nx.cell 6 rfl
        have hki : I64 (k : Int) := by unfold I64; omega
        have HC : Hid (∀ wz, w6.drew = wz → Calls Try.prog 22 #[.slice x.oa x.own.length x.oc] wz fun e w2 => ∃ ao' c', e = .returned (.slice ao' x.own.length c') ∧ (w2.cell? ⟨b, 0, none⟩ = some (.map (some rb)) ∧ w2.cell? ⟨X, 0, none⟩ = some (.int .i64 x.pr) ∧ w2.cell? ⟨X, 5, none⟩ = some (.int .i64 x.inl) ∧ w2.cell? ⟨X, 6, none⟩ = some (.slice x.oa x.own.length x.oc)) ∧
            ∃ w3, (Instr.mapUpdate 68 (.map (some rb)) (.agg #[.bool false, .int .i64 k]) (.agg #[.int .i64 x.pr, .slice ao' x.own.length c', .int .i64 x.inl, .int .i64 0])).run Try.prog w2 = .ok () w3 ∧ (w3.cell? ⟨b, 0, none⟩ = some (.map (some rb)) ∧ w3.cell? ⟨X, 0, none⟩ = some (.int .i64 x.pr) ∧ w3.cell? ⟨X, 5, none⟩ = some (.int .i64 x.inl) ∧ w3.cell? ⟨X, 6, none⟩ = some (.slice x.oa x.own.length x.oc)) ∧
              Hid (∃ rows', Pw w1 w3 b rb T (k + 1) 0 rows' sn sn 0 0)) := by
          rintro wz rfl
          refine (cloneI_ok (c := x.oc) (w := w6.drew) hown6.out (by omega)).mono ?_
          rintro e w2 ⟨ao', c', rfl, hc2, k2, ho2⟩
          have kd : Kept (fun _ => False) w6 w2 := ((Kept.refl _ w6).drew).then k2 (fun _ x => x.elim)
          have hP2 := hP6.out.same kd
          have nx2 := NX.out.kept kd (fun x => x)
          obtain ⟨w3, st, hm3, k3, _⟩ := hP2.map.store keyO hP2.rok Try.underlying68 (x := ((false, (k : Int)) : Ow)) hki (⟨x.pr, x.own, ao', c', x.inl, 0⟩ : RowV)
          have hb3 := hP2.blk.kept k3 (blk_ne_map hP2.blk hP2.map)
          have nx3 := nx2.kept k3 (blk_ne_map nx2 hP2.map)
          refine ⟨ao', c', rfl, ⟨hP2.blk.cell 0 rfl, nx2.cell 0 rfl, nx2.cell 5 rfl, nx2.cell 6 rfl⟩, w3, st, ⟨hb3.cell 0 rfl, nx3.cell 0 rfl, nx3.cell 5 rfl, nx3.cell 6 rfl⟩, _, hP6.out.row (o := (false, (k : Int))) (rv := ⟨x.pr, x.own, ao', c', x.inl, 0⟩) hki (rowK_task HX.out) kd hc2 (fun a ha => ?_) hm3 k3⟩
          have ha2 : ao' = some a := ha
          have := ho2 a.block (by rw [ha2]; rfl)
          exact this
        clear hw6 hX nx kx hki hol hown6 hP6 NX hown e0 e1 e2 e3 e4 e5 e6 e7 hta HX hk0 hk1
        refine wp_region_noPanic ?_
        go_region_held3 (fun w' => w'.cell? ⟨b, 0, none⟩ = some (.map (some rb)) ∧ w'.cell? ⟨X, 0, none⟩ = some (.int .i64 x.pr) ∧ w'.cell? ⟨X, 5, none⟩ = some (.int .i64 x.inl) ∧ w'.cell? ⟨X, 6, none⟩ = some (.slice x.oa x.own.length x.oc))
          (first | (simp [*]; done) | fail)
          (first | (go_at_call 22; refine (HC.out _ rfl).mono ?_; rintro e w2 ⟨ao', c', rfl, ⟨q0, q1, q2, q3⟩, w3, st, ⟨s0, s1, s2, s3⟩, hP3⟩))
        refine NoPanic.normal ?_
        clear q0 q1 q2 q3 st s0 s1 s2 s3 HC g0 y0 y5 y6 hPk
        go_wp2_with fail
        go_roundw
        case rel => exact ⟨k + 1, _, by omega, by go_num, hP3.out.choose_spec⟩
        case measure => simp [intOf]; omega
      · obtain rfl : k = T.tasks.length := by omega
        have hP1 := hPk
        clear hPk
        have hni := HLO.out.ni
        obtain ⟨_, _, _, _, _, _, _, c7, _⟩ := tab_cells (NB.out.kept hP1.out.kept (fun x => x))
        go_upto_region 10 with fail
        clear c7
        go_loopw [43] (fun i wr => ∃ (k : Nat) (rows : List (Ow × RowV)), k ≤ T.isrs.length ∧ i = .int .i64 k ∧ Hid (Pw w1 wr b rb T T.tasks.length k rows sn sn 0 0)) (fun i _ => T.isrs.length - (intOf i).toNat)
        case atStart => exact ⟨0, rows, Nat.zero_le _, rfl, hP1⟩
        case round =>
          clear hP1
          obtain ⟨k, rows, hk, rfl, hPk⟩ := hrel
          by_cases hkl : k < T.isrs.length
          · obtain ⟨x, hx, hxm⟩ := at_of hkl
            have hTr := HT.out.same hPk.out.kept
            obtain ⟨tb, toff, hta, _, ce⟩ := camel_at hTr.isrs hx
            have e0 : wr.cell? ⟨tb, toff + k * 3, none⟩ = some (.int .i64 x.cat) := ce 0 _ rfl
            have e1 : wr.cell? ⟨tb, toff + k * 3 + 1, none⟩ = some (.int .i64 x.pr) := ce 1 _ rfl
            have e2 : wr.cell? ⟨tb, toff + k * 3 + 2, none⟩ = some (.slice x.oa x.own.length x.oc) := ce 2 _ rfl
            have hk0 : (0 : Int) ≤ (k : Int) := by omega
            have hk1 : (k : Int) < (T.isrs.length : Int) := by omega
            have hown := Lib.hid (hTr.iown x hxm)
            have hol := HLO.out.oi x hxm
            have HX := Lib.hid hx
            clear ce hTr hx hxm
            go_upto_region 12 with fail
            have nx := Blk.new wr [.int .i64 x.cat, .int .i64 x.pr, .slice x.oa x.own.length x.oc] 57
            have kx := (Kept.refl (fun _ => False) wr).alloc (.cells #[.int .i64 x.cat, .int .i64 x.pr, .slice x.oa x.own.length x.oc] 57)
            obtain ⟨w6, hw6⟩ : ∃ w6, wr.alloc (.cells #[.int .i64 x.cat, .int .i64 x.pr, .slice x.oa x.own.length x.oc] 57) = w6 := ⟨_, rfl⟩
            obtain ⟨X, hX⟩ : ∃ X, wr.heap.size = X := ⟨_, rfl⟩
            rw [hw6] at nx kx ⊢
            rw [hX] at nx
            simp only [hX]
            have hP6 := Lib.hid (hPk.out.same kx)
            have hown6 := Lib.hid (camel_kept hown.out kx (fun _ _ x => x))
            have NX := Lib.hid nx
            have g0 := hP6.out.blk.cell 0 (v := .map (some rb)) rfl
            have y0 := nx.cell 0 rfl
            have y5 := nx.cell 1 rfl
            have y6 := nx.cell 2 rfl
            have hki : I64 (k : Int) := by unfold I64; omega
            have HC : Hid (∀ wz, w6.drew = wz → Calls Try.prog 22 #[.slice x.oa x.own.length x.oc] wz fun e w2 => ∃ ao' c', e = .returned (.slice ao' x.own.length c') ∧ (w2.cell? ⟨b, 0, none⟩ = some (.map (some rb)) ∧ w2.cell? ⟨X, 0, none⟩ = some (.int .i64 x.cat) ∧ w2.cell? ⟨X, 1, none⟩ = some (.int .i64 x.pr) ∧ w2.cell? ⟨X, 2, none⟩ = some (.slice x.oa x.own.length x.oc)) ∧
                ∃ w3, (Instr.mapUpdate 68 (.map (some rb)) (.agg #[.bool true, .int .i64 k]) (.agg #[.int .i64 x.pr, .slice ao' x.own.length c', .int .i64 (-1), .int .i64 x.cat])).run Try.prog w2 = .ok () w3 ∧ (w3.cell? ⟨b, 0, none⟩ = some (.map (some rb)) ∧ w3.cell? ⟨X, 0, none⟩ = some (.int .i64 x.cat) ∧ w3.cell? ⟨X, 1, none⟩ = some (.int .i64 x.pr) ∧ w3.cell? ⟨X, 2, none⟩ = some (.slice x.oa x.own.length x.oc)) ∧
                  Hid (∃ rows', Pw w1 w3 b rb T T.tasks.length (k + 1) rows' sn sn 0 0)) := by
              rintro wz rfl
              refine (cloneI_ok (c := x.oc) (w := w6.drew) hown6.out (by omega)).mono ?_
              rintro e w2 ⟨ao', c', rfl, hc2, k2, ho2⟩
              have kd : Kept (fun _ => False) w6 w2 := ((Kept.refl _ w6).drew).then k2 (fun _ x => x.elim)
              have hP2 := hP6.out.same kd
              have nx2 := NX.out.kept kd (fun x => x)
              obtain ⟨w3, st, hm3, k3, _⟩ := hP2.map.store keyO hP2.rok Try.underlying68 (x := ((true, (k : Int)) : Ow)) hki (⟨x.pr, x.own, ao', c', -1, x.cat⟩ : RowV)
              have hb3 := hP2.blk.kept k3 (blk_ne_map hP2.blk hP2.map)
              have nx3 := nx2.kept k3 (blk_ne_map nx2 hP2.map)
              refine ⟨ao', c', rfl, ⟨hP2.blk.cell 0 rfl, nx2.cell 0 rfl, nx2.cell 1 rfl, nx2.cell 2 rfl⟩, w3, st, ⟨hb3.cell 0 rfl, nx3.cell 0 rfl, nx3.cell 1 rfl, nx3.cell 2 rfl⟩, _, hP6.out.row (o := (true, (k : Int))) (rv := ⟨x.pr, x.own, ao', c', -1, x.cat⟩) hki (rowK_isr HX.out) kd hc2 (fun a ha => ?_) hm3 k3⟩
              have ha2 : ao' = some a := ha
              have := ho2 a.block (by rw [ha2]; rfl)
              exact this
            clear hw6 hX nx kx hki hol hown6 hP6 NX hown e0 e1 e2 hta HX hk0 hk1
            refine wp_region_noPanic ?_
            go_region_held3 (fun w' => w'.cell? ⟨b, 0, none⟩ = some (.map (some rb)) ∧ w'.cell? ⟨X, 0, none⟩ = some (.int .i64 x.cat) ∧ w'.cell? ⟨X, 1, none⟩ = some (.int .i64 x.pr) ∧ w'.cell? ⟨X, 2, none⟩ = some (.slice x.oa x.own.length x.oc))
              (first | (simp [*]; done) | fail)
              (first | (go_at_call 22; refine (HC.out _ rfl).mono ?_; rintro e w2 ⟨ao', c', rfl, ⟨q0, q1, q2, q3⟩, w3, st, ⟨s0, s1, s2, s3⟩, hP3⟩))
            refine NoPanic.normal ?_
            clear q0 q1 q2 q3 st s0 s1 s2 s3 HC g0 y0 y5 y6 hPk
            go_wp2_with fail
            go_roundw
            case rel => exact ⟨k + 1, _, by omega, by go_num, hP3.out.choose_spec⟩
            case measure => simp [intOf]; omega
          · obtain rfl : k = T.isrs.length := by omega
            have hP1 := hPk
            clear hPk
            have hnr := HLO.out.nr
            obtain ⟨_, _, _, _, c4, _⟩ := tab_cells (NB.out.kept hP1.out.kept (fun x => x))
            obtain ⟨iB, hiB, hB0, hB1, hB2⟩ := info_parts infoBo
            obtain ⟨iI, hiI, hI0, hI1, hI2⟩ := info_parts SI.info
            go_upto_region 15 with fail
            clear c4
            go_loopw [66] (fun i wr => ∃ (k : Nat) (vi vc : Value), k ≤ T.ress.length ∧ i = .int .i64 k ∧ Hid (Pw w1 wr b rb T T.tasks.length T.isrs.length rows vi vc k k)) (fun i _ => T.ress.length - (intOf i).toNat)
            case atStart => exact ⟨0, _, _, Nat.zero_le _, rfl, hP1⟩
            case round =>
              clear hP1
              obtain ⟨k, vi, vc, hk, rfl, hPk⟩ := hrel
              by_cases hkl : k < T.ress.length
              · obtain ⟨x, hx, hxm⟩ := at_of hkl
                have hTr := HT.out.same hPk.out.kept
                obtain ⟨tb, toff, hta, _, ce⟩ := camel_at hTr.ress hx
                have e0 : wr.cell? ⟨tb, toff + k * 2, none⟩ = some (.bool x.1) := ce 0 _ rfl
                have e1 : wr.cell? ⟨tb, toff + k * 2 + 1, none⟩ = some (.int .i64 x.2) := ce 1 _ rfl
                have hk0 : (0 : Int) ≤ (k : Int) := by omega
                have hk1 : (k : Int) < (T.ress.length : Int) := by omega
                have HX := Lib.hid hx
                obtain ⟨vio, vik, rfl, _⟩ := row_any hPk.out.inl
                obtain ⟨vco, vck, rfl, _⟩ := row_any hPk.out.cei
                clear ce hTr hx hxm
                go_upto_region 17 with fail
                have nx := Blk.new wr [.bool x.1, .int .i64 x.2] 50
                have kx := (Kept.refl (fun _ => False) wr).alloc (.cells #[.bool x.1, .int .i64 x.2] 50)
                obtain ⟨w6, hw6⟩ : ∃ w6, wr.alloc (.cells #[.bool x.1, .int .i64 x.2] 50) = w6 := ⟨_, rfl⟩
                obtain ⟨X, hX⟩ : ∃ X, wr.heap.size = X := ⟨_, rfl⟩
                rw [hw6] at nx kx ⊢
                rw [hX] at nx
                simp only [hX]
                have hP6 := Lib.hid (hPk.out.same kx)
                have NX := Lib.hid nx
                have n1 := hP6.out.blk.cell 1 (v := .slice vio k vik) rfl
                have n1a : (w6.alloc (.cells #[.bool x.1] 4)).cell? ⟨b, 1, none⟩ = some (.slice vio k vik) := (World.cell?_alloc_some w6 _ _ (by rw [n1]; rfl)).trans n1
                have y0 := nx.cell 0 rfl
                have bX : b ≠ X := fun e => by have := hPk.out.blk.lt; omega
                have lX : ∀ g, (Value.slice vio k vik).ownBlock = some g → g ≠ X := fun g hg e => by have := row_lt hPk.out.inl hg; omega
                have lY : ∀ g, (Value.slice vco k vck).ownBlock = some g → g ≠ X := fun g hg e => by have := row_lt hPk.out.cei hg; omega
                have HR := Lib.hid hP6.out.inl
                have LY := Lib.hid lY
                have LX := Lib.hid lX
                clear hw6 hX nx kx e0 e1 hta hk0 hk1 lX lY hPk
                go_cut [] from 70 to 81 (fun wx => ∃ vi', Hid (Pw w1 wx b rb T T.tasks.length T.isrs.length rows vi' (.slice vco k vck) (k + 1) k ∧ Kept (fun g => g = b ∨ (Value.slice vio k vik).ownBlock = some g) w6 wx))
                case first =>
                  refine wp_region_noPanic ?_
                  go_region_law (refine step_append_any (by rfl) (.tmp 74) (.tmp 77) 69 (by rfl) 4 iB (.bool false) 1 1 Try.underlying69 hiB hB0 hB1 hB2 (by rfl) (by decide) vio k vik ((T.ress.take k).map (fun x : Bool × Int => Value.bool x.1)) (by simp [Act.eval]) (row_alloc HR.out _) (some ⟨w6.heap.size, 0, none⟩) 1 1 [.bool x.1] (by simp [Act.eval]) (shows_new _ _ _ (by simp) (by rfl)) (by simp [Value.oneCell']) (by unfold maxLen; omega) (by omega) ?_; intro ao5 c5 wq r1 r2 r3; have kc : Kept (fun g => (Value.slice vio k vik).ownBlock = some g) w6 wq := (((Kept.refl _ w6).alloc (.cells #[.bool x.1] 4)).drew).grown r2 (fun g e => Or.inl e); have hn1 := hP6.out.blk.kept kc (fun e => (hP6.out.li b e).2.1 rfl); have k2 := hn1.frozen 1; have k3 := hn1.cell 1 (v := .slice vio k vik) rfl)
                  all_goals
                    refine NoPanic.normal ?_
                    have hfin := Lib.hid (fun (wf : World) (hf : Kept (fun _ => False) (wq.setCell ⟨b, 1, none⟩ (.slice ao5 (k + 1) c5)) wf) => And.intro (hP6.out.flag HX.out (((Kept.refl (fun _ => False) w6).alloc (.cells #[.bool x.1] 4)).drew) r2 r1 r3 hf) ((((kc.mono (fun g _ e => Or.inr e)).setCell (S := fun g => g = b ∨ (Value.slice vio k vik).ownBlock = some g) (p := ⟨b, 1, none⟩) (Or.inl (Or.inl rfl)) (.slice ao5 (k + 1) c5)).then hf (fun _ x => x.elim))))
                    clear r1 r2 r3 kc hn1 k2 k3
                    go_wp2_with fail
                    go_meet
                    exact ⟨_, hfin.out _ (by exact (Kept.refl (fun _ => False) _).same rfl rfl rfl rfl)⟩
                case rest =>
                  obtain ⟨vi', hP7⟩ := hcut
                  have nx7 := NX.out.kept hP7.out.2 (fun e => by
                    rcases e with e | e
                    · exact bX e.symm
                    · exact LX.out X e rfl)
                  have y1 := nx7.cell 1 rfl
                  have n2 := hP7.out.1.blk.cell 2 (v := .slice vco k vck) rfl
                  obtain ⟨w7, hw7⟩ : ∃ w7, wc = w7 := ⟨_, rfl⟩
                  have n2a : (wc.alloc (.cells #[.int .i64 x.2] 3)).cell? ⟨b, 2, none⟩ = some (.slice vco k vck) := (World.cell?_alloc_some wc _ _ (by rw [n2]; rfl)).trans n2
                  have HP7 := Lib.hid hP7.out.1
                  have HR7 := Lib.hid hP7.out.1.cei
                  clear hP6 n1 n1a y0 HR hP7 nx7 hw7
                  go_upto_region 18 with fail
                  refine wp_region_noPanic ?_
                  go_region_law (refine step_append_any (by rfl) (.tmp 85) (.tmp 88) 47 (by rfl) 3 iI (.int .i64 0) 1 8 Try.underlying47 hiI hI0 hI1 hI2 (by rfl) (by decide) vco k vck ((T.ress.take k).map (fun x : Bool × Int => Value.int .i64 x.2)) (by simp [Act.eval]) (row_alloc HR7.out _) (some ⟨wc.heap.size, 0, none⟩) 1 1 [.int .i64 x.2] (by simp [Act.eval]) (shows_new _ _ _ (by simp) (by rfl)) (by simp [Value.oneCell']) (by unfold maxLen; omega) (by omega) ?_; intro ao5 c5 wq r1 r2 r3; have kc : Kept (fun g => (Value.slice vco k vck).ownBlock = some g) wc wq := (((Kept.refl _ wc).alloc (.cells #[.int .i64 x.2] 3)).drew).grown r2 (fun g e => Or.inl e); have hn1 := HP7.out.blk.kept kc (fun e => (HP7.out.lc b e).2.1 rfl); have k2 := hn1.frozen 2; have k3 := hn1.cell 2 (v := .slice vco k vck) rfl)
                  all_goals
                    refine NoPanic.normal ?_
                    have hfin := Lib.hid (fun (wf : World) (hf : Kept (fun _ => False) (wq.setCell ⟨b, 2, none⟩ (.slice ao5 (k + 1) c5)) wf) => HP7.out.ceil HX.out (((Kept.refl (fun _ => False) wc).alloc (.cells #[.int .i64 x.2] 3)).drew) r2 r1 r3 hf)
                    clear r1 r2 r3 kc hn1 k2 k3 HP7 HR7 n2 n2a y1
                    go_wp2_with fail
                    go_roundw
                    case rel => exact ⟨k + 1, _, _, by omega, by go_num, hfin.out _ (by exact (Kept.refl (fun _ => False) _).same rfl rfl rfl rfl)⟩
                    case measure => simp [intOf]; omega
              · obtain rfl : k = T.ress.length := by omega
                obtain ⟨hfx, hfg⟩ := pw_fx hPk.out HLO.out
                have hrs := Lib.hid (reset_ok (M := ⟨rb, vi, vc, rows, 0, 0, 0, [], [], []⟩) hPk.out.blk hfx (fun g hg => (hfg g hg).1))
                have HFG := Lib.hid hfg
                clear hfx hfg
                go_wp2_with (go_at_call 23; refine hrs.out.mono ?_; rintro e w9 ⟨rfl, M', hL9, ⟨m1, m2, m3, m4⟩, k9, hn9⟩)
                go_ret2
                have hs1 := K0.out.size
                have hs2 := hPk.out.kept.size
                have hbn := hPk.out.new.1
                refine Or.inr ⟨HP.out, b, M', rfl, hL9, fun g hg => ?_, fun g hg => ?_, ?_⟩
                · rcases hn9 g hg with e | e <;> omega
                · have h9 : lfix ⟨rb, vi, vc, rows, 0, 0, 0, [], [], []⟩ g := by
                    unfold lfix at hg ⊢
                    rw [m1, m2, m3, m4] at hg
                    exact hg
                  have := (HFG.out g h9).2
                  omega
                · exact (K0.out.then hPk.out.kept (fun _ x => x.elim)).then k9 (fun i e => Or.inr (by rw [e]; omega))
  · clear c0 c1 c2 c3 c4 c5 c6 c7 c8 c9 c10 c11 c12 hck HSY
    go_wp2_with fail
    go_ret2
    exact Or.inl ⟨hP, rfl, K0.out.then K2.out (fun _ x => x.elim)⟩
end Go.Proofs.Ytnfpiocjdhipcaa.LK
