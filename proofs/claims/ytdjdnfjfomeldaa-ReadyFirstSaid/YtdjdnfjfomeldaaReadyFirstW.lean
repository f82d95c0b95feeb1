/- ReadyFirst: what is put in behind all others is taken by falling priority, and of one priority as it came. -/
import Derived.Test.YtdjdnfjfomeldaaRdyFq
namespace Go.Proofs.Ytdjdnfjfomeldaa.readyFirstW
open Go.RowKit Go.Fr Go.Rq Go.Proofs.Ytdjdnfjfomeldaa.RL
open Go.Proofs.Ytdjdnfjfomeldaa.QD (encQ infoQ)
attribute [local go_sem] Oper.semAt_some

set_option maxRecDepth 100000 in
set_option maxHeartbeats 8000000 in
theorem walk (w : World) (a0 : Option Addr) (cap0 : Nat) (l0 : List (Int × Int)) (hl0 : l0.length ≤ cap0) (hm0 : cap0 ≤ maxLen) (hc0 : CameL w 2 (encKK .i64 .i64) a0 l0)
    (_ : ∀ x ∈ l0, (Lit.int .i64 x.1).wf = true ∧ (Lit.int .i64 x.2).wf = true) (hr0 : l0.length * 16 ≤ 140737488351232)
    (a1 : Option Addr) (cap1 : Nat) (l1 : List (Int × Int × Int)) (hl1 : l1.length ≤ cap1) (hm1 : cap1 ≤ maxLen) (hc1 : CameL w 3 (encKKK .i64 .i64 .i64) a1 l1)
    (_ : ∀ x ∈ l1, (Lit.int .i64 x.1).wf = true ∧ (Lit.int .i64 x.2.1).wf = true ∧ (Lit.int .i64 x.2.2).wf = true) (hr1 : l1.length * 24 ≤ 140737488351232) :
    Calls Try.prog 5 #[.slice a0 l0.length cap0, .slice a1 l1.length cap1] w fun e w' => e = .returned (.bool true) ∧ Below w.heap.size w w' := by
  obtain ⟨i0, hi, hz0, hz1, hz2⟩ := info_parts infoQ
  have hmx : l0.length ≤ maxLen := Nat.le_trans hl0 hm0
  have hmy : l1.length ≤ maxLen := Nat.le_trans hl1 hm1
  unfold maxLen at hmx hmy
  have hmade := made_ok a0 cap0 l0 w hmx (by omega) hc0
  have HC1 := Lib.hid hc1
  clear hc0 hc1
  go_enter Try.func5, Try.ntmps5
  go_upto_region 2 with (go_at_call 8; refine hmade.mono ?_; rintro e w1 (⟨rfl, k1⟩ | ⟨b, p0, rfl, hq⟩))
  · have K1 := Lib.hid k1
    clear hmade k1
    go_wp2_with (go_at_call 9; refine (heads_ok _).mono ?_; rintro e w2 ⟨rfl, k2⟩)
    go_ret
    exact ⟨rfl, (K1.out.then k2 (fun _ x => x.elim)).below (Nat.le_refl _) (fun _ h => h.elim)⟩
  · have hh0 : Hid (Holds (l0.map mkE) []) := holds_new l0
    obtain ⟨st0, hst0⟩ : ∃ st0, l0.map mkE = st0 := ⟨_, rfl⟩
    rw [hst0] at hq hh0
    have HQ := Lib.hid hq
    clear hmade hq hst0
    go_wp2_with (go_at_call 9; refine (heads_ok _).mono ?_; rintro e w2 ⟨rfl, k2⟩)
    have P0 : Hid (Ls w w2 b st0 none 0 [] (fun _ => False)) := fq_of_pq (HQ.out.same k2)
    clear HQ k2
    go_loopw [8, 9] (fun v i wr => ∃ (k : Nat) (ao : Option Addr) (c : Nat) (ins : List (Int × Int)) (st : List En), k ≤ l1.length ∧ ins.length ≤ k ∧ i = .int .i64 k ∧ v = .slice ao ins.length c ∧ Hid (Ls w wr b st ao c ins (fun _ => False)) ∧ Hid (Holds st ins)) (fun _ i _ => l1.length - (intOf i).toNat)
    case atStart => exact ⟨0, none, 0, [], st0, Nat.zero_le _, Nat.zero_le _, rfl, rfl, P0, hh0⟩
    case round =>
      clear P0 hh0
      obtain ⟨k, ao, c, ins, st, hk, hik, rfl, rfl, hL, hH⟩ := hrel
      by_cases hkl : k < l1.length
      · obtain ⟨⟨kd, pr, idd⟩, hx⟩ : ∃ x, l1[k]? = some x := ⟨_, List.getElem?_eq_getElem hkl⟩
        have hk0 : (0 : Int) ≤ (k : Int) := by omega
        have hk1 : (k : Int) < (l1.length : Int) := by omega
        have HX := Lib.hid hx
        obtain ⟨ab, off, rfl, hab, e0, e1, e2⟩ := elem_tri HC1.out (hL.out.kept.below (Nat.le_refl _) (fun _ h => h.elim)) hx
        obtain ⟨PQ, hPQ⟩ : ∃ PQ, putQ st pr (k : Int) false = PQ := ⟨_, rfl⟩
        have HT := hL.out.tail pr k
        have hpt := holds_put (x := (k : Int)) (p := pr) hL.out.q.falls hH.out
        have hno := holds_no (st := st) (x := (k : Int)) (p := pr)
        rw [hPQ] at HT hpt hno
        have Hpt := Lib.hid hpt
        have Hno := Lib.hid hno
        clear hPQ hL hx hpt hno e0 e2
        go_upto_region 11 with (go_at_call 10; refine HT.mono ?_; rintro e w3 ⟨rfl, h3⟩)
        have H3 := Lib.hid h3
        clear HT h3 e1
        by_cases h0 : PQ.2 = 0
        · obtain ⟨ab', off', hab', _, _, e1, _⟩ := elem_tri HC1.out (H3.out.kept.below (Nat.le_refl _) (fun _ h => h.elim)) HX.out
          cases hab'
          have d0 : decide (PQ.2 = 0) = true := by simpa using h0
          have b0 : (PQ.2 == 0) = true := by simpa using h0
          have HN := Lib.hid (Hpt.out h0)
          clear h0 Hpt Hno hH
          go_wp2_with (at_builtin; refine wpList_append_any rfl (.tmp 52) (.tmp 60) 34 rfl 40 i0 (.agg #[.int .i64 0, .int .i64 0]) 2 16 Try.underlying34 hi hz0 hz1 hz2 rfl (by decide) _ _ _ (ins.flatMap encQ) rfl (row_alloc H3.out.row _) _ 1 1 [.int .i64 pr, .int .i64 (k : Int)] rfl (shows_new _ [_, _] _ (by simp) rfl) (by simp [Value.oneCell']) (by unfold maxLen; omega) (by omega) ?_; intro ao5 c5 w5 r1 r2 r3)
          have hl : (ins ++ [(pr, (k : Int))]).length = ins.length + 1 := by simp
          have hfm : (ins ++ [(pr, (k : Int))]).flatMap encQ = ins.flatMap encQ ++ [.int .i64 pr, .int .i64 (k : Int)] := by rw [List.flatMap_append]; rfl
          have H5 : Hid (Ls w w5 b PQ.1 ao5 c5 (ins ++ [(pr, (k : Int))]) (fun _ => False)) := H3.out.put (((Kept.refl _ _).alloc _).grown r2 (fun k hk => Or.inl hk)) (by rw [hl, hfm]; exact r1) (by rw [hl]; exact fun g hg => (r3 g hg).imp id (fun h => by rw [World.size_alloc] at h; omega))
          have HL5 := Lib.hid hl
          clear r1 r2 r3 hl hfm e1
          go_roundw
          case rel => exact ⟨k + 1, ao5, c5, ins ++ [(pr, (k : Int))], PQ.1, by omega, by have := HL5.out; omega, by go_num, by rw [HL5.out], H5, HN⟩
          case measure => simp [intOf]; omega
        · have d0 : decide (PQ.2 = 0) = false := by simpa using h0
          have b0 : (PQ.2 == 0) = false := by simpa using h0
          have HN : Hid (Holds PQ.1 ins) := by unfold Hid; rw [Hno.out h0]; exact hH.out
          clear h0 Hpt Hno hH
          go_wp2_with fail
          go_roundw
          case rel => exact ⟨k + 1, ao, c, ins, PQ.1, by omega, by omega, by go_num, rfl, H3, HN⟩
          case measure => simp [intOf]; omega
      · obtain rfl : k = l1.length := by omega
        have hall := hL.out.q.all
        have hle := allQ_le hL.out.q.falls
        have hrest := holds_rest hL.out.q.falls hH.out
        have htk := fun x xs => take_head (x := x) (xs := xs) hL.out.q.falls
        have htt := take_all st
        obtain ⟨⟨s1, ⟨x1, x2⟩, e1⟩, hTQ⟩ : ∃ TQ, takeQ st = TQ := ⟨_, rfl⟩
        obtain ⟨L, hLL⟩ : ∃ L, allQ st = L := ⟨_, rfl⟩
        rw [hLL] at hall hle hrest htt
        simp only [hLL, hTQ] at htk htt
        have HTT := Lib.hid htt
        have HTQ := Lib.hid hTQ
        have HLL := Lib.hid hLL
        have HR := Lib.hid hrest
        have HK := Lib.hid htk
        have h63 : Hid (ins.length ≤ 140737488355328) := by unfold Hid; omega
        clear hLL hrest htk hH HC1 hik htt hTQ
        go_upto_region 14 with (go_at_call 17; refine hall.mono ?_; rintro e w3 ⟨ao2, c2, rfl, h2, h3, k3⟩)
        have H3 := hL.out.more (Z := fun i => (Value.slice ao2 L.length c2).ownBlock = some i) k3 (fun i hi => Or.inr ⟨h3 i hi, row_lt h2 hi⟩)
        have R3 := Lib.hid h2
        have hTK := H3.tk
        rw [HTQ.out] at hTK
        clear h2 h3 k3 hL hall H3
        go_upto_if 70 with (go_at_call 14; refine hTK.mono ?_; rintro e w4 ⟨rfl, h4, kk4⟩)
        have R4 := row_kept R3.out kk4 (fun g hg hn => hn hg)
        have nb := Blk.new w4 [.int .i64 x1, .int .i64 x2] 40
        have y0 := nb.cell 0 rfl
        have y1 := nb.cell 1 rfl
        have H5 := Lib.hid (h4.same ((Kept.refl _ w4).alloc (.cells #[.int .i64 x1, .int .i64 x2] 40)))
        have R5 := Lib.hid (row_alloc R4 (.cells #[.int .i64 x1, .int .i64 x2] 40))
        clear R3 h4 kk4 R4 nb hTK
        obtain ⟨w5, hw5⟩ : ∃ w5, w4.alloc (.cells #[.int .i64 x1, .int .i64 x2] 40) = w5 := ⟨_, rfl⟩
        obtain ⟨M, hM⟩ : ∃ M, w4.heap.size = M := ⟨_, rfl⟩
        rw [hw5, hM] at y0 y1
        rw [hw5] at H5 R5
        rw [hw5]
        try rw [hM]
        clear hw5 hM
        go_cut [] (fun wx => ∃ st2, Hid (Ls w wx b st2 ao c ins (fun _ => False)) ∧ Hid (allQ st2 = rest ins 64))
        case first =>
          rcases HTT.out with ⟨hl, ht⟩ | ⟨x, xs, hl, ht, hxs⟩
          · cases ht
            clear hl
            go_wp2_with fail
            go_meet
            exact ⟨_, H5.out.less (fun _ x => x.elim), by unfold Hid; rw [HLL.out]; exact HR.out⟩
          · cases ht
            obtain ⟨k1, k2⟩ := HK.out _ xs hl
            have hhd := H5.out.head x1 x2
            rw [k1] at hhd
            obtain ⟨s2, hs2⟩ : ∃ s2, (putQ s1 x1 x2 true).1 = s2 := ⟨_, rfl⟩
            rw [hs2] at hhd k2
            have K2 := Lib.hid k2
            clear k1 k2 hs2 hl hxs
            go_upto_region 17 with (go_at_call 18; refine hhd.mono ?_; rintro e w6 ⟨rfl, h6, kk6⟩)
            have R6 := Lib.hid (row_kept R5.out kk6 (fun g hg hn => hn hg))
            have hal6 := h6.q.all
            rw [K2.out] at hal6
            have H6 := Lib.hid h6
            clear H5 R5 kk6 h6 hhd y0 y1
            go_upto_region 18 with (first
              | (go_at_call 17; refine hal6.mono ?_; rintro e w7 ⟨ao7, c7, rfl, h7, _, k7⟩)
              | (go_at_call 19; refine (queued_ok h7 (row_kept R6.out k7 (fun _ _ x => x)) (by omega)).mono ?_; rintro e w8 ⟨rfl, k8⟩))
            have H8 := Lib.hid ((H6.out.same k7).same k8)
            clear H6 R6 h7 k7 k8 hal6
            go_wp2_with fail
            go_meet
            exact ⟨s2, H8.out.less (fun _ x => x.elim), by unfold Hid; rw [K2.out]; exact HR.out⟩
        case rest =>
        obtain ⟨s2, hT, hA⟩ := hcut
        clear H5 R5 HR HK HLL HTT HTQ y0 y1
        go_wp2_with fail
        go_loopw [16] (fun v wr => ∃ (q : Nat) (st : List En), q ≤ 64 ∧ v = .int .i64 ((q : Int) - 1) ∧ Hid (Ls w wr b st ao c ins (fun _ => False)) ∧ Hid (allQ st = rest ins q)) (fun v _ => (intOf v + 1).toNat)
        case atStart => exact ⟨64, s2, Nat.le_refl _, rfl, hT, hA⟩
        case round =>
          clear hT hA
          obtain ⟨q, st, hq, rfl, hT, hA⟩ := hrel
          cases q with
          | zero =>
            have hA0 : allQ st = [] := hA.out
            have hb : bitsN st = 0 := allQ_nil_bits hA0
            go_wp2_with (first
              | (go_at_call 14; refine (hT.out.take_no hA0).mono ?_; rintro e w4 ⟨rfl, h4⟩; have HL4 := (h4.same ((Kept.refl _ w4).alloc (.cells #[.int .i64 0, .int .i64 0] 40))).q.len; have HB4 := (h4.same ((Kept.refl _ w4).alloc (.cells #[.int .i64 0, .int .i64 0] 40))).q.bits; rw [hA0] at HL4; rw [hb] at HB4; have H4 := Lib.hid h4.kept; clear h4)
              | (go_at_call 20; refine HL4.mono ?_; rintro e w5 ⟨rfl, rfl⟩)
              | (go_at_call 21; refine HB4.mono ?_; rintro e w6 ⟨rfl, rfl⟩))
            go_ret
            exact ⟨rfl, (H4.out.alloc _).below (Nat.le_refl _) (fun _ h => h.elim)⟩
          | succ q =>
            obtain ⟨v, hv⟩ : ∃ v, ((q + 1 : Nat) : Int) - 1 = v := ⟨_, rfl⟩
            rw [hv]
            obtain rfl : v = (q : Int) := by omega
            have hq0 : (0 : Int) ≤ (q : Int) := by omega
            have hq1 : (q : Int) < 64 := by omega
            clear hv
            go_wp2_with fail
            go_loopw [17] (fun i wx => ∃ (j : Nat) (st : List En), j ≤ ins.length ∧ i = .int .i64 j ∧ Hid (Ls w wx b st ao c ins (fun _ => False)) ∧ Hid (allQ st = (ins.drop j).filter (fun x => decide (x.1 = (q : Int))) ++ rest ins q)) (fun i _ => ins.length - (intOf i).toNat)
            case atStart => exact ⟨0, st, Nat.zero_le _, rfl, hT, hA⟩
            case round =>
              clear hT hA
              obtain ⟨j, st, hj, rfl, hT, hA⟩ := hrel
              have hj9 := h63.out
              by_cases hjl : j < ins.length
              · obtain ⟨⟨x, y⟩, hx⟩ : ∃ x, ins[j]? = some x := ⟨_, List.getElem?_eq_getElem hjl⟩
                have hj0 : (0 : Int) ≤ (j : Int) := by omega
                have hj1 : (j : Int) < (ins.length : Int) := by omega
                obtain ⟨g, rfl, c0, c1⟩ := hT.out.elem hx
                have HX := Lib.hid hx
                have hra := rest_at (q := q) hx
                clear hx
                by_cases hxq : x = (q : Int)
                · subst hxq
                  have hA2 := hA.out
                  rw [hra, if_pos rfl] at hA2
                  simp only [List.cons_append, List.nil_append] at hA2
                  have hn : ((q : Int) != (q : Int)) = false := by simp
                  have HTK := hT.out.take hA2
                  clear hA2 hra
                  go_upto_region 28 with (go_at_call 14; refine HTK.mono ?_; rintro e w4 ⟨rfl, h4, q4, _⟩)
                  have nb := Blk.new w4 [.int .i64 (q : Int), .int .i64 y] 40
                  have y0 := nb.cell 0 rfl
                  have y1 := nb.cell 1 rfl
                  have H5 := Lib.hid (h4.same ((Kept.refl _ w4).alloc (.cells #[.int .i64 (q : Int), .int .i64 y] 40)))
                  obtain ⟨z0, z1⟩ := H5.out.elem' rfl HX.out
                  have hne : (binOp .neq 40 (.agg #[.int .i64 (q : Int), .int .i64 y]) (.agg #[.int .i64 (q : Int), .int .i64 y])).run Try.prog = fun w => .ok (.bool false) w := by
                    funext w; simp [go_sem]
                  have Q4 := Lib.hid q4
                  clear h4 q4 nb HTK c0 c1 hT
                  obtain ⟨w5, hw5⟩ : ∃ w5, w4.alloc (.cells #[.int .i64 (q : Int), .int .i64 y] 40) = w5 := ⟨_, rfl⟩
                  obtain ⟨M, hM⟩ : ∃ M, w4.heap.size = M := ⟨_, rfl⟩
                  rw [hw5] at y0 y1 z0 z1 H5
                  rw [hM] at y0 y1
                  rw [hw5]
                  try rw [hM]
                  clear hw5 hM
                  go_quiet (fail)
                  go_wp2_with fail
                  go_roundw
                  case rel => exact ⟨j + 1, _, by omega, by go_num, H5.out.same (by exact (Kept.refl (fun _ => False) _).drewN _), Q4⟩
                  case measure => simp [intOf]; omega
                · have hA2 : Hid (allQ st = (ins.drop (j + 1)).filter (fun x => decide (x.1 = (q : Int))) ++ rest ins q) := by
                    have hA3 := hA.out
                    rw [hra, if_neg hxq] at hA3
                    exact hA3
                  have d0 : decide (x = (q : Int)) = false := by simpa using hxq
                  have b0 : (x == (q : Int)) = false := by simpa using hxq
                  have b1 : (x != (q : Int)) = true := by simpa using hxq
                  clear hra hxq hA
                  go_wp2_with fail
                  go_roundw
                  case rel => exact ⟨j + 1, st, by omega, by go_num, hT, hA2⟩
                  case measure => simp [intOf]; omega
              · obtain rfl : j = ins.length := by omega
                have hA2 : Hid (allQ st = rest ins q) := by
                  have hA3 := hA.out
                  rw [List.drop_length] at hA3
                  exact hA3
                clear hA
                go_wp2_with fail
                go_roundw
                case rel => exact ⟨q, st, by omega, by go_num, hT, hA2⟩
                case measure => simp [intOf]
end Go.Proofs.Ytdjdnfjfomeldaa.readyFirstW
