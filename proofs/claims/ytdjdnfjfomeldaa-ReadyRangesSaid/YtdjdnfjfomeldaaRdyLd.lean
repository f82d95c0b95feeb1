/- tappetlaw13: heads, made. -/
import Derived.Test.YtdjdnfjfomeldaaRdyLc
import Derived.OwnWalk
namespace Go.Proofs.Ytdjdnfjfomeldaa.RL
open Go.RowKit Go.Fr Go.Rq Go.Shelf
open Go.Proofs.Ytdjdnfjfomeldaa.QD (IsQ qfoot encQ highest)
open Go.Proofs.Ytdjdnfjfomeldaa.DQ (IsD dfoot Dd LV Dstep encP infoR)
attribute [local go_sem] Oper.semAt_some

theorem camel_row {w : World} {e : TypeId} {ao : Option Addr} {c : Nat} {rs : List (Int × Int)} (h : Row w e 2 (.slice ao rs.length c) rs.length (rs.flatMap encP)) : CameL w 2 (encKK .i64 .i64) ao rs := by
  intro hne
  rcases row_forms h with ⟨_, h0⟩ | ⟨g, c1, hv, _, _, hg⟩
  · exact absurd (List.length_eq_zero_iff.1 h0) hne
  · cases hv
    refine ⟨g, 0, rfl, hg, fun i x hx j v hv => ?_⟩
    have := rows_cell (enc := encP) (fun _ => rfl) h hx hv
    rw [Nat.zero_add]; exact this

/-- New, as the law uses it -/
theorem new_fq {w wr : World} (rs : List (Int × Int)) (ao : Option Addr) (c : Nat) (hp : Upto rs rs.length) (hc : CameL wr 2 (encKK .i64 .i64) ao rs) (k : Kept (fun _ => False) w wr) : Calls Try.prog 28 #[.slice ao rs.length c] wr fun e w' =>
    e = .returned (.tuple #[.pointer (some ⟨wr.heap.size, 0, none⟩), .int .i64 0]) ∧ Fq w w' (fun _ => False) wr.heap.size (rs.map mkE) ∧ Kept (fun _ => False) wr w' ∧ ∃ cells R, IsQ w' wr.heap.size cells R (rs.map mkE) (bitsN (rs.map mkE)) ∧ (∀ i, qfoot wr.heap.size R i → wr.heap.size ≤ i) := by
  refine (QD.new_all ao c rs wr _ hp hc).mono ?_
  rintro e w' ⟨_, h2⟩
  obtain ⟨cells, R, rfl, hn⟩ := h2 rfl
  have hq := hn.q
  have hb := mkE_bits rs rs.length
  rw [List.take_length] at hq hb
  have hz := k.size
  have hq' : IsQ w' wr.heap.size cells R (rs.map mkE) (bitsN (rs.map mkE)) := by rw [hb]; exact hq
  exact ⟨rfl, ⟨cells, R, hq', fun i hi => Nat.le_trans hz (hn.ge i hi), fun _ x => x.elim, k.then hn.kept (fun _ x => x.elim)⟩, hn.kept, cells, R, hq', hn.ge⟩

set_option maxRecDepth 100000 in
set_option maxHeartbeats 4000000 in
theorem heads_ok (w : World) : Calls Try.prog 9 #[] w fun e w' => e = .returned (.bool true) ∧ Kept (fun _ => False) w w' := by
  have hnb := row_new w 65 2 2 [.int .i64 3, .int .i64 1, .int .i64 1, .int .i64 2] rfl (by decide)
  have hup : Upto [((3 : Int), (1 : Int)), (1, 2)] [((3 : Int), (1 : Int)), (1, 2)].length := ⟨Nat.le_refl _, by decide, fun h => absurd h (Nat.lt_irrefl _)⟩
  have hnew := new_fq (w := w) [(3, 1), (1, 2)] (some ⟨w.heap.size, 0, none⟩) 2 hup (camel_row hnb) ((Kept.refl _ w).alloc _)
  simp only [List.length_cons, List.length_nil, Nat.zero_add, Nat.reduceAdd, List.map_cons, List.map_nil] at hnew
  clear hnb hup
  go_enter Try.func9, Try.ntmps9
  go_upto_region 2 with (go_at_call 28; refine hnew.mono ?_; rintro e w1 ⟨rfl, hq, _, _⟩)
  rw [World.size_alloc] at hq
  obtain ⟨b, hb⟩ : ∃ b, w.heap.size + 1 = b := ⟨_, rfl⟩
  rw [hb] at hq ⊢
  clear hb hnew
  have e1 : putQ [mkE (3, 1), mkE (1, 2)] 1 7 false = ([(3, 1, 0, []), (1, 2, 1, [7])], 0) := rfl
  have e2 : putQ [(3, 1, 0, []), (1, 2, 1, [7])] 3 8 false = ([(3, 1, 1, [8]), (1, 2, 1, [7])], 0) := rfl
  have e3 : putQ [(3, 1, 1, [8]), (1, 2, 1, [7])] 3 9 false = ([(3, 1, 1, [8]), (1, 2, 1, [7])], 131) := rfl
  have e4 : putQ [(3, 1, 1, [8]), (1, 2, 1, [7])] 2 9 false = ([(3, 1, 1, [8]), (1, 2, 1, [7])], 130) := rfl
  have e5 : takeQ [(3, 1, 1, [8]), (1, 2, 1, [7])] = ([(3, 1, 1, []), (1, 2, 1, [7])], (3, 8), 0) := rfl
  have e6 : highest [(3, 1, 1, []), (1, 2, 1, [7])] = (1, true) := rfl
  have e7 : bitsN [(3, 1, 1, []), (1, 2, 1, [7])] = 2 := rfl
  have t1 := hq.tail 1 7
  rw [e1] at t1
  clear hq e1
  go_upto_region 5 with (go_at_call 10; refine t1.mono ?_; rintro e w2 ⟨rfl, hq, _⟩)
  have t2 := hq.tail 3 8
  rw [e2] at t2
  clear hq e2 t1
  go_upto_region 6 with (go_at_call 10; refine t2.mono ?_; rintro e w3 ⟨rfl, hq, _⟩)
  have t3 := hq.tail 3 9
  rw [e3] at t3
  clear hq e3 t2
  go_upto_region 7 with (go_at_call 10; refine t3.mono ?_; rintro e w4 ⟨rfl, hq, _⟩)
  have t4 := hq.tail 2 9
  rw [e4] at t4
  clear hq e4 t3
  go_upto_region 8 with (go_at_call 10; refine t4.mono ?_; rintro e w5 ⟨rfl, hq, _⟩)
  have t5 := hq.take
  rw [e5] at t5
  clear hq e5 t4
  go_upto_region 9 with (go_at_call 14; refine t5.mono ?_; rintro e w6 ⟨rfl, hq, _⟩)
  have nb := Blk.new w6 [.int .i64 3, .int .i64 8] 40
  have k7 := (Kept.refl (fun _ => False) w6).alloc (.cells #[.int .i64 3, .int .i64 8] 40)
  have y0 := nb.cell 0 rfl
  have y1 := nb.cell 1 rfl
  have q7 := hq.same k7
  have t6 := q7.highest
  have t7 := q7.bits
  rw [e6] at t6
  rw [e7] at t7
  have HK := Lib.hid q7.kept
  clear hq e6 e7 t5 nb k7 q7
  go_wp2_with (first
    | (go_at_call 30; refine t6.mono ?_; rintro e w' ⟨rfl, rfl⟩)
    | (go_at_call 21; refine t7.mono ?_; rintro e w' ⟨rfl, rfl⟩))
  go_ret
  exact ⟨rfl, HK.out⟩

theorem camel_shows {w : World} {ao : Option Addr} {l : List (Int × Int)} (hc : CameL w 2 (encKK .i64 .i64) ao l) : Shows w 2 ao l.length (l.flatMap encP) := by
  refine ⟨flat_length (sz := 2) (fun _ => rfl) l, ?_, ?_⟩
  · intro h
    cases l with
    | nil => rfl
    | cons a l => obtain ⟨g, off, e, _⟩ := hc (by simp); rw [h] at e; cases e
  · intro ad ha j u hu
    have hj := (List.getElem?_eq_some_iff.1 hu).1
    rw [flat_length (sz := 2) (fun _ => rfl) l] at hj
    have hne : l ≠ [] := by rintro rfl; simp at hj
    obtain ⟨g, off, e, hg, hcc⟩ := hc hne
    rw [ha] at e
    cases e
    obtain ⟨x, hx⟩ : ∃ x, l[j / 2]? = some x := ⟨_, List.getElem?_eq_getElem (by omega)⟩
    have h2 := flat_get (enc := encP) (sz := 2) (fun _ => rfl) l (j / 2) (j % 2) x hx (by omega)
    rw [show j / 2 * 2 + j % 2 = j by omega, hu] at h2
    have := hcc (j / 2) x hx (j % 2) u h2.symm
    rw [Addr.add_lit]
    rwa [show off + j / 2 * 2 + j % 2 = off + j by omega] at this

theorem new_any {w1 : World} (rs : List (Int × Int)) (ao : Option Addr) (c : Nat) (p : Nat) (hp : Upto rs p) (hc : CameL w1 2 (encKK .i64 .i64) ao rs) : Calls Try.prog 28 #[.slice ao rs.length c] w1 fun e w' =>
    Kept (fun _ => False) w1 w' ∧ ∃ (q : Option Addr) (er : Int) (G : World → Prop), e = .returned (.tuple #[.pointer q, .int .i64 er]) ∧ G w' ∧ (∀ W W', Kept (fun i => i < w1.heap.size) W W' → G W → G W') ∧
      ((p < rs.length ∧ q = none ∧ er = 133) ∨ (p = rs.length ∧ q = some ⟨w1.heap.size, 0, none⟩ ∧ er = 0 ∧ ∀ W, G W → ∃ cells R, IsQ W w1.heap.size cells R (rs.map mkE) (bitsN (rs.map mkE)) ∧ ∀ i, qfoot w1.heap.size R i → w1.heap.size ≤ i)) := by
  rcases Nat.lt_or_ge p rs.length with h | h
  · refine (QD.new_all ao c rs w1 p hp hc).mono ?_
    rintro e w' ⟨h1, _⟩
    obtain ⟨rfl, k⟩ := h1 h
    exact ⟨k, none, 133, fun _ => True, rfl, trivial, fun _ _ _ _ => trivial, Or.inl ⟨h, rfl, rfl⟩⟩
  · obtain rfl : p = rs.length := Nat.le_antisymm hp.le h
    refine (new_fq (w := w1) rs ao c hp hc (Kept.refl _ _)).mono ?_
    rintro e w' ⟨rfl, _, k, cells, R, hq, hge⟩
    refine ⟨k, _, _, fun W => ∃ cells R, IsQ W w1.heap.size cells R (rs.map mkE) (bitsN (rs.map mkE)) ∧ ∀ i, qfoot w1.heap.size R i → w1.heap.size ≤ i, rfl, ⟨cells, R, hq, hge⟩, ?_, Or.inr ⟨rfl, rfl, rfl, fun W h => h⟩⟩
    rintro W W' kk ⟨cells, R, h1, h2⟩
    exact ⟨cells, R, h1.kept kk (fun i hi hlt => by have := h2 i hi; omega), h2⟩

set_option maxRecDepth 100000 in
set_option maxHeartbeats 4000000 in
theorem made_ok (ao : Option Addr) (c : Nat) (rs : List (Int × Int)) (w : World) (hmx : rs.length ≤ 9223372036854775807) (hr : rs.length * 16 ≤ 140737488355328) (hc : CameL w 2 (encKK .i64 .i64) ao rs) : Calls Try.prog 8 #[.slice ao rs.length c] w fun e w' =>
    (e = .returned (.tuple #[.pointer none, .pointer none, .bool true]) ∧ Kept (fun _ => False) w w') ∨ ∃ b p, e = .returned (.tuple #[.pointer (some ⟨b, 0, none⟩), .pointer (some ⟨p, 0, none⟩), .bool true]) ∧ Pq w w' (fun _ => False) b p (rs.map mkE) (rs.map mkE) := by
  obtain ⟨i0, hi, hz0, hz1, hz2⟩ := info_parts infoR
  obtain ⟨p, hp⟩ := upto rs
  have kA := (Kept.refl (fun _ => False) w).alloc (.cells #[] 65)
  have rE : Row (w.alloc (.cells #[] 65)) 65 2 (.slice (some ⟨w.heap.size, 0, none⟩) 0 0) 0 [] := row_new w 65 2 0 [] rfl (Nat.zero_le _)
  have hcA : CameL (w.alloc (.cells #[] 65)) 2 (encKK .i64 .i64) ao rs := hc.below (kA.below (Nat.le_refl _) (fun _ h => False.elim h)) (Nat.le_refl _)
  have shA := camel_shows hcA
  have HC := Lib.hid hc
  have KA := Lib.hid kA
  have RE := Lib.hid rE
  have SA := Lib.hid shA
  clear hc kA rE hcA shA
  go_enter Try.func8, Try.ntmps8
  go_upto_region 2 with ((at_builtin; refine wpList_append_any rfl (.tmp 11) (.tmp 12) 22 rfl 65 i0 (.agg #[.int .i64 0, .int .i64 0]) 2 16 Try.underlying22 hi hz0 hz1 hz2 rfl (by decide) (some ⟨w.heap.size, 0, none⟩) 0 0 [] rfl RE.out ao rs.length c (rs.flatMap encP) rfl SA.out (by intro u hu; obtain ⟨x, _, hx⟩ := List.mem_flatMap.1 hu; simp only [encP, encKK, List.mem_cons, List.not_mem_nil, or_false] at hx; rcases hx with rfl | rfl <;> rfl) (by unfold maxLen; omega) (by omega) ?_; intro ai ci w1 r1 r2 r3))
  try simp only [Nat.zero_add] at r1 r3
  try simp only [List.nil_append] at r1
  try rw [Nat.zero_add]
  have hge : ∀ g, (Value.slice ai rs.length ci).ownBlock = some g → w.heap.size ≤ g := fun g hg => (r3 g hg).elim (fun e => by simp [Value.ownBlock] at e; omega) (fun h => by first | (simp at h; omega) | omega)
  have k1 : Kept (fun _ => False) w w1 := by
    have h1 := KA.out.mono (S' := fun i => i = w.heap.size) (fun _ _ h => False.elim h)
    have h2 := h1.grown r2 (fun k hk => by simp [Value.ownBlock] at hk; exact Or.inl hk.symm)
    exact h2.mono (fun i hi h => by omega)
  have hnew := new_any rs ai ci p hp (camel_row r1)
  have HGE := Lib.hid hge
  have HW := Lib.hid k1.size
  have R1 := Lib.hid r1
  have K1 := Lib.hid k1
  clear hge r1 r2 r3 k1 RE SA KA
  go_upto_region 3 with (go_at_call 28; refine hnew.mono ?_; rintro e w2 ⟨k2, q, er, G, rfl, g2, hG, hcase⟩)
  have L0 : Hid ((∃ ys, Row w2 65 2 (.slice ai rs.length ci) rs.length ys) ∧ Kept (fun _ => False) w w2 ∧ G w2 ∧ w1.heap.size ≤ w2.heap.size) := ⟨⟨_, row_kept R1.out k2 (fun _ _ x => x)⟩, K1.out.then k2 (fun _ x => x.elim), g2, k2.size⟩
  have LT : Hid (∀ g, (Value.slice ai rs.length ci).ownBlock = some g → g < w1.heap.size) := fun g hg => row_lt R1.out hg
  have HG := Lib.hid hG
  have HCASE := Lib.hid hcase
  clear k2 g2 hG hcase hnew R1 K1
  go_wp2
  go_loopw [8] (fun i wr => ∃ k : Nat, k ≤ rs.length ∧ i = .int .i64 k ∧ Hid ((∃ ys, Row wr 65 2 (.slice ai rs.length ci) rs.length ys) ∧ Kept (fun _ => False) w wr ∧ G wr ∧ w1.heap.size ≤ wr.heap.size)) (fun i _ => rs.length - (intOf i).toNat)
  case atStart => exact ⟨0, Nat.zero_le _, rfl, L0⟩
  case round =>
    clear L0
    obtain ⟨k, hk, rfl, hL⟩ := hrel
    by_cases hkl : k < rs.length
    · obtain ⟨⟨ys, hrow⟩, kk, gg, hsz⟩ := hL.out
      have hk0 : (0 : Int) ≤ (k : Int) := by omega
      have hk1 : (k : Int) < (rs.length : Int) := by omega
      rcases row_forms hrow with ⟨_, h0⟩ | ⟨g, c', hv, _⟩
      · omega
      cases hv
      have hyl : k * 2 + 1 < ys.length := by rw [hrow.1]; omega
      have z1 := row_frozen hrow (k * 2 + 1)
      have z2 := row_cell hrow (k * 2 + 1) (List.getElem?_eq_getElem hyl)
      have hr2 := row_set hrow (k * 2 + 1) (.int .i64 1)
      have kk2 := kk.setCell (p := ⟨g, k * 2 + 1, none⟩) (Or.inr (HGE.out g rfl)) (.int .i64 1)
      have gg2 := HG.out _ _ ((Kept.refl (fun i => i < w1.heap.size) wr).setCell (p := ⟨g, k * 2 + 1, none⟩) (Or.inl (LT.out g rfl)) (.int .i64 1)) gg
      have HN : Hid ((∃ ys, Row (wr.setCell ⟨g, k * 2 + 1, none⟩ (.int .i64 1)) 65 2 (.slice (some ⟨g, 0, none⟩) rs.length ci) rs.length ys) ∧ Kept (fun _ => False) w (wr.setCell ⟨g, k * 2 + 1, none⟩ (.int .i64 1)) ∧ G (wr.setCell ⟨g, k * 2 + 1, none⟩ (.int .i64 1)) ∧ w1.heap.size ≤ (wr.setCell ⟨g, k * 2 + 1, none⟩ (.int .i64 1)).heap.size) := ⟨⟨_, hr2⟩, kk2, gg2, by simpa using hsz⟩
      clear hrow hr2 kk kk2 gg gg2 hL
      go_wp2
      go_roundw
      case rel => exact ⟨k + 1, by omega, by go_num, HN⟩
      case measure => simp [intOf]; omega
    · obtain rfl : k = rs.length := by omega
      obtain ⟨_, kk, gg, hsz⟩ := hL.out
      have hdn := DQ.new_all ao c rs wr p hp (HC.out.below (kk.below (Nat.le_refl _) (fun _ h => h.elim)) (Nat.le_refl _)) hmx
      have KK := Lib.hid kk
      have GG := Lib.hid gg
      have HS := Lib.hid hsz
      clear kk gg hsz hL
      rcases HCASE.out with ⟨hlt, rfl, rfl⟩ | ⟨rfl, rfl, rfl, hgd⟩
      · have hdn2 := hdn.mono (R' := fun e w' => e = .returned (.tuple #[.pointer none, .int .i64 133]) ∧ Kept (fun _ => False) wr w') (fun e w' h => h.1 hlt)
        clear hdn HCASE
        go_wp2_with (go_at_call 29; refine hdn2.mono ?_; rintro e w3 ⟨rfl, k3⟩)
        refine bodyPost_ret (results_tmp3 rfl _ _ _) rfl ?_
        exact Or.inl ⟨rfl, KK.out.then k3 (fun _ x => x.elim)⟩
      · have hdn2 := hdn.mono (R' := fun e w' => ∃ d, e = .returned (.tuple #[.pointer (some ⟨wr.heap.size, 0, none⟩), .int .i64 0]) ∧ IsD w' wr.heap.size d (rs.map mkE) ∧ (∀ i, dfoot wr.heap.size d i → wr.heap.size ≤ i) ∧ Kept (fun _ => False) wr w') (fun e w' h => h.2 rfl)
        have HGD := Lib.hid hgd
        clear hdn HCASE hgd
        go_wp2_with (go_at_call 29; refine hdn2.mono ?_; rintro e w3 ⟨d, rfl, hd, hdf, k3⟩)
        refine bodyPost_ret (results_tmp3 rfl _ _ _) rfl ?_
        obtain ⟨cells, R, hq, hge⟩ := HGD.out _ GG.out
        have hs1 := HS.out
        have hs2 := KK.out.size
        refine Or.inr ⟨_, _, rfl, cells, R, d, hq.same k3, hd, fun i hi => ?_, fun i hi => Nat.le_trans hs2 (hdf i hi), fun i hi hd' => ?_, fun _ x => x.elim, KK.out.then k3 (fun _ x => x.elim)⟩
        · have h1 := hge i hi
          have h2 := HW.out
          omega
        · have h1 := hq.lt i hi
          have h2 := hdf i hd'
          omega
end Go.Proofs.Ytdjdnfjfomeldaa.RL
