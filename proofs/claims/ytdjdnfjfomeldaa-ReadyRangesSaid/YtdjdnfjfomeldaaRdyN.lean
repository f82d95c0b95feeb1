/- The document's queue: Copy. -/
import Derived.Test.YtdjdnfjfomeldaaRdyM
namespace Go.Proofs.Ytdjdnfjfomeldaa.DQ
open Go.RowKit Go.Fr Go.Rq Go.Shelf
attribute [local go_sem] Oper.semAt_some
theorem falls_len {st : List En} (h : Falls st) : st.length ≤ 64 := by
  have key : ∀ (l : List En) (m : Nat), l.Pairwise (fun a b => b.1 < a.1) → (∀ e ∈ l, e.1 < m) → l.length ≤ m := by
    intro l
    induction l with
    | nil => intro m _ _; simp
    | cons a l ih =>
      intro m h1 h2
      obtain ⟨h3, h4⟩ := List.pairwise_cons.1 h1
      have := ih a.1 h4 h3
      have := h2 a (by simp)
      simp only [List.length_cons]; omega
  exact key st 64 h.falls h.lt
def idl (e : En) : List Int := e.2.2.2
structure Cp (w wr : World) (p : Nat) (d : Dd) (st : List En) (N k : Nat) (aR aL aH : Option Addr) (cR cL cH : Nat) (vs : List Value) : Prop where
  b : Bx w wr N (.slice aR k cR) (.slice aL k cL) (.slice aH k cH) k k k ((st.take k).flatMap encR) vs ((st.take k).map encH) ((st.take k).map idl)
section
variable {w : World} {p : Nat} {d : Dd} {st : List En}
set_option maxRecDepth 100000 in
set_option maxHeartbeats 4000000 in
theorem copy_ok (hs : IsD w p d st) : Calls Try.prog 26 #[.pointer (some ⟨p, 0, none⟩)] w fun e w' =>
    ∃ d', e = .returned (.pointer (some ⟨w.heap.size, 0, none⟩)) ∧ IsD w' w.heap.size d' st ∧ (∀ i, dfoot w.heap.size d' i → w.heap.size ≤ i) ∧ Kept (fun _ => False) w w' := by
  obtain ⟨iR, hiR, hR0, hR1, hR2⟩ := info_parts infoR
  obtain ⟨iL, hiL, hL0, hL1, hL2⟩ := info_parts infoL
  obtain ⟨iI, hiI, hI0, hI1, hI2⟩ := info_parts RI.info
  have hln := hs.hln
  have hstl : st.length ≤ 64 := by have h1 := hs.falls; exact falls_len h1
  have hF := Lib.hid hs.falls
  have HS := Lib.hid hs
  obtain ⟨N, hN⟩ : ∃ N, w.heap.size = N := ⟨_, rfl⟩
  simp only [hN]
  clear hs
  go_enter Try.func26, Try.ntmps26
  go_wp2
  have nb := Blk.new w [.slice none 0 0, .slice none 0 0, .slice none 0 0] 77
  have k0 := (Kept.refl (fun _ => False) w).alloc (.cells #[.slice none 0 0, .slice none 0 0, .slice none 0 0] 77)
  obtain ⟨w1, hw1⟩ : ∃ w1, w.alloc (.cells #[.slice none 0 0, .slice none 0 0, .slice none 0 0] 77) = w1 := ⟨_, rfl⟩
  rw [hw1] at nb k0 ⊢
  rw [hN] at nb
  have B0 : Hid (Cp w w1 p d st N 0 none none none 0 0 0 []) := ⟨⟨nb, World.ownsRow_nil _ _ _ _, World.ownsRow_nil _ _ _ _, World.ownsRow_nil _ _ _ _, by simp [Value.ownBlock], by omega, fun i l v h => by simp at h, fun v hv => by simp at hv, rfl, k0⟩⟩
  have HN := Lib.hid hN
  clear hw1 nb k0 hN
  go_loopw [4] (fun i wr => ∃ (k : Nat) (aR aL aH : Option Addr) (cR cL cH : Nat) (vs : List Value), k ≤ st.length ∧ i = .int .i64 k ∧ Hid (Cp w wr p d st N k aR aL aH cR cL cH vs)) (fun i _ => st.length - (intOf i).toNat)
  case atStart => exact ⟨0, none, none, none, 0, 0, 0, [], Nat.zero_le _, rfl, B0⟩
  case round =>
    clear B0
    obtain ⟨k, aR, aL, aH, cR, cL, cH, vs, hk, rfl, hB⟩ := hrel
    have hsr := HS.out.same hB.out.b.kept
    have c0 := hsr.blk.cell 0 rfl
    by_cases hkl : k < st.length
    · obtain ⟨e, hx⟩ : ∃ e, st[k]? = some e := ⟨_, List.getElem?_eq_getElem hkl⟩
      have hk0 : (0 : Int) ≤ (k : Int) := by omega
      have hk1 : (k : Int) < (st.length : Int) := by omega
      obtain ⟨gR, gL, gH, v, e1, e2, e3, hvs, hv, b0, b1, b2, b3⟩ := hsr.at hx
      have hel := hsr.idl hx
      obtain ⟨av, cv, rfl⟩ := hv.form
      have c1 := hsr.blk.cell 1 rfl
      rw [e1] at c0
      rw [e2] at c1
      have E1 := Lib.hid e1
      have E3 := Lib.hid e3
      have HX := Lib.hid hx
      have HV := Lib.hid hv
      have HB := Lib.hid hB.out.b
      obtain ⟨q, cp, hh, l⟩ := e
      simp only at hel b0 b1 b2 b3 hv ⊢
      clear hx hv hvs e1 e2 e3 hB hsr
      go_upto_region 7 with (at_builtin; refine wpList_append_any rfl (.tmp 17) (.tmp 24) 75 rfl 3 iI (.int .i64 0) 1 8 Try.underlying75 hiI hI0 hI1 hI2 rfl (by decide) none 0 0 [] rfl (World.ownsRow_nil _ _ _ _) av l.length cv (l.map (Value.int .i64)) rfl (HV.out.shows.heap (fun _ _ => rfl)) (ints_one l) (by unfold maxLen; omega) (by omega) ?_; intro ao1 c1' w2 r1 r2 r3)
      try simp only [Nat.zero_add, List.nil_append] at r1 r3
      try rw [Nat.zero_add]
      have kc2 : Kept (fun _ => False) wr w2 := (Kept.refl (fun _ => False) wr).grown r2 (fun k hk => by simp [Value.ownBlock] at hk)
      have hlv := LV.row r1
      have hge : ∀ g, (Value.slice ao1 l.length c1').ownBlock = some g → wr.heap.size ≤ g := fun g hg => (r3 g hg).elim (fun e => by cases e) id
      have hB2 := HB.out.same kc2
      have hs2 := HS.out.same hB2.kept
      have hr2 := hs2.rows
      have hc0 := hs2.blk.cell 0 rfl
      rw [E1.out] at hr2 hc0
      have b0 : w2.cell? ⟨gR, k * 2, none⟩ = some (.int .i64 q) := rows_cell (i := 0) encR_len hr2 HX.out rfl
      have b1 : w2.cell? ⟨gR, k * 2 + 1, none⟩ = some (.int .i64 cp) := rows_cell (i := 1) encR_len hr2 HX.out rfl
      have n0 := hB2.blk.cell 0 rfl
      have n0' := (hB2.blk.alloc (.cells #[.int .i64 q, .int .i64 cp] 65)).cell 0 rfl
      have hun : ∀ g, (Value.slice ao1 l.length c1').ownBlock = some g → w.heap.size ≤ g ∧ (Value.slice aH k cH).ownBlock ≠ some g := fun g hg => by
        have h1 := hge g hg
        have h2 := HB.out.kept.size
        exact ⟨by omega, fun e => by have := row_lt HB.out.r3 e; omega⟩
      have HUN := Lib.hid hun
      have HB2 := Lib.hid hB2
      have HLV := Lib.hid hlv
      clear hr2 hs2 hB2 hlv hge r1 r2 r3 kc2 b2 b3 c1 hun HB HV c0
      refine wp_region_noPanic ?_
      go_region_law (refine step_append_any (by rfl) (.tmp 30) (.tmp 38) 22 (by rfl) 65 iR (.agg #[.int .i64 0, .int .i64 0]) 2 16 Try.underlying22 hiR hR0 hR1 hR2 (by rfl) (by decide) aR k cR ((st.take k).flatMap encR) (by simp [Act.eval]) (row_alloc HB2.out.r1 _) (some ⟨w2.heap.size, 0, none⟩) 1 1 [.int .i64 q, .int .i64 cp] (by simp [Act.eval]) (shows_new _ _ _ (by simp) (by rfl)) (by simp [Value.oneCell']) (by unfold maxLen; omega) (by omega) ?_; intro ao3 c3 w3 r1 r2 r3; have kc : Kept (fun g => (Value.slice aR k cR).ownBlock = some g) w2 w3 := (((Kept.refl _ w2).alloc (.cells #[.int .i64 q, .int .i64 cp] 65)).drew).grown r2 (fun g e => Or.inl e); have hn1 := HB2.out.blk.kept kc HB2.out.neN.1; have k2 := hn1.frozen 0; have k3 := hn1.cell 0 rfl)
      all_goals
        refine NoPanic.normal ?_
        have hB3 := HB2.out.putR r1 kc (fun g hg => (r3 g hg).imp id (fun h => by have := HB2.out.kept.size; first | omega | (simp at h; omega)))
        have hlv3 : LV (w3.setCell ⟨N, 0, none⟩ (.slice ao3 (k + 1) c3)) (.slice ao1 l.length c1') l :=
          (HLV.out.kept kc (fun g hg e => HLV.out.ne_row (by decide) HB2.out.r1 hg e)).heap (fun g hg => Below.heap_setCell _ ⟨N, 0, none⟩ _ _ (fun e => HB2.out.lvN HLV.out (by rw [hg, e])))
        have hfm : ((st.take k).flatMap encR ++ [.int .i64 q, .int .i64 cp]) = (st.take (k + 1)).flatMap encR := by rw [List.take_add_one, HX.out, Option.toList_some, List.flatMap_append]; rfl
        rw [hfm] at hB3
        obtain ⟨w4, hw4⟩ : ∃ w4, w3.setCell ⟨N, 0, none⟩ (.slice ao3 (k + 1) c3) = w4 := ⟨_, rfl⟩
        rw [hw4] at hB3 hlv3 ⊢
        have q1 := hB3.blk.cell 1 rfl
        have HB3 := Lib.hid hB3
        have HLV3 := Lib.hid hlv3
        clear hw4 hB3 hfm r1 r2 r3 kc hn1 k2 k3 hlv3 HB2 HLV n0 n0' b0 b1 hc0
        go_upto_region 9 with (at_builtin; refine wpList_append_any rfl (.tmp 46) (.tmp 48) 74 rfl 75 iL (.slice none 0 0) 1 24 Try.underlying74 hiL hL0 hL1 hL2 rfl (by decide) _ _ _ vs rfl (row_alloc HB3.out.r2 _) _ 1 1 [.slice ao1 l.length c1'] rfl (shows_new _ [_] _ (by simp) rfl) (by simp [Value.oneCell']) (by unfold maxLen; omega) (by omega) ?_; intro ao4 c4 w5 r1 r2 r3; have kc : Kept (fun g => (Value.slice aL k cL).ownBlock = some g) w4 w5 := ((Kept.refl _ w4).alloc (.cells #[.slice ao1 l.length c1'] 75)).grown r2 (fun g e => Or.inl e); have hn1 := HB3.out.blk.kept kc HB3.out.neN.2.1; have k2 := hn1.frozen 1; have k3 := hn1.cell 1 rfl; have hB5 := Lib.hid (HB3.out.putL r1 HLV3.out HUN.out kc (fun g hg => (r3 g hg).imp id (fun h => by have := HB3.out.kept.size; first | omega | (simp at h; omega)))))
        obtain ⟨w6, hw6⟩ : ∃ w6, w5.setCell ⟨N, 1, none⟩ (.slice ao4 (k + 1) c4) = w6 := ⟨_, rfl⟩
        rw [hw6] at hB5 ⊢
        have hs6 := HS.out.same hB5.out.kept
        have hh6 := hs6.highs
        have hc2 := hs6.blk.cell 2 rfl
        rw [E3.out] at hh6 hc2
        have b3 := row_cell hh6 k (u := .int .i64 hh) (by rw [List.getElem?_map, HX.out]; rfl)
        have n2 := hB5.out.blk.cell 2 rfl
        have n2' := (hB5.out.blk.alloc (.cells #[.int .i64 hh] 3)).cell 2 rfl
        clear hw6 r1 r2 r3 kc hn1 k2 k3 HB3 q1 hs6 hh6 HLV3
        refine wp_region_noPanic ?_
        go_region_law (refine step_append_any (by rfl) (.tmp 56) (.tmp 64) 75 (by rfl) 3 iI (.int .i64 0) 1 8 Try.underlying75 hiI hI0 hI1 hI2 (by rfl) (by decide) aH k cH ((st.take k).map encH) (by simp [Act.eval]) (row_alloc hB5.out.r3 _) (some ⟨w6.heap.size, 0, none⟩) 1 1 [.int .i64 hh] (by simp [Act.eval]) (shows_new _ _ _ (by simp) (by rfl)) (by simp [Value.oneCell']) (by unfold maxLen; omega) (by omega) ?_; intro ao5 c5 w7 r1 r2 r3; have kc : Kept (fun g => (Value.slice aH k cH).ownBlock = some g) w6 w7 := (((Kept.refl _ w6).alloc (.cells #[.int .i64 hh] 3)).drew).grown r2 (fun g e => Or.inl e); have hn1 := hB5.out.blk.kept kc hB5.out.neN.2.2; have k2 := hn1.frozen 2; have k3 := hn1.cell 2 rfl)
        all_goals
          refine NoPanic.normal ?_
          have hB7 := hB5.out.putH r1 kc (fun g hg => (r3 g hg).imp id (fun h => by have := hB5.out.kept.size; first | omega | (simp at h; omega)))
          have hm1 : (st.take k).map encH ++ [.int .i64 hh] = (st.take (k + 1)).map encH := by rw [List.take_add_one, HX.out, Option.toList_some, List.map_append]; rfl
          have hm2 : (st.take k).map idl ++ [l] = (st.take (k + 1)).map idl := by rw [List.take_add_one, HX.out, Option.toList_some, List.map_append]; rfl
          rw [hm1, hm2] at hB7
          have hfin : Hid (Cp w (w7.setCell ⟨N, 2, none⟩ (.slice ao5 (k + 1) c5)) p d st N (k + 1) ao3 ao4 ao5 c3 c4 c5 (vs ++ [.slice ao1 l.length c1'])) := ⟨hB7⟩
          clear hB7 hm1 hm2 r1 r2 r3 kc hn1 k2 k3 hB5 n2 n2' b3 hc2
          go_wp2
          go_roundw
          case rel => exact ⟨k + 1, ao3, ao4, ao5, c3, c4, c5, _, by omega, by go_num, hfin⟩
          case measure => simp [intOf]; omega
    · obtain rfl : k = st.length := by omega
      have hB2 := hB.out.b
      rw [List.take_length] at hB2
      have hdn := hB2.done rfl rfl rfl hF.out
      have HD := Lib.hid hdn
      clear hB2 hdn hB hsr
      go_wp2
      go_ret
      exact ⟨⟨aR, cR, aL, cL, aH, cH, vs⟩, rfl, HD.out.1, fun i hi => by rw [← HN.out]; exact HD.out.2.1 i hi, HD.out.2.2⟩
end
end Go.Proofs.Ytdjdnfjfomeldaa.DQ
