/- The document's queue: New. -/
import Derived.Test.YtdjdnfjfomeldaaRdyK
import Derived.BigQuiet
namespace Go.Proofs.Ytdjdnfjfomeldaa.DQ
open Go.RowKit Go.Fr Go.Rq Go.Shelf
attribute [local go_sem] Oper.semAt_some
theorem infoR : (Try.prog.info? 65).map (fun i => (i.zero, i.size, i.bytes)) = some (some (.agg #[.int .i64 0, .int .i64 0]), 2, 16) := by kernel_rfl
theorem infoL : (Try.prog.info? 75).map (fun i => (i.zero, i.size, i.bytes)) = some (some (.slice none 0 0), 1, 24) := by kernel_rfl
abbrev encP : Int × Int → List Value := encKK .i64 .i64

/-- the document's own refusal of a row, as the call has it -/
theorem okAt_ref {rs : List (Int × Int)} {k : Nat} {x : Int × Int} (hx : rs[k]? = some x) (hp : k = 0 ∨ ∃ y, rs[k - 1]? = some y ∧ 0 ≤ y.1 ∧ y.1 ≤ 63) :
    okAt rs k = (!decide (x.1 < 0) && !decide (63 < x.1) && !(decide (0 < k) && decide (((rs[k - 1]?).map (·.1)).getD 0 ≤ x.1)) && !decide (x.2 < 1) && !decide (65536 < x.2)) := by
  rw [okAt_some hx, Bool.eq_iff_iff, okRow_iff]
  unfold lastAt
  rcases hp with rfl | ⟨y, hy, h1, h2⟩
  · simp; omega
  · by_cases hk : k = 0
    · subst hk; simp; omega
    · rw [if_neg hk, hy]
      simp [show 0 < k by omega]; omega

theorem upto_falls {rs : List (Int × Int)} {p : Nat} (h : Upto rs p) : ∀ k, k ≤ p → Falls ((rs.take k).map mkE)
  | 0, _ => ⟨by simp, by simp, by simp, by simp⟩
  | k + 1, hk => by
    have ih := upto_falls h k (by omega)
    obtain ⟨l1, l2, l3⟩ := h.low k (by omega)
    obtain ⟨x, hx⟩ : ∃ x, rs[k]? = some x := ⟨_, List.getElem?_eq_getElem (by have := h.le; omega)⟩
    have ho := h.ok k (by omega)
    rw [okAt_some hx, okRow_iff] at ho
    rw [List.take_add_one, hx, Option.toList_some, List.map_append, List.map_cons, List.map_nil]
    have hmem : ∀ e ∈ (rs.take k).map mkE ++ [mkE x], e ∈ (rs.take k).map mkE ∨ e = mkE x := fun e he => by simpa using he
    refine ⟨List.pairwise_append.2 ⟨ih.falls, by simp, fun a ha b hb => ?_⟩, fun e he => ?_, fun e he => ?_, fun e he => ?_⟩
    · simp at hb; subst hb
      have := l3 a ha
      simp only [mkE]; omega
    · rcases hmem e he with h1 | rfl
      · exact ih.lt e h1
      · simp only [mkE]; omega
    · rcases hmem e he with h1 | rfl
      · exact ih.cap e h1
      · simp only [mkE]; omega
    · rcases hmem e he with h1 | rfl
      · exact ih.len e h1
      · simp [mkE]
theorem upto_encs {rs : List (Int × Int)} {p : Nat} (h : Upto rs p) : ∀ k, k ≤ p → (rs.take k).flatMap encP = ((rs.take k).map mkE).flatMap encR
  | 0, _ => by simp
  | k + 1, hk => by
    have ih := upto_encs h k (by omega)
    obtain ⟨x, hx⟩ : ∃ x, rs[k]? = some x := ⟨_, List.getElem?_eq_getElem (by have := h.le; omega)⟩
    have ho := h.ok k (by omega)
    rw [okAt_some hx, okRow_iff] at ho
    rw [List.take_add_one, hx, Option.toList_some, List.map_append, List.flatMap_append, List.flatMap_append, ih]
    simp only [List.flatMap_cons, List.flatMap_nil, List.map_cons, List.map_nil, encP, encR, encKK, mkE]
    rw [Int.toNat_of_nonneg ho.1, Int.toNat_of_nonneg (show 0 ≤ x.2 by omega)]
theorem mkE_high (rs : List (Int × Int)) : List.replicate rs.length (Value.int .i64 0) = (rs.map mkE).map encH := by
  induction rs with
  | nil => rfl
  | cons x rs ih => rw [List.length_cons, List.replicate_succ, ih]; rfl
theorem mkE_ids (rs : List (Int × Int)) : List.replicate rs.length ([] : List Int) = (rs.map mkE).map (fun e => e.2.2.2) := by
  induction rs with
  | nil => rfl
  | cons x rs ih => rw [List.length_cons, List.replicate_succ, ih]; rfl

structure Nb (w wr : World) (N : Nat) (rs : List (Int × Int)) (k : Nat) (aR aL aH : Option Addr) (cR cL cH : Nat) : Prop where
  b : Bx w wr N (.slice aR k cR) (.slice aL k cL) (.slice aH k cH) k k k ((rs.take k).flatMap encP) (List.replicate k (.slice none 0 0)) (List.replicate k (.int .i64 0)) (List.replicate k [])

set_option maxRecDepth 100000 in
set_option maxHeartbeats 4000000 in
theorem new_all (ao : Option Addr) (c : Nat) (rs : List (Int × Int)) (w : World) (p : Nat) (hp : Upto rs p) (hc : CameL w 2 (encKK .i64 .i64) ao rs) (_ : rs.length ≤ 9223372036854775807) : Calls Try.prog 29 #[.slice ao rs.length c] w fun e w' =>
    (p < rs.length → e = .returned (.tuple #[.pointer none, .int .i64 133]) ∧ Kept (fun _ => False) w w') ∧
    (p = rs.length → ∃ d, e = .returned (.tuple #[.pointer (some ⟨w.heap.size, 0, none⟩), .int .i64 0]) ∧ IsD w' w.heap.size d (rs.map mkE) ∧ (∀ i, dfoot w.heap.size d i → w.heap.size ≤ i) ∧ Kept (fun _ => False) w w') := by
  obtain ⟨iR, hiR, hR0, hR1, hR2⟩ := info_parts infoR
  obtain ⟨iL, hiL, hL0, hL1, hL2⟩ := info_parts infoL
  obtain ⟨iI, hiI, hI0, hI1, hI2⟩ := info_parts RI.info
  have hle := hp.le
  obtain ⟨N, hN⟩ : ∃ N, w.heap.size = N := ⟨_, rfl⟩
  simp only [hN]
  go_enter Try.func29, Try.ntmps29
  go_wp2
  have nb := Blk.new w [.slice none 0 0, .slice none 0 0, .slice none 0 0] 77
  have k0 := (Kept.refl (fun _ => False) w).alloc (.cells #[.slice none 0 0, .slice none 0 0, .slice none 0 0] 77)
  obtain ⟨w1, hw1⟩ : ∃ w1, w.alloc (.cells #[.slice none 0 0, .slice none 0 0, .slice none 0 0] 77) = w1 := ⟨_, rfl⟩
  rw [hw1] at nb k0 ⊢
  rw [hN] at nb
  have B0 : Hid (Nb w w1 N rs 0 none none none 0 0 0) := ⟨⟨nb, World.ownsRow_nil _ _ _ _, World.ownsRow_nil _ _ _ _, World.ownsRow_nil _ _ _ _, by simp [Value.ownBlock], by omega, fun i l v h => by simp at h, fun v hv => by simp at hv, rfl, k0⟩⟩
  have HC := Lib.hid hc
  have HN := Lib.hid hN
  clear hw1 nb k0 hc hN
  go_loopw [5] (fun i wr => ∃ (k : Nat) (aR aL aH : Option Addr) (cR cL cH : Nat), k ≤ p ∧ i = .int .i64 k ∧ Hid (Nb w wr N rs k aR aL aH cR cL cH)) (fun i _ => rs.length - (intOf i).toNat)
  case atStart => exact ⟨0, none, none, none, 0, 0, 0, Nat.zero_le _, rfl, B0⟩
  case round =>
    clear B0
    obtain ⟨k, aR, aL, aH, cR, cL, cH, hk, rfl, hB⟩ := hrel
    by_cases hkl : k < rs.length
    · obtain ⟨⟨x1, x2⟩, hx⟩ : ∃ x, rs[k]? = some x := ⟨_, List.getElem?_eq_getElem hkl⟩
      obtain ⟨ab, off, rfl, hab, e1, e2⟩ := QD.elem_row HC.out (hB.out.b.kept.below (Nat.le_refl _) (fun _ h => h.elim)) hx
      have hpv : k = 0 ∨ ∃ (k' : Nat) (y1 y2 : Int), k = k' + 1 ∧ rs[k']? = some (y1, y2) ∧ 0 ≤ y1 ∧ y1 ≤ 63 := by
        rcases Nat.eq_zero_or_pos k with h | h
        · exact Or.inl h
        · refine Or.inr ⟨k - 1, ?_⟩
          obtain ⟨⟨y1, y2⟩, hy⟩ : ∃ y, rs[k - 1]? = some y := ⟨_, List.getElem?_eq_getElem (by omega)⟩
          have ho := hp.ok (k - 1) (by omega)
          rw [okAt_some hy, okRow_iff] at ho
          have hlo := hp.low (k - 1) (by omega)
          simp only at ho
          exact ⟨y1, y2, by omega, hy, ho.1, by omega⟩
      have hkm : k ≤ 64 := by have := hp.low k hk; omega
      have hk0 : (0 : Int) ≤ (k : Int) := by omega
      have hk1 : (k : Int) < (rs.length : Int) := by omega
      have kA := (Kept.refl (fun _ => False) wr).alloc (.cells #[.int .i64 x1, .int .i64 x2] 65)
      have nbx := Blk.new wr [.int .i64 x1, .int .i64 x2] 65
      have y0 := nbx.cell 0 rfl
      have y1' := nbx.cell 1 rfl
      have hBA := hB.out.b.same kA
      have HK := Lib.hid hBA.kept
      have HB := Lib.hid hBA
      clear hB hBA nbx
      rcases hpv with hk00 | ⟨k', yy1, yy2, hkk, hy, hy1, hy2⟩
      · have hokr := okAt_ref hx (Or.inl hk00)
        have g0 : decide ((0 : Int) < (k : Int)) = false := decide_eq_false (by omega)
        have g0n : decide (0 < k) = false := decide_eq_false (by omega)
        by_cases hkp : k < p
        · have ho := hp.ok _ hkp
          rw [hokr] at ho
          simp only [Bool.and_eq_true, Bool.not_eq_true'] at ho
          obtain ⟨⟨⟨⟨d1, d2⟩, d3⟩, d4⟩, d5⟩ := ho
          clear hokr d3 hk00
          go_wp2
          go_big_quiet (fail)
          go_wp2
          obtain ⟨w2, hw2⟩ : ∃ w2, (wr.alloc (.cells #[.int .i64 x1, .int .i64 x2] 65)).drewN nq = w2 := ⟨_, rfl⟩
          obtain ⟨M, hM⟩ : ∃ M, wr.heap.size = M := ⟨_, rfl⟩
          have hB2 := HB.out.same ((Kept.refl (fun _ => False) _).drewN nq)
          rw [hw2] at hB2 ⊢
          have z0 : w2.cell? ⟨M, 0, none⟩ = some (.int .i64 x1) := by rw [← hw2, ← hM]; exact y0
          have z1 : w2.cell? ⟨M, 1, none⟩ = some (.int .i64 x2) := by rw [← hw2, ← hM]; exact y1'
          rw [hM]
          have c0 := hB2.blk.cell 0 rfl
          have c0' := (hB2.blk.alloc (.cells #[.int .i64 x1, .int .i64 x2] 65)).cell 0 rfl
          have HB2 := Lib.hid hB2
          have HX := Lib.hid hx
          have hkr : k + 1 ≤ rs.length := by omega
          clear d1 d2  d4 d5 g0 g0n  e1 e2 y0 y1' hw2 hM hB2 hx
          refine wp_region_noPanic ?_
          go_region_law (refine step_append_any (by rfl) (.tmp 56) (.tmp 58) 22 (by rfl) 65 iR (.agg #[.int .i64 0, .int .i64 0]) 2 16 Try.underlying22 hiR hR0 hR1 hR2 (by rfl) (by decide) aR (k) cR ((rs.take (k)).flatMap encP) (by simp [Act.eval]) (row_alloc HB2.out.r1 _) (some ⟨w2.heap.size, 0, none⟩) 1 1 [.int .i64 x1, .int .i64 x2] (by simp [Act.eval]) (shows_new _ _ _ (by simp) (by rfl)) (by simp [Value.oneCell']) (by unfold maxLen; omega) (by omega) ?_; intro ao3 c3 w3 r1 r2 r3; have kc : Kept (fun g => (Value.slice aR (k) cR).ownBlock = some g) w2 w3 := (((Kept.refl _ w2).alloc (.cells #[.int .i64 x1, .int .i64 x2] 65)).drew).grown r2 (fun g e => Or.inl e); have hn1 := HB2.out.blk.kept kc HB2.out.neN.1; have k2 := hn1.frozen 0; have k3 := hn1.cell 0 rfl)
          all_goals
            refine NoPanic.normal ?_
            have hB3 := HB2.out.putR r1 kc (fun g hg => (r3 g hg).imp id (fun h => by have := HB2.out.kept.size; first | omega | (simp at h; omega)))
            have hfm : ((rs.take k).flatMap encP ++ [.int .i64 x1, .int .i64 x2]) = (rs.take (k + 1)).flatMap encP := by rw [List.take_add_one, HX.out, Option.toList_some, List.flatMap_append]; rfl
            rw [hfm] at hB3
            obtain ⟨w4, hw4⟩ : ∃ w4, w3.setCell ⟨N, 0, none⟩ (.slice ao3 (k + 1) c3) = w4 := ⟨_, rfl⟩
            rw [hw4] at hB3 ⊢
            have q1 := hB3.blk.cell 1 rfl
            have HB3 := Lib.hid hB3
            clear hw4 hB3 hfm r1 r2 r3 kc hn1 k2 k3
            go_upto_region 10 with (at_builtin; refine wpList_append_any rfl (.tmp 66) (.tmp 67) 74 rfl 75 iL (.slice none 0 0) 1 24 Try.underlying74 hiL hL0 hL1 hL2 rfl (by decide) _ _ _ (List.replicate k (.slice none 0 0)) rfl (row_alloc HB3.out.r2 _) _ 1 1 [.slice none 0 0] rfl (shows_new _ [_] _ (by simp) rfl) (by simp [Value.oneCell']) (by unfold maxLen; omega) (by omega) ?_; intro ao4 c4 w5 r1 r2 r3; have kc : Kept (fun g => (Value.slice aL k cL).ownBlock = some g) w4 w5 := ((Kept.refl _ w4).alloc (.cells #[.slice none 0 0] 75)).grown r2 (fun g e => Or.inl e); have hn1 := HB3.out.blk.kept kc HB3.out.neN.2.1; have k2 := hn1.frozen 1; have k3 := hn1.cell 1 rfl; have hB5 := Lib.hid (HB3.out.putL r1 (l := []) (Or.inl ⟨rfl, rfl⟩) (by simp [Value.ownBlock]) kc (fun g hg => (r3 g hg).imp id (fun h => by have := HB3.out.kept.size; first | omega | (simp at h; omega)))))
            obtain ⟨w6, hw6⟩ : ∃ w6, w5.setCell ⟨N, 1, none⟩ (.slice ao4 (k + 1) c4) = w6 := ⟨_, rfl⟩
            rw [hw6] at hB5 ⊢
            have q5 := hB5.out.blk.cell 2 rfl
            clear hw6 r1 r2 r3 kc hn1 k2 k3 HB3 q1
            go_wp2_with (at_builtin; refine wpList_append_any rfl (.tmp 75) (.tmp 76) 75 rfl 3 iI (.int .i64 0) 1 8 Try.underlying75 hiI hI0 hI1 hI2 rfl (by decide) _ _ _ (List.replicate k (.int .i64 0)) rfl (row_alloc hB5.out.r3 _) _ 1 1 [.int .i64 0] rfl (shows_new _ [_] _ (by simp) rfl) (by simp [Value.oneCell']) (by unfold maxLen; omega) (by omega) ?_; intro ao5 c5 w7 r1 r2 r3; have kc : Kept (fun g => (Value.slice aH k cH).ownBlock = some g) w6 w7 := ((Kept.refl _ w6).alloc (.cells #[.int .i64 0] 3)).grown r2 (fun g e => Or.inl e); have hn1 := hB5.out.blk.kept kc hB5.out.neN.2.2; have k2 := hn1.frozen 2; have k3 := hn1.cell 2 rfl; have hB7 := Lib.hid (hB5.out.putH r1 kc (fun g hg => (r3 g hg).imp id (fun h => by have := hB5.out.kept.size; first | omega | (simp at h; omega)))); clear r1 r2 r3 kc hn1)
            clear hB5 q5 k2 k3
            have hfin : Hid (Nb w (w7.setCell ⟨N, 2, none⟩ (.slice ao5 (k + 1) c5)) N rs (k + 1) ao3 ao4 ao5 c3 c4 c5) := by
              have hh := hB7.out
              rw [← List.replicate_succ', ← List.replicate_succ', ← List.replicate_succ'] at hh
              exact ⟨hh⟩
            clear hB7
            go_roundw
            case rel => exact ⟨k + 1, ao3, ao4, ao5, c3, c4, c5, by omega, by go_num, hfin⟩
            case measure => simp [intOf]; omega
        · have hbd := hp.bad (by omega)
          rw [show p = k by omega, hokr] at hbd
          cases d1 : decide (x1 < 0) with
          | true =>
            clear hbd hokr hx hk00
            go_wp2
            go_big_quiet (fail)
            go_wp2
            go_ret2
            exact ⟨fun _ => ⟨rfl, HK.out.drewN _⟩, fun h => absurd h (by omega)⟩
          | false =>
          skip
          cases d2 : decide (63 < x1) with
          | true =>
            clear hbd hokr hx hk00
            go_wp2
            go_big_quiet (fail)
            go_wp2
            go_ret2
            exact ⟨fun _ => ⟨rfl, HK.out.drewN _⟩, fun h => absurd h (by omega)⟩
          | false =>
          skip
          cases d4 : decide (x2 < 1) with
          | true =>
            clear hbd hokr hx hk00
            go_wp2
            go_big_quiet (fail)
            go_wp2
            go_ret2
            exact ⟨fun _ => ⟨rfl, HK.out.drewN _⟩, fun h => absurd h (by omega)⟩
          | false =>
          skip
          cases d5 : decide (65536 < x2) with
          | true =>
            clear hbd hokr hx hk00
            go_wp2
            go_big_quiet (fail)
            go_wp2
            go_ret2
            exact ⟨fun _ => ⟨rfl, HK.out.drewN _⟩, fun h => absurd h (by omega)⟩
          | false =>
          skip
          exfalso
          rw [d1, d2, d4, d5] at hbd
          simp [show decide (0 < k) = false from g0n] at hbd
      · have hk11 : k - 1 = k' := by omega
        have hokr := okAt_ref hx (Or.inr ⟨_, by rw [hk11]; exact hy, hy1, hy2⟩)
        obtain ⟨_, _, ha2, _, q1, _⟩ := QD.elem_row HC.out (HK.out.below (Nat.le_refl _) (fun _ h => h.elim)) hy
        cases ha2
        have g0 : decide ((0 : Int) < (k : Int)) = true := decide_eq_true (by omega)
        have g0n : decide (0 < k) = true := decide_eq_true (by omega)
        have g1 : ((k : Int) - 1).toNat = k' := by omega
        have g2 : (k : Int) - 1 < (rs.length : Int) := by omega
        have g3 : (0 : Int) ≤ (k : Int) - 1 := by omega
        rw [hk11, hy] at hokr
        simp only [Option.map_some, Option.getD_some, show 0 < k by omega, decide_true, Bool.true_and] at hokr
        by_cases hkp : k < p
        · have ho := hp.ok _ hkp
          rw [hokr] at ho
          simp only [Bool.and_eq_true, Bool.not_eq_true'] at ho
          obtain ⟨⟨⟨⟨d1, d2⟩, d3⟩, d4⟩, d5⟩ := ho
          clear hokr hkk hk11
          go_wp2
          go_big_quiet (fail)
          go_wp2
          obtain ⟨w2, hw2⟩ : ∃ w2, (wr.alloc (.cells #[.int .i64 x1, .int .i64 x2] 65)).drewN nq = w2 := ⟨_, rfl⟩
          obtain ⟨M, hM⟩ : ∃ M, wr.heap.size = M := ⟨_, rfl⟩
          have hB2 := HB.out.same ((Kept.refl (fun _ => False) _).drewN nq)
          rw [hw2] at hB2 ⊢
          have z0 : w2.cell? ⟨M, 0, none⟩ = some (.int .i64 x1) := by rw [← hw2, ← hM]; exact y0
          have z1 : w2.cell? ⟨M, 1, none⟩ = some (.int .i64 x2) := by rw [← hw2, ← hM]; exact y1'
          rw [hM]
          have c0 := hB2.blk.cell 0 rfl
          have c0' := (hB2.blk.alloc (.cells #[.int .i64 x1, .int .i64 x2] 65)).cell 0 rfl
          have HB2 := Lib.hid hB2
          have HX := Lib.hid hx
          have hkr : k + 1 ≤ rs.length := by omega
          clear d1 d2 d3 d4 d5 g0 g0n g1 g2 g3 q1 hy e1 e2 y0 y1' hw2 hM hB2 hx
          refine wp_region_noPanic ?_
          go_region_law (refine step_append_any (by rfl) (.tmp 56) (.tmp 58) 22 (by rfl) 65 iR (.agg #[.int .i64 0, .int .i64 0]) 2 16 Try.underlying22 hiR hR0 hR1 hR2 (by rfl) (by decide) aR (k) cR ((rs.take (k)).flatMap encP) (by simp [Act.eval]) (row_alloc HB2.out.r1 _) (some ⟨w2.heap.size, 0, none⟩) 1 1 [.int .i64 x1, .int .i64 x2] (by simp [Act.eval]) (shows_new _ _ _ (by simp) (by rfl)) (by simp [Value.oneCell']) (by unfold maxLen; omega) (by omega) ?_; intro ao3 c3 w3 r1 r2 r3; have kc : Kept (fun g => (Value.slice aR (k) cR).ownBlock = some g) w2 w3 := (((Kept.refl _ w2).alloc (.cells #[.int .i64 x1, .int .i64 x2] 65)).drew).grown r2 (fun g e => Or.inl e); have hn1 := HB2.out.blk.kept kc HB2.out.neN.1; have k2 := hn1.frozen 0; have k3 := hn1.cell 0 rfl)
          all_goals
            refine NoPanic.normal ?_
            have hB3 := HB2.out.putR r1 kc (fun g hg => (r3 g hg).imp id (fun h => by have := HB2.out.kept.size; first | omega | (simp at h; omega)))
            have hfm : ((rs.take k).flatMap encP ++ [.int .i64 x1, .int .i64 x2]) = (rs.take (k + 1)).flatMap encP := by rw [List.take_add_one, HX.out, Option.toList_some, List.flatMap_append]; rfl
            rw [hfm] at hB3
            obtain ⟨w4, hw4⟩ : ∃ w4, w3.setCell ⟨N, 0, none⟩ (.slice ao3 (k + 1) c3) = w4 := ⟨_, rfl⟩
            rw [hw4] at hB3 ⊢
            have q1 := hB3.blk.cell 1 rfl
            have HB3 := Lib.hid hB3
            clear hw4 hB3 hfm r1 r2 r3 kc hn1 k2 k3
            go_upto_region 10 with (at_builtin; refine wpList_append_any rfl (.tmp 66) (.tmp 67) 74 rfl 75 iL (.slice none 0 0) 1 24 Try.underlying74 hiL hL0 hL1 hL2 rfl (by decide) _ _ _ (List.replicate k (.slice none 0 0)) rfl (row_alloc HB3.out.r2 _) _ 1 1 [.slice none 0 0] rfl (shows_new _ [_] _ (by simp) rfl) (by simp [Value.oneCell']) (by unfold maxLen; omega) (by omega) ?_; intro ao4 c4 w5 r1 r2 r3; have kc : Kept (fun g => (Value.slice aL k cL).ownBlock = some g) w4 w5 := ((Kept.refl _ w4).alloc (.cells #[.slice none 0 0] 75)).grown r2 (fun g e => Or.inl e); have hn1 := HB3.out.blk.kept kc HB3.out.neN.2.1; have k2 := hn1.frozen 1; have k3 := hn1.cell 1 rfl; have hB5 := Lib.hid (HB3.out.putL r1 (l := []) (Or.inl ⟨rfl, rfl⟩) (by simp [Value.ownBlock]) kc (fun g hg => (r3 g hg).imp id (fun h => by have := HB3.out.kept.size; first | omega | (simp at h; omega)))))
            obtain ⟨w6, hw6⟩ : ∃ w6, w5.setCell ⟨N, 1, none⟩ (.slice ao4 (k + 1) c4) = w6 := ⟨_, rfl⟩
            rw [hw6] at hB5 ⊢
            have q5 := hB5.out.blk.cell 2 rfl
            clear hw6 r1 r2 r3 kc hn1 k2 k3 HB3 q1
            go_wp2_with (at_builtin; refine wpList_append_any rfl (.tmp 75) (.tmp 76) 75 rfl 3 iI (.int .i64 0) 1 8 Try.underlying75 hiI hI0 hI1 hI2 rfl (by decide) _ _ _ (List.replicate k (.int .i64 0)) rfl (row_alloc hB5.out.r3 _) _ 1 1 [.int .i64 0] rfl (shows_new _ [_] _ (by simp) rfl) (by simp [Value.oneCell']) (by unfold maxLen; omega) (by omega) ?_; intro ao5 c5 w7 r1 r2 r3; have kc : Kept (fun g => (Value.slice aH k cH).ownBlock = some g) w6 w7 := ((Kept.refl _ w6).alloc (.cells #[.int .i64 0] 3)).grown r2 (fun g e => Or.inl e); have hn1 := hB5.out.blk.kept kc hB5.out.neN.2.2; have k2 := hn1.frozen 2; have k3 := hn1.cell 2 rfl; have hB7 := Lib.hid (hB5.out.putH r1 kc (fun g hg => (r3 g hg).imp id (fun h => by have := hB5.out.kept.size; first | omega | (simp at h; omega)))); clear r1 r2 r3 kc hn1)
            clear hB5 q5 k2 k3
            have hfin : Hid (Nb w (w7.setCell ⟨N, 2, none⟩ (.slice ao5 (k + 1) c5)) N rs (k + 1) ao3 ao4 ao5 c3 c4 c5) := by
              have hh := hB7.out
              rw [← List.replicate_succ', ← List.replicate_succ', ← List.replicate_succ'] at hh
              exact ⟨hh⟩
            clear hB7
            go_roundw
            case rel => exact ⟨k + 1, ao3, ao4, ao5, c3, c4, c5, by omega, by go_num, hfin⟩
            case measure => simp [intOf]; omega
        · have hbd := hp.bad (by omega)
          rw [show p = k by omega, hokr] at hbd
          cases d1 : decide (x1 < 0) with
          | true =>
            clear hbd hokr hx hkk hk11 hy
            go_wp2
            go_big_quiet (fail)
            go_wp2
            go_ret2
            exact ⟨fun _ => ⟨rfl, HK.out.drewN _⟩, fun h => absurd h (by omega)⟩
          | false =>
          skip
          cases d2 : decide (63 < x1) with
          | true =>
            clear hbd hokr hx hkk hk11 hy
            go_wp2
            go_big_quiet (fail)
            go_wp2
            go_ret2
            exact ⟨fun _ => ⟨rfl, HK.out.drewN _⟩, fun h => absurd h (by omega)⟩
          | false =>
          skip
          cases d3 : decide (yy1 ≤ x1) with
          | true =>
            clear hbd hokr hx hkk hk11 hy
            go_wp2
            go_big_quiet (fail)
            go_wp2
            go_ret2
            exact ⟨fun _ => ⟨rfl, HK.out.drewN _⟩, fun h => absurd h (by omega)⟩
          | false =>
          skip
          cases d4 : decide (x2 < 1) with
          | true =>
            clear hbd hokr hx hkk hk11 hy
            go_wp2
            go_big_quiet (fail)
            go_wp2
            go_ret2
            exact ⟨fun _ => ⟨rfl, HK.out.drewN _⟩, fun h => absurd h (by omega)⟩
          | false =>
          skip
          cases d5 : decide (65536 < x2) with
          | true =>
            clear hbd hokr hx hkk hk11 hy
            go_wp2
            go_big_quiet (fail)
            go_wp2
            go_ret2
            exact ⟨fun _ => ⟨rfl, HK.out.drewN _⟩, fun h => absurd h (by omega)⟩
          | false =>
          skip
          exfalso
          rw [d1, d2, d3, d4, d5] at hbd
          simp at hbd
    · obtain rfl : k = p := by omega
      have hkr : k = rs.length := by omega
      have hfl := upto_falls hp k (Nat.le_refl _)
      have hen := upto_encs hp k (Nat.le_refl _)
      rw [hkr, List.take_length] at hfl hen
      have hB2 := hB.out.b
      rw [hkr, List.take_length] at hB2
      have hml : (rs.map mkE).length = rs.length := List.length_map _
      rw [← hml] at hB2
      have hdn := hB2.done hen (by rw [hml]; exact mkE_high rs) (by rw [hml]; exact mkE_ids rs) hfl
      rw [hml] at hB2
      have HD := Lib.hid hdn
      have HKR := Lib.hid hkr
      clear hB2 hdn hB hfl hen hml hkr
      go_wp2
      go_ret2
      exact ⟨fun h => absurd h (by have := HKR.out; omega), fun _ => ⟨⟨aR, cR, aL, cL, aH, cH, List.replicate (rs.map mkE).length (.slice none 0 0)⟩, rfl, HD.out.1, fun i hi => by rw [← HN.out]; exact HD.out.2.1 i hi, HD.out.2.2⟩⟩
end Go.Proofs.Ytdjdnfjfomeldaa.DQ
