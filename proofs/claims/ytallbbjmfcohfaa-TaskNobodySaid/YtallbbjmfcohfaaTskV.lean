/- The document's table of tasks: New given a bad row. -/
import Derived.Test.YtallbbjmfcohfaaTskU
namespace Go.Proofs.Ytallbbjmfcohfaa.TR
open Go.RowKit Go.Fr Go.Proofs.Ytallbbjmfcohfaa.TK

set_option maxRecDepth 100000 in
set_option maxHeartbeats 8000000 in
theorem new_bad (ao : Option Addr) (c : Nat) (rs : List (Int × Bool)) (w : World) (h : rs.length ≤ 256) (hc : CameL w 2 (encKB .i64) ao rs) {p : Nat} {rb : Int × Bool} (hp : rs[p]? = some rb) (hb : goodR rb = false) (hgd : ∀ (j : Nat) (r : Int × Bool), j < p → rs[j]? = some r → goodR r = true) : Calls Try.prog 23 #[.slice ao rs.length c] w fun e w' =>
    ∃ b, e = .returned (.tuple #[.pointer (some ⟨b, 0, none⟩), .int .i64 182]) ∧ IsRef w' b (.slice none 0 0) (.slice none 0 0) (.slice none 0 0) false [] ∧ w.heap.size ≤ b ∧ Kept (fun _ => False) w w' := by
  obtain ⟨i0, hi, hz0, hz1, hz2⟩ := info_parts info_r
  obtain ⟨i1, hi1, hy0, hy1, hy2⟩ := info_parts info_s
  obtain ⟨i2, hi2, hx0, hx1, hx2⟩ := info_parts info_i
  have hpl := (List.getElem?_eq_some_iff.1 hp).1
  have HP := Lib.hid hp
  clear hp
  have M0 := Lib.hid (new0 w)
  have HC := Lib.hid hc
  have HG := Lib.hid hgd
  obtain ⟨b, hb0⟩ : ∃ b, w.heap.size = b := ⟨_, rfl⟩
  rw [hb0] at M0
  clear hc hgd
  go_enter Try.func23, Try.ntmps23
  go_wp2
  have HB0 := Lib.hid hb0
  clear hb0
  go_loopg [5] p (fun g i wx => ∃ (k : Nat) (vr vs vn : Value), g = p - k ∧ k ≤ p ∧ i = .int .i64 k ∧ Hid (St w wx b true vr vs vn k k k (((rs.take k).map mkT).flatMap encR) (((rs.take k).map mkT).map fS) (((rs.take k).map mkT).map fN)))
  case atStart => exact ⟨0, _, _, _, rfl, Nat.zero_le _, rfl, M0⟩
  case round =>
    clear M0
    obtain ⟨k, vr, vs, vn, hm, hk, rfl, hS⟩ := hrel
    have HM := Lib.hid hm
    clear hm
    by_cases hlt : k < p
    · obtain ⟨⟨lm, ex⟩, hx⟩ : ∃ r, rs[k]? = some r := ⟨_, List.getElem?_eq_getElem (by omega)⟩
      have hgk := HG.out k _ hlt hx
      obtain ⟨sb, so, rfl, hsb, hcc⟩ := HC.out (by rintro rfl; simp at hx)
      have hc0 : ∀ (j : Nat) (u : Value), (encKB .i64 (lm, ex))[j]? = some u → wr.cell? ⟨sb, so + k * 2 + j, none⟩ = some u := fun j u hu => by
        rw [hS.out.kept.cell (p := ⟨sb, so + k * 2 + j, none⟩) hsb (fun h => h)]
        exact hcc k _ hx j u hu
      have q0 : wr.cell? ⟨sb, so + k * 2, none⟩ = some (.int .i64 lm) := hc0 0 _ rfl
      have q1 : wr.cell? ⟨sb, so + k * 2 + 1, none⟩ = some (.bool ex) := hc0 1 _ rfl
      have hk0 : (0 : Int) ≤ (k : Int) := by omega
      have hk1 : (k : Int) < (rs.length : Int) := by omega
      have HX := Lib.hid hx
      have eR : (((rs.take (k + 1)).map mkT).flatMap encR) = ((rs.take k).map mkT).flatMap encR ++ encR (mkT (lm, ex)) := by rw [List.take_add_one, hx]; simp
      have eS : (((rs.take (k + 1)).map mkT).map fS) = ((rs.take k).map mkT).map fS ++ [.int .i64 3] := by rw [List.take_add_one, hx]; simp [mkT, fS]
      have eN : (((rs.take (k + 1)).map mkT).map fN) = ((rs.take k).map mkT).map fN ++ [.int .i64 0] := by rw [List.take_add_one, hx]; simp [mkT, fN]
      simp only [goodR, Bool.and_eq_true, decide_eq_true_eq, Bool.not_eq_true', Bool.and_eq_false_iff, decide_eq_false_iff_not] at hgk
      have d1 : decide (lm < 1) = false := by rw [decide_eq_false_iff_not]; omega
      have d2 : decide (255 < lm) = false := by rw [decide_eq_false_iff_not]; omega
      have d3 : ex = true → decide (1 < lm) = false := fun e => by rw [decide_eq_false_iff_not]; subst e; rcases hgk.2 with h | h; cases h; omega
      clear hcc hc0 hx hgk
      have n1 := hS.out.blk.cell 1 rfl
      have hbl := hS.out.blk.lt
      have ER := Lib.hid eR
      have ES := Lib.hid eS
      have EN := Lib.hid eN
      clear eR eS eN
      cases ex
      case false =>
        clear d3
        go_upto_region 9 with fail
        clear d1 d2
        obtain ⟨ar, dr, rfl, _⟩ := row_any hS.out.rr
        go_cut [] from 50 to 62 (fun wx => ∃ (ar : Option Addr) (dr : Nat), Hid (St w wx b true (.slice ar (k + 1) dr) vs vn (k + 1) k k (((rs.take (k + 1)).map mkT).flatMap encR) (((rs.take k).map mkT).map fS) (((rs.take k).map mkT).map fN)))
        case first =>
          refine wp_region_noPanic ?_
          go_region_law (refine step_append_any (by rfl) (.tmp 54) (.tmp 59) 30 (by rfl) 29 i0 (.agg #[.int .i64 0, .bool false]) 2 16 Try.underlying30 hi hz0 hz1 hz2 (by rfl) (by decide) ar k dr (((rs.take k).map mkT).flatMap encR) (by simp [Act.eval]) (row_heap (row_alloc hS.out.rr (.cells #[.int .i64 lm, .bool false] 29)) (fun _ _ => rfl)) (some ⟨wr.heap.size, 0, none⟩) 1 1 (encR (mkT (lm, false))) (by simp [Act.eval]) (shows_new _ _ _ (by simp) (by rfl)) (by intro u hu; simp only [encR, mkT, List.mem_cons, List.not_mem_nil, or_false] at hu; rcases hu with rfl | rfl <;> rfl) (by unfold maxLen; omega) (by omega) ?_; intro xa xc xw r1 r2 r3; have hn1 := blk_after r2 (hS.out.blk.alloc (.cells #[.int .i64 lm, .bool false] 29)) rfl (fun e => by have := hS.out.fr _ e; omega); have k2 := hn1.frozen 1; have k3 := hn1.cell 1 rfl)
          all_goals
            refine NoPanic.normal ?_
            go_wp2_with fail
            go_meet
            refine ⟨xa, xc, hS.out.stepR (by exact ((Kept.refl (fun _ => False) wr).alloc (.cells #[.int .i64 lm, .bool false] 29)).same rfl rfl rfl rfl) (by rw [ER.out]; exact r1) r2 r3 (by exact (Kept.refl (fun _ => False) _).same rfl rfl rfl rfl)⟩
        case rest =>
        clear hS n1 q0 q1
        obtain ⟨ar, dr, hS⟩ := hcut
        have n2 := hS.out.blk.cell 2 rfl
        obtain ⟨as', ds, rfl, _⟩ := row_any hS.out.rs
        go_upto_region 10 with fail
        obtain ⟨LS, hLS⟩ : ∃ L, ((rs.take k).map mkT).map fS = L := ⟨_, rfl⟩
        have hRS := hS.out.rs
        rw [hLS] at hRS
        have HLS := Lib.hid hLS
        have HRS := Lib.hid hRS
        clear hLS hRS
        go_cut [] from 63 to 71 (fun wx => ∃ (as' : Option Addr) (ds : Nat), Hid (St w wx b true (.slice ar (k + 1) dr) (.slice as' (k + 1) ds) vn (k + 1) (k + 1) k (((rs.take (k + 1)).map mkT).flatMap encR) (((rs.take (k + 1)).map mkT).map fS) (((rs.take k).map mkT).map fN)))
        case first =>
          go_wp2_with ((at_builtin; refine wpList_append_any rfl (.tmp 67) (.tmp 68) 54 rfl 38 i1 (.int .i64 0) 1 8 Try.underlying54 hi1 hy0 hy1 hy2 rfl (by decide) _ _ _ LS rfl ?hrow _ 1 1 [.int .i64 3] rfl ?hnew (by simp [Value.oneCell']) ?b1 ?b2 ?_))
          case hrow => exact row_alloc HRS.out _
          case hnew => exact shows_new _ [_] _ (by simp) rfl
          case b1 => unfold maxLen; omega
          case b2 => omega
          intro xa xc xw r1 r2 r3
          have hn1 := blk_after r2 (hS.out.blk.alloc _) rfl (fun e => by have := hS.out.fs _ e; omega)
          have k2 := hn1.frozen 2
          have k3 := hn1.cell 2 rfl
          have e1 : Row xw 38 1 (.slice xa (k + 1) xc) (k + 1) (((rs.take (k + 1)).map mkT).map fS) := by rw [ES.out, HLS.out]; exact r1
          have Q1 := Lib.hid (hS.out.stepS ((Kept.refl (fun _ => False) _).alloc _) e1 r2 (fun g hg => (r3 g hg).imp id (fun h => by rw [World.size_alloc]; exact h)) (Kept.refl (fun _ => False) _))
          clear e1
          clear r1 r2 r3 hn1
          go_wp2_with fail
          go_meet
          exact ⟨xa, xc, Q1⟩
        case rest =>
        clear hS n2 HLS HRS
        obtain ⟨as', ds, hS⟩ := hcut
        have n3 := hS.out.blk.cell 3 rfl
        obtain ⟨an, dn, rfl, _⟩ := row_any hS.out.rn
        go_upto_region 11 with fail
        obtain ⟨LN, hLN⟩ : ∃ L, ((rs.take k).map mkT).map fN = L := ⟨_, rfl⟩
        have hRN := hS.out.rn
        rw [hLN] at hRN
        have HLN := Lib.hid hLN
        have HRN := Lib.hid hRN
        clear hLN hRN
        go_wp2_with ((at_builtin; refine wpList_append_any rfl (.tmp 76) (.tmp 77) 46 rfl 3 i2 (.int .i64 0) 1 8 Try.underlying46 hi2 hx0 hx1 hx2 rfl (by decide) _ _ _ LN rfl ?hrow _ 1 1 [.int .i64 0] rfl ?hnew (by simp [Value.oneCell']) ?b1 ?b2 ?_))
        case hrow => exact row_alloc HRN.out _
        case hnew => exact shows_new _ [_] _ (by simp) rfl
        case b1 => unfold maxLen; omega
        case b2 => omega
        intro xa xc xw r1 r2 r3
        have hn1 := blk_after r2 (hS.out.blk.alloc _) rfl (fun e => by have := hS.out.fn _ e; omega)
        have k2 := hn1.frozen 3
        have k3 := hn1.cell 3 rfl
        have e1 : Row xw 3 1 (.slice xa (k + 1) xc) (k + 1) (((rs.take (k + 1)).map mkT).map fN) := by rw [EN.out, HLN.out]; exact r1
        have Q1 := Lib.hid (hS.out.stepN ((Kept.refl (fun _ => False) _).alloc _) e1 r2 (fun g hg => (r3 g hg).imp id (fun h => by rw [World.size_alloc]; exact h)) (Kept.refl (fun _ => False) _))
        clear e1
        clear r1 r2 r3 hn1 hS
        go_wp2
        go_roundg (p - (k + 1))
        case measure => have := HM.out; omega
        case rel => exact ⟨k + 1, _, _, _, rfl, by omega, by go_num, Q1⟩
      case true =>
        have d3 := d3 rfl
        go_upto_region 9 with fail
        clear d1 d2 d3
        obtain ⟨ar, dr, rfl, _⟩ := row_any hS.out.rr
        go_cut [] from 50 to 62 (fun wx => ∃ (ar : Option Addr) (dr : Nat), Hid (St w wx b true (.slice ar (k + 1) dr) vs vn (k + 1) k k (((rs.take (k + 1)).map mkT).flatMap encR) (((rs.take k).map mkT).map fS) (((rs.take k).map mkT).map fN)))
        case first =>
          refine wp_region_noPanic ?_
          go_region_law (refine step_append_any (by rfl) (.tmp 54) (.tmp 59) 30 (by rfl) 29 i0 (.agg #[.int .i64 0, .bool false]) 2 16 Try.underlying30 hi hz0 hz1 hz2 (by rfl) (by decide) ar k dr (((rs.take k).map mkT).flatMap encR) (by simp [Act.eval]) (row_heap (row_alloc hS.out.rr (.cells #[.int .i64 lm, .bool true] 29)) (fun _ _ => rfl)) (some ⟨wr.heap.size, 0, none⟩) 1 1 (encR (mkT (lm, true))) (by simp [Act.eval]) (shows_new _ _ _ (by simp) (by rfl)) (by intro u hu; simp only [encR, mkT, List.mem_cons, List.not_mem_nil, or_false] at hu; rcases hu with rfl | rfl <;> rfl) (by unfold maxLen; omega) (by omega) ?_; intro xa xc xw r1 r2 r3; have hn1 := blk_after r2 (hS.out.blk.alloc (.cells #[.int .i64 lm, .bool true] 29)) rfl (fun e => by have := hS.out.fr _ e; omega); have k2 := hn1.frozen 1; have k3 := hn1.cell 1 rfl)
          all_goals
            refine NoPanic.normal ?_
            go_wp2_with fail
            go_meet
            refine ⟨xa, xc, hS.out.stepR (by exact ((Kept.refl (fun _ => False) wr).alloc (.cells #[.int .i64 lm, .bool true] 29)).same rfl rfl rfl rfl) (by rw [ER.out]; exact r1) r2 r3 (by exact (Kept.refl (fun _ => False) _).same rfl rfl rfl rfl)⟩
        case rest =>
        clear hS n1 q0 q1
        obtain ⟨ar, dr, hS⟩ := hcut
        have n2 := hS.out.blk.cell 2 rfl
        obtain ⟨as', ds, rfl, _⟩ := row_any hS.out.rs
        go_upto_region 10 with fail
        obtain ⟨LS, hLS⟩ : ∃ L, ((rs.take k).map mkT).map fS = L := ⟨_, rfl⟩
        have hRS := hS.out.rs
        rw [hLS] at hRS
        have HLS := Lib.hid hLS
        have HRS := Lib.hid hRS
        clear hLS hRS
        go_cut [] from 63 to 71 (fun wx => ∃ (as' : Option Addr) (ds : Nat), Hid (St w wx b true (.slice ar (k + 1) dr) (.slice as' (k + 1) ds) vn (k + 1) (k + 1) k (((rs.take (k + 1)).map mkT).flatMap encR) (((rs.take (k + 1)).map mkT).map fS) (((rs.take k).map mkT).map fN)))
        case first =>
          go_wp2_with ((at_builtin; refine wpList_append_any rfl (.tmp 67) (.tmp 68) 54 rfl 38 i1 (.int .i64 0) 1 8 Try.underlying54 hi1 hy0 hy1 hy2 rfl (by decide) _ _ _ LS rfl ?hrow _ 1 1 [.int .i64 3] rfl ?hnew (by simp [Value.oneCell']) ?b1 ?b2 ?_))
          case hrow => exact row_alloc HRS.out _
          case hnew => exact shows_new _ [_] _ (by simp) rfl
          case b1 => unfold maxLen; omega
          case b2 => omega
          intro xa xc xw r1 r2 r3
          have hn1 := blk_after r2 (hS.out.blk.alloc _) rfl (fun e => by have := hS.out.fs _ e; omega)
          have k2 := hn1.frozen 2
          have k3 := hn1.cell 2 rfl
          have e1 : Row xw 38 1 (.slice xa (k + 1) xc) (k + 1) (((rs.take (k + 1)).map mkT).map fS) := by rw [ES.out, HLS.out]; exact r1
          have Q1 := Lib.hid (hS.out.stepS ((Kept.refl (fun _ => False) _).alloc _) e1 r2 (fun g hg => (r3 g hg).imp id (fun h => by rw [World.size_alloc]; exact h)) (Kept.refl (fun _ => False) _))
          clear e1
          clear r1 r2 r3 hn1
          go_wp2_with fail
          go_meet
          exact ⟨xa, xc, Q1⟩
        case rest =>
        clear hS n2 HLS HRS
        obtain ⟨as', ds, hS⟩ := hcut
        have n3 := hS.out.blk.cell 3 rfl
        obtain ⟨an, dn, rfl, _⟩ := row_any hS.out.rn
        go_upto_region 11 with fail
        obtain ⟨LN, hLN⟩ : ∃ L, ((rs.take k).map mkT).map fN = L := ⟨_, rfl⟩
        have hRN := hS.out.rn
        rw [hLN] at hRN
        have HLN := Lib.hid hLN
        have HRN := Lib.hid hRN
        clear hLN hRN
        go_wp2_with ((at_builtin; refine wpList_append_any rfl (.tmp 76) (.tmp 77) 46 rfl 3 i2 (.int .i64 0) 1 8 Try.underlying46 hi2 hx0 hx1 hx2 rfl (by decide) _ _ _ LN rfl ?hrow _ 1 1 [.int .i64 0] rfl ?hnew (by simp [Value.oneCell']) ?b1 ?b2 ?_))
        case hrow => exact row_alloc HRN.out _
        case hnew => exact shows_new _ [_] _ (by simp) rfl
        case b1 => unfold maxLen; omega
        case b2 => omega
        intro xa xc xw r1 r2 r3
        have hn1 := blk_after r2 (hS.out.blk.alloc _) rfl (fun e => by have := hS.out.fn _ e; omega)
        have k2 := hn1.frozen 3
        have k3 := hn1.cell 3 rfl
        have e1 : Row xw 3 1 (.slice xa (k + 1) xc) (k + 1) (((rs.take (k + 1)).map mkT).map fN) := by rw [EN.out, HLN.out]; exact r1
        have Q1 := Lib.hid (hS.out.stepN ((Kept.refl (fun _ => False) _).alloc _) e1 r2 (fun g hg => (r3 g hg).imp id (fun h => by rw [World.size_alloc]; exact h)) (Kept.refl (fun _ => False) _))
        clear e1
        clear r1 r2 r3 hn1 hS
        go_wp2
        go_roundg (p - (k + 1))
        case measure => have := HM.out; omega
        case rel => exact ⟨k + 1, _, _, _, rfl, by omega, by go_num, Q1⟩
    · have hkk : k = p := by omega
      subst hkk
      obtain ⟨lm, ex⟩ := rb
      have hgk := hb
      obtain ⟨sb, so, rfl, hsb, hcc⟩ := HC.out (by rintro rfl; have := HP.out; simp at this)
      have hc0 : ∀ (j : Nat) (u : Value), (encKB .i64 (lm, ex))[j]? = some u → wr.cell? ⟨sb, so + k * 2 + j, none⟩ = some u := fun j u hu => by
        rw [hS.out.kept.cell (p := ⟨sb, so + k * 2 + j, none⟩) hsb (fun h => h)]
        exact hcc k _ HP.out j u hu
      have q0 : wr.cell? ⟨sb, so + k * 2, none⟩ = some (.int .i64 lm) := hc0 0 _ rfl
      have q1 : wr.cell? ⟨sb, so + k * 2 + 1, none⟩ = some (.bool ex) := hc0 1 _ rfl
      have hk0 : (0 : Int) ≤ (k : Int) := by omega
      have hk1 : (k : Int) < (rs.length : Int) := by omega
      have KZ := Lib.hid (dead_ref hS.out.kept)
      have KS := Lib.hid hS.out.kept.size
      clear hcc hc0 hS
      by_cases t1 : lm < 1
      · have d1 : decide (lm < 1) = true := by simpa using t1
        clear hgk hb
        go_wp2
        go_ret2
        exact ⟨_, rfl, KZ.out.1, KS.out, KZ.out.2⟩
      · have d1 : decide (lm < 1) = false := by simpa using t1
        by_cases t2 : 255 < lm
        · have d2 : decide (255 < lm) = true := by simpa using t2
          clear hgk hb
          go_wp2
          go_ret2
          exact ⟨_, rfl, KZ.out.1, KS.out, KZ.out.2⟩
        · have d2 : decide (255 < lm) = false := by simpa using t2
          have hex : ex = true ∧ 1 < lm := by
            unfold goodR at hgk
            rw [decide_eq_true (show 1 ≤ lm by omega), decide_eq_true (show lm ≤ 255 by omega)] at hgk
            cases ex <;> simp at hgk ⊢
            exact hgk
          obtain ⟨rfl, h1⟩ := hex
          have d3 : decide (1 < lm) = true := by simpa using h1
          clear hgk hb
          go_wp2
          go_ret2
          exact ⟨_, rfl, KZ.out.1, KS.out, KZ.out.2⟩

theorem new_fails {ao : Option Addr} {c : Nat} {rs : List (Int × Bool)} (h : BadRows rs) (w : World) (hc : CameL w 2 (encKB .i64) ao rs) : Calls Try.prog 23 #[.slice ao rs.length c] w fun e w' =>
    ∃ b, e = .returned (.tuple #[.pointer (some ⟨b, 0, none⟩), .int .i64 182]) ∧ IsRef w' b (.slice none 0 0) (.slice none 0 0) (.slice none 0 0) false [] ∧ w.heap.size ≤ b ∧ Kept (fun _ => False) w w' := by
  rcases h with h | ⟨h, p, rb, h1, h2, h3⟩
  · refine (new_big ao rs.length c w h).mono ?_
    rintro e w' ⟨rfl, q, k⟩
    exact ⟨_, rfl, q, Nat.le_refl _, k⟩
  · exact new_bad ao c rs w h hc h1 h2 h3
end Go.Proofs.Ytallbbjmfcohfaa.TR
