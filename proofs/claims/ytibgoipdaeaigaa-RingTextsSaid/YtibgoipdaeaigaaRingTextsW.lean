/- P12.1 to P12.6 with texts, the walk. -/
import Derived.Test.YtibgoipdaeaigaaRtxB
import Derived.Deep.CutBlock
namespace Go.Proofs.Ytibgoipdaeaigaa.ringTextsW
open Go.RowKit Go.Fr Go.Proofs.Ytibgoipdaeaigaa.RX

set_option maxRecDepth 100000 in
set_option maxHeartbeats 8000000 in
theorem walk (w : World) (a0 : Int) (w0 : (Lit.int .i64 a0).wf = true) (a1 : Option Addr) (cap1 : Nat) (l1 : List (ByteArray × Int)) (hl1 : l1.length ≤ cap1) (hm1 : cap1 ≤ maxLen) (hc1 : CameL w 2 (encSK .i64) a1 l1)
    (hw1 : ∀ x ∈ l1, x.1.size ≤ maxLen ∧ (Lit.int .i64 x.2).wf = true)
    (a2 : Option Addr) (cap2 : Nat) (l2 : List (Int × Int)) (hl2 : l2.length ≤ cap2) (hm2 : cap2 ≤ maxLen) (hc2 : CameL w 2 (encKK .i64 .i64) a2 l2)
    (hw2 : ∀ x ∈ l2, (Lit.int .i64 x.1).wf = true ∧ (Lit.int .i64 x.2).wf = true) :
    Calls Try.prog 4 #[.int .i64 a0, .slice a1 l1.length cap1, .slice a2 l2.length cap2] w fun e w' => e = .returned (.bool true) ∧ Below w.heap.size w w' := by
  unfold maxLen at hm1 hm2
  clear hw1 hw2 w0
  have hal : ∀ w : World, Calls Try.prog 14 #[] w fun e w' => e = .returned (.bool true) ∧ Kept (fun _ => False) w w' := fun w => RS.alive_law w
  have hnum : ∀ (n : Int) (w : World), Calls Try.prog 11 #[.int .i64 n] w fun e w' => e = .returned (.int .i64 n) ∧ w = w' := fun n w => RS.num_ok n w
  have hnq : ∀ (n : Int) (w : World), Calls Try.prog 11 #[.int .i64 n] w fun e w' => e = .returned (.int .i64 n) ∧ w' = w := fun n w => (RS.num_ok n w).mono fun _ _ h => ⟨h.1, h.2.symm⟩
  have HC1 : Hid (CameL w 2 encX a1 l1) := hc1
  have HC2 := Lib.hid hc2
  clear hc1 hc2
  by_cases hbad : a0 < 0 ∨ 65536 < a0
  · go_enter Try.func4, Try.ntmps4
    go_wp2_with fail
    refine (RX.new_no a0 w hbad).mono ?_
    rintro e w1 ⟨rfl, rfl⟩
    go_wp2_with fail
    refine (RR.new_no a0 w hbad).mono ?_
    rintro e w2 ⟨rfl, hr, k2, z2⟩
    have c0 := hr.1.cell 0 rfl
    have hB := Lib.hid (k2.below (Nat.le_refl _) (fun _ h => h.elim))
    clear hr hbad k2
    by_cases he : l1.length = 0
    · rw [he]
      go_wp2_with (first | (go_at_call 11; refine (hnum _ _).mono ?_; rintro e w5 ⟨rfl, rfl⟩) | (go_at_call 14; refine (hal _).mono ?_; rintro e w4 ⟨rfl, k4⟩))
      go_ret
      exact ⟨rfl, hB.out.trans (k4.below hB.out.size (fun _ h => h.elim))⟩
    · have he3 : ((l1.length : Int) == 0) = false := by simp; rintro rfl; simp at he
      have he2 : ¬ l1 = [] := by rintro rfl; simp at he
      go_wp2_with (go_at_call 11; refine (hnum _ _).mono ?_; rintro e w5 ⟨rfl, rfl⟩)
      go_loopw [11] (fun i wr => i = .int .i64 0 ∧ wr = w2) (fun _ _ => 0)
      case atStart => exact ⟨rfl, rfl⟩
      case round =>
        obtain ⟨rfl, rfl⟩ := hrel
        by_cases hlt : 0 < l2.length
        · have hk1 : (0 : Int) < (l2.length : Int) := by omega
          go_wp2_with fail
          refine (hal _).mono ?_
          rintro e w4 ⟨rfl, k4⟩
          go_wp2
          go_ret
          exact ⟨rfl, hB.out.trans (k4.below hB.out.size (fun _ h => h.elim))⟩
        · have hk1 : ¬ (0 : Int) < (l2.length : Int) := by omega
          have hk2 : l2.length = 0 := by omega
          go_wp2_with fail
          refine (hal _).mono ?_
          rintro e w4 ⟨rfl, k4⟩
          go_wp2
          go_ret
          exact ⟨rfl, hB.out.trans (k4.below hB.out.size (fun _ h => h.elim))⟩
  · obtain ⟨D, rfl⟩ := Int.eq_ofNat_of_zero_le (a := a0) (by omega)
    have hD : D ≤ 65536 := by omega
    clear hbad
    go_enter Try.func4, Try.ntmps4
    go_wp2_with fail
    refine (RX.new_ok D w hD).mono ?_
    rintro e w1 ⟨rfl, s1, k1, z1⟩
    go_wp2_with fail
    refine (RR.new_ok D w1 hD).mono ?_
    rintro e w2 ⟨rfl, s2, k2, z2⟩
    have hG := Lib.hid (gp_new l1 (Nat.le_refl _) z1 (s1.kept k2 (fun _ _ h => h)) s2 ((k1.below (Nat.le_refl _) (fun _ h => h.elim)).trans (k2.below (by omega) (fun _ h => h.elim))))
    clear s1 s2 k1 k2 z2
    by_cases he : l1.length = 0
    · rw [he]
      go_wp2_with (first | (go_at_call 11; refine (hnum _ _).mono ?_; rintro e w5 ⟨rfl, rfl⟩) | (go_at_call 14; refine (hal _).mono ?_; rintro e w4 ⟨rfl, k4⟩))
      go_ret
      obtain ⟨v, v', f, h, h', cs, l, ks, hG⟩ := hG.out
      exact ⟨rfl, (hG.same k4).bel⟩
    · have he3 : ((l1.length : Int) == 0) = false := by simp; rintro rfl; simp at he
      have hne : ¬ (l1.length : Int) = 0 := by omega
      have he2 : ¬ l1 = [] := by rintro rfl; simp at he
      go_wp2_with (go_at_call 11; refine (hnum _ _).mono ?_; rintro e w5 ⟨rfl, rfl⟩)
      obtain ⟨b, hb⟩ : ∃ b, w1.heap.size = b := ⟨_, rfl⟩
      rw [hb] at hG
      try simp only [hb]
      clear hb z1
      go_loopg [11] l2.length (fun g i wx => ∃ k : Nat, g = l2.length - k ∧ k ≤ l2.length ∧ i = .int .i64 k ∧ Hid (GPx w.heap.size w wx w.heap.size b D l1))
      case atStart => exact ⟨0, rfl, Nat.zero_le _, rfl, hG⟩
      case round =>
        clear hG
        obtain ⟨k, hm, hk, rfl, hG⟩ := hrel
        have HM := Lib.hid hm
        clear hm
        obtain ⟨v, v', f, h, h', cs, l, ks, hGP⟩ := hG.out
        have hk0 : (0 : Int) ≤ (k : Int) := Int.natCast_nonneg _
        have c0 := hGP.hr.1.cell 0 rfl
        have HG := Lib.hid hGP
        clear hGP
        by_cases hlt : k < l2.length
        · clear hG
          have hk1 : (k : Int) < (l2.length : Int) := by omega
          obtain ⟨⟨kd, vn⟩, hx⟩ : ∃ x, l2[k]? = some x := ⟨_, List.getElem?_eq_getElem hlt⟩
          obtain ⟨sb, so, rfl, hsb, hcc⟩ := HC2.out (by rintro rfl; simp at hx)
          have q0 : wr.cell? ⟨sb, so + k * 2, none⟩ = some (.int .i64 kd) := (HG.out.bel.cell (p := ⟨sb, so + k * 2, none⟩) hsb).trans (hcc k _ hx 0 _ rfl)
          have q1 : wr.cell? ⟨sb, so + k * 2 + 1, none⟩ = some (.int .i64 vn) := (HG.out.bel.cell (p := ⟨sb, so + k * 2 + 1, none⟩) hsb).trans (hcc k _ hx 1 _ rfl)
          clear hx hcc
          obtain ⟨r, hr⟩ : ∃ r, vn.tmod (l1.length : Int) = r := ⟨_, rfl⟩
          have hr1 : r < (l1.length : Int) := by rw [← hr]; exact Int.tmod_lt_of_pos _ (by omega)
          have hr2 : -(l1.length : Int) < r := by
            rw [← hr]
            have := Int.lt_tmod_of_pos vn (b := (l1.length : Int)) (by omega)
            omega
          obtain ⟨p, hp, hpl⟩ : ∃ p : Nat, (if r < 0 then r + l1.length else r) = p ∧ p < l1.length := by
            by_cases h : r < 0
            · exact ⟨(r + l1.length).toNat, by rw [if_pos h]; omega, by omega⟩
            · exact ⟨r.toNat, by rw [if_neg h]; omega, by omega⟩
          have hw : IntKind.i64.wrap r = r := IntWalk.i64_in _ (by omega)
          go_upto_if 68 with fail
          go_cut [12] (fun t12 wx => wx = wr ∧ t12 = .int .i64 p)
          case first =>
            by_cases h0 : r < 0
            · have hd : decide (r < 0) = true := by simpa using h0
              rw [if_pos h0] at hp
              have hw2 : IntKind.i64.wrap (r + l1.length) = r + l1.length := IntWalk.i64_in _ (by omega)
              go_wp2_with fail
              go_meet
              exact ⟨rfl, by first | rfl | rw [hp]⟩
            · have hd : decide (r < 0) = false := by simpa using h0
              rw [if_neg h0] at hp
              go_wp2_with fail
              go_meet
              exact ⟨rfl, by first | rfl | rw [hp]⟩
          case rest =>
          obtain ⟨rfl, rfl⟩ := hcut
          clear hr hr1 hr2 hp hw q1 c0 hne
          obtain ⟨x, hx⟩ : ∃ x, l1[p]? = some x := ⟨_, List.getElem?_eq_getElem hpl⟩
          obtain ⟨tb, tof, rfl, y0, y1⟩ := elem_x HC1.out HG.out.bel hx
          have hp0 : (0 : Int) ≤ (p : Int) := Int.natCast_nonneg _
          have hp1 : (p : Int) < (l1.length : Int) := by omega
          have HX := Lib.hid hx
          clear hx
          first | go_upto_block 2 with fail | go_upto_block 3 with fail | go_upto_block 1 with fail | go_upto_block 4 with fail | go_upto_block 5 with fail
          go_cut [] (fun wx => Hid (GPx w.heap.size w wx w.heap.size b D l1))
          case first =>
            by_cases h1 : kd = 1
            · subst h1
              by_cases hd : D ≤ l.length
              · have hd2 : (D : Int) ≤ ((ids ks).length : Int) := by rw [ids_len, ← HG.out.rel.len]; omega
                go_wp2_with fail
                refine (RX.last_full x HG.out.hs hd).mono ?_
                rintro e w4 ⟨rfl, k4⟩
                have HG4 := Lib.hid (HG.out.same k4)
                clear HG k4 y0 y1
                go_wp2_with (go_at_call 11; refine (hnum _ _).mono ?_; rintro e w5 ⟨rfl, rfl⟩)
                refine (RR.put_full p false HG4.out.hr hd2).mono ?_
                rintro e w6 ⟨rfl, n6, rfl⟩
                have hN : Hid (GPx w.heap.size w (w4.drewN n6) w.heap.size b D l1) := ⟨_, _, _, _, _, _, _, _, HG4.out.same ((Kept.refl _ _).drewN n6)⟩
                clear HG4
                go_wp2_with fail
                go_meet
                exact hN
              · have hd2 : ((ids ks).length : Int) < (D : Int) := by rw [ids_len, ← HG.out.rel.len]; omega
                have hD3 : (D : Int) ≤ 65536 := by omega
                go_wp2_with fail
                refine (RX.last_room x HG.out.hs (by omega)).mono ?_
                rintro e w4 ⟨rfl, u, f4, cs4, hs4, g4, k4⟩
                have hr4 := HG.out.hr.kept k4 (fun i hi e => HG.out.dis i e hi)
                clear y0 y1
                go_wp2_with (go_at_call 11; refine (hnum _ _).mono ?_; rintro e w5 ⟨rfl, rfl⟩)
                refine (RR.put_last p hr4 hd2 hD3).mono ?_
                rintro e w6 ⟨rfl, u', hr6, k6, g6⟩
                have hN : Hid (GPx w.heap.size w w6 w.heap.size b D l1) := by
                  have e : ids (ks ++ [p]) = ids ks ++ [(p : Int)] := by simp [ids]
                  exact ⟨_, _, _, _, _, _, _, ks ++ [p], HG.out.step hs4 k4 g4 (Kept.refl _ _) (by rw [e]; exact hr6) k6 g6 (HG.out.rel.last HX.out)⟩
                clear hs4 k4 hr4 hd2 HG g4 hr6 k6 g6
                go_wp2_with fail
                go_meet
                exact hN
            by_cases h2 : kd = 2
            · subst h2
              by_cases hd : D ≤ l.length
              · have hd2 : (D : Int) ≤ ((ids ks).length : Int) := by rw [ids_len, ← HG.out.rel.len]; omega
                go_wp2_with fail
                refine (RX.first_full x HG.out.hs hd).mono ?_
                rintro e w4 ⟨rfl, k4⟩
                have HG4 := Lib.hid (HG.out.same k4)
                clear HG k4 y0 y1
                go_wp2_with (go_at_call 11; refine (hnum _ _).mono ?_; rintro e w5 ⟨rfl, rfl⟩)
                refine (RR.put_full p true HG4.out.hr hd2).mono ?_
                rintro e w6 ⟨rfl, n6, rfl⟩
                have hN : Hid (GPx w.heap.size w (w4.drewN n6) w.heap.size b D l1) := ⟨_, _, _, _, _, _, _, _, HG4.out.same ((Kept.refl _ _).drewN n6)⟩
                clear HG4
                go_wp2_with fail
                go_meet
                exact hN
              · have hd2 : ((ids ks).length : Int) < (D : Int) := by rw [ids_len, ← HG.out.rel.len]; omega
                have hD3 : (D : Int) ≤ 65536 := by omega
                go_wp2_with fail
                refine (RX.first_room x HG.out.hs (by omega)).mono ?_
                rintro e w4 ⟨rfl, u, f4, cs4, hs4, g4, k4⟩
                have hr4 := HG.out.hr.kept k4 (fun i hi e => HG.out.dis i e hi)
                clear y0 y1
                go_wp2_with (go_at_call 11; refine (hnum _ _).mono ?_; rintro e w5 ⟨rfl, rfl⟩)
                refine (RR.put_first p hr4 hd2 hD3).mono ?_
                rintro e w6 ⟨rfl, u', hr6, k6, g6⟩
                have hN : Hid (GPx w.heap.size w w6 w.heap.size b D l1) := by
                  have e : ids (p :: ks) = (p : Int) :: ids ks := by simp [ids]
                  exact ⟨_, _, _, _, _, _, _, p :: ks, HG.out.step hs4 k4 g4 (Kept.refl _ _) (by rw [e]; exact hr6) k6 g6 (HG.out.rel.first HX.out)⟩
                clear hs4 k4 hr4 hd2 HG g4 hr6 k6 g6
                go_wp2_with fail
                go_meet
                exact hN
            by_cases h3 : kd = 3
            · subst h3
              rcases HG.out.rel.cases with ⟨rfl, rfl⟩ | ⟨z, lz, j, kz, rfl, rfl, hrz, hz⟩
              · go_wp2_with fail
                refine (RX.take_none HG.out.hs).mono ?_
                rintro e w4 ⟨rfl, k4⟩
                have HG5 := Lib.hid ((HG.out.same k4).same ((Kept.refl (fun _ => False) w4).alloc (.cells #[.string ⟨#[]⟩, .int .i64 0] 31)))
                clear HG k4 y0 y1 q0
                have b4 := Blk.new w4 [.string ⟨#[]⟩, .int .i64 0] 31
                go_wp2_with fail
                refine (RR.take_none HG5.out.hr).mono ?_
                rintro e w6 ⟨rfl, rfl⟩
                have e0 := b4.cell 0 rfl
                have e1 := b4.cell 1 rfl
                go_wp2_with fail
                go_quiet (first | (go_at_call 11; refine Calls.quiet_of_same (hnq _ _)))
                have hN : ∀ n, Hid (GPx w.heap.size w ((w4.alloc (.cells #[.string ⟨#[]⟩, .int .i64 0] 31)).drewN n) w.heap.size b D l1) := fun n => ⟨_, _, _, _, _, _, _, _, HG5.out.same ((Kept.refl _ _).drewN n)⟩
                clear HG5 b4
                go_wp2_with fail
                go_meet
                exact hN _
              · go_wp2_with fail
                refine (RX.take_ok z HG.out.hs).mono ?_
                rintro e w4 ⟨rfl, f4, cs4, hs4, k4⟩
                have hr4 := HG.out.hr.kept k4 (fun i hi e => HG.out.dis i e hi)
                have kA := (Kept.refl (fun _ => False) w4).alloc (.cells #[.string z.1, .int .i64 z.2] 31)
                have hr5 := hr4.kept kA (fun _ _ h => h)
                have e5 : ids (j :: kz) = (j : Int) :: ids kz := by simp [ids]
                rw [e5] at hr5
                have b4 := Blk.new w4 [.string z.1, .int .i64 z.2] 31
                clear y0 y1 q0
                go_wp2_with fail
                refine (RR.take_ok (j : Int) hr5).mono ?_
                rintro e w6 ⟨rfl, u', hr6, g6, k6⟩
                have hb6 : ¬ w4.heap.size = b := by have := hr4.lt b (Or.inl rfl); omega
                have b6 := b4.kept k6 hb6
                have e0 := b6.cell 0 rfl
                have e1 := b6.cell 1 rfl
                have hN : ∀ n, Hid (GPx w.heap.size w (w6.drewN n) w.heap.size b D l1) := fun n => by
                  have hq := HG.out.step hs4 k4 (fun i hi => Or.inl hi) kA hr6 k6 g6 hrz
                  exact ⟨_, _, _, _, _, _, _, _, hq.same ((Kept.refl _ _).drewN n)⟩
                have hj0 : (0 : Int) ≤ (j : Int) := Int.natCast_nonneg _
                have hj1 : (j : Int) < (l1.length : Int) := by have := (List.getElem?_eq_some_iff.1 hz).1; omega
                have hbel6 : Below w.heap.size w w6 := by
                  obtain ⟨_, _, _, _, _, _, _, _, hq⟩ := (hN 0).out
                  exact hq.bel
                obtain ⟨tb', tof', hv, z0, z1⟩ := elem_x HC1.out hbel6 hz
                cases hv
                have s1 : (z.1.toList == z.1.toList) = true := by simp
                have s2 : (z.2 == z.2) = true := by simp
                clear hs4 k4 hr4 kA hr5 b4 hr6 k6 b6 HG hz hrz hbel6 g6 e5
                go_wp2_with fail
                go_quiet (first | (go_at_call 11; refine Calls.quiet_of_same (hnq _ _)))
                go_wp2_with fail
                go_meet
                exact hN _
            have g1 : decide (kd = 1) = false := by simpa using h1
            have g2 : decide (kd = 2) = false := by simpa using h2
            have g3 : decide (kd = 3) = false := by simpa using h3
            have g1' : (kd == 1) = false := by simpa using h1
            have g2' : (kd == 2) = false := by simpa using h2
            have g3' : (kd == 3) = false := by simpa using h3
            have hN : Hid (GPx w.heap.size w _ w.heap.size b D l1) := ⟨_, _, _, _, _, _, _, _, HG.out⟩
            clear HG
            go_wp2_with fail
            go_meet
            exact hN
          case rest =>
          clear HG q0 y0 y1 HX hp0 hp1
          obtain ⟨v, v', f, h, h', cs, l, ks, hGP⟩ := hcut.out
          have HG := Lib.hid hGP
          clear hGP hcut
          rcases HG.out.rel.cases with ⟨rfl, rfl⟩ | ⟨z, lz, j, kz, rfl, rfl, hrz, hz⟩
          · go_wp2_with fail
            refine (RX.at_no 0 HG.out.hs (Or.inr (by simp))).mono ?_
            rintro e w4 ⟨rfl, k4⟩
            have HG5 := Lib.hid ((HG.out.same k4).same ((Kept.refl (fun _ => False) w4).alloc (.cells #[.string ⟨#[]⟩, .int .i64 0] 31)))
            clear HG k4
            have b4 := Blk.new w4 [.string ⟨#[]⟩, .int .i64 0] 31
            go_wp2_with fail
            refine (RR.at_no 0 HG5.out.hr (Or.inr (by simp [ids]))).mono ?_
            rintro e w6 ⟨rfl, rfl⟩
            have e0 := b4.cell 0 rfl
            have e1 := b4.cell 1 rfl
            have c2 := HG5.out.hr.1.cell 2 rfl
            obtain ⟨ao2, ca2, rfl, _⟩ := row_any HG5.out.hr.2.1
            have hln : ∀ n, Calls Try.prog 22 #[.pointer (some ⟨w.heap.size, 0, none⟩)] ((w4.alloc (.cells #[.string ⟨#[]⟩, .int .i64 0] 31)).drewN n) fun e w' => e = .returned (.int .i64 0) ∧ w' = (w4.alloc (.cells #[.string ⟨#[]⟩, .int .i64 0] 31)).drewN n := fun n => (RX.len_ok (HG5.out.hs.drewN n)).mono fun _ _ h => ⟨h.1, h.2.symm⟩
            have hids : (ids []).length = 0 := rfl
            rw [hids] at c2
            have hN : ∀ n, Hid (GPx w.heap.size w ((w4.alloc (.cells #[.string ⟨#[]⟩, .int .i64 0] 31)).drewN n) w.heap.size b D l1) := fun n => ⟨_, _, _, _, _, _, _, _, HG5.out.same ((Kept.refl _ _).drewN n)⟩
            clear HG5 b4
            go_wp2_with fail
            go_quiet (first | (go_at_call 22; refine Calls.quiet_of_same (hln _)))
            go_wp2_with fail
            go_roundg (l2.length - (k + 1))
            case measure => have := HM.out; omega
            case rel => exact ⟨k + 1, rfl, by omega, by go_num, hN _⟩
          · go_wp2_with fail
            refine (RX.at_ok 0 z HG.out.hs rfl).mono ?_
            rintro e w4 ⟨rfl, k4⟩
            have kA := (Kept.refl (fun _ => False) w4).alloc (.cells #[.string z.1, .int .i64 z.2] 31)
            have HG5 := Lib.hid ((HG.out.same k4).same kA)
            clear HG k4 kA
            have b4 := Blk.new w4 [.string z.1, .int .i64 z.2] 31
            go_wp2_with fail
            refine (RR.at_ok 0 (j : Int) HG5.out.hr (by simp [ids])).mono ?_
            rintro e w6 ⟨rfl, rfl⟩
            have e0 := b4.cell 0 rfl
            have e1 := b4.cell 1 rfl
            have c2 := HG5.out.hr.1.cell 2 rfl
            obtain ⟨ao2, ca2, rfl, _⟩ := row_any HG5.out.hr.2.1
            have hln : ∀ n, Calls Try.prog 22 #[.pointer (some ⟨w.heap.size, 0, none⟩)] ((w4.alloc (.cells #[.string z.1, .int .i64 z.2] 31)).drewN n) fun e w' => e = .returned (.int .i64 ((ids (j :: kz)).length)) ∧ w' = (w4.alloc (.cells #[.string z.1, .int .i64 z.2] 31)).drewN n := fun n => (RX.len_ok (HG5.out.hs.drewN n)).mono fun _ _ h => ⟨by rw [h.1, ids_len, ← HG5.out.rel.len], h.2.symm⟩
            obtain ⟨q, hq⟩ : ∃ q, (ids (j :: kz)).length = q := ⟨_, rfl⟩
            simp only [hq] at hln c2
            have hj0 : (0 : Int) ≤ (j : Int) := Int.natCast_nonneg _
            have hj1 : (j : Int) < (l1.length : Int) := by have := (List.getElem?_eq_some_iff.1 hz).1; omega
            obtain ⟨tb', tof', hv, z0, z1⟩ := elem_x HC1.out HG5.out.bel hz
            cases hv
            have s1 : (z.1.toList == z.1.toList) = true := by simp
            have s2 : (z.2 == z.2) = true := by simp
            have hN : ∀ n, Hid (GPx w.heap.size w ((w4.alloc (.cells #[.string z.1, .int .i64 z.2] 31)).drewN n) w.heap.size b D l1) := fun n => ⟨_, _, _, _, _, _, _, _, HG5.out.same ((Kept.refl _ _).drewN n)⟩
            clear HG5 b4 hz hrz hq
            go_wp2_with fail
            go_quiet (first | (go_at_call 22; refine Calls.quiet_of_same (hln _)))
            go_wp2_with fail
            go_roundg (l2.length - (k + 1))
            case measure => have := HM.out; omega
            case rel => exact ⟨k + 1, rfl, by omega, by go_num, hN _⟩
        · have hk1 : ¬ (k : Int) < (l2.length : Int) := by omega
          go_wp2_with fail
          refine (hal _).mono ?_
          rintro e w4 ⟨rfl, k4⟩
          go_wp2
          go_ret
          exact ⟨rfl, (HG.out.same k4).bel⟩
end Go.Proofs.Ytibgoipdaeaigaa.ringTextsW
