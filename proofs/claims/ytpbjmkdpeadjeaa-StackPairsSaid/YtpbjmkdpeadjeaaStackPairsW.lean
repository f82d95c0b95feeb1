/- P14.2 to P14.4 with pairs, the walk. -/
import Derived.Test.YtpbjmkdpeadjeaaStpB
namespace Go.Proofs.Ytpbjmkdpeadjeaa.stackPairsW
open Go.RowKit Go.Fr Go.Proofs.Ytpbjmkdpeadjeaa.SP

set_option maxRecDepth 100000 in
set_option maxHeartbeats 8000000 in
theorem walk (w : World) (a0 : Int) (w0 : (Lit.int .i64 a0).wf = true) (a1 : Option Addr) (cap1 : Nat) (l1 : List (Int × ByteArray)) (hl1 : l1.length ≤ cap1) (hm1 : cap1 ≤ maxLen) (hc1 : CameL w 2 (encKS .i64) a1 l1)
    (hw1 : ∀ x ∈ l1, (Lit.int .i64 x.1).wf = true ∧ x.2.size ≤ maxLen)
    (a2 : Option Addr) (cap2 : Nat) (l2 : List (Int × Int)) (hl2 : l2.length ≤ cap2) (hm2 : cap2 ≤ maxLen) (hc2 : CameL w 2 (encKK .i64 .i64) a2 l2)
    (hw2 : ∀ x ∈ l2, (Lit.int .i64 x.1).wf = true ∧ (Lit.int .i64 x.2).wf = true) :
    Calls Try.prog 4 #[.int .i64 a0, .slice a1 l1.length cap1, .slice a2 l2.length cap2] w fun e w' => e = .returned (.bool true) ∧ Below w.heap.size w w' := by
  unfold maxLen at hm1 hm2
  clear hw1 hw2 w0
  have hal : ∀ w : World, Calls Try.prog 13 #[] w fun e w' => e = .returned (.bool true) ∧ Kept (fun _ => False) w w' := fun w => SS.alive_law w
  have hnum : ∀ (n : Int) (w : World), Calls Try.prog 10 #[.int .i64 n] w fun e w' => e = .returned (.int .i64 n) ∧ w = w' := fun n w => SS.num_ok n w
  have hnq : ∀ (n : Int) (w : World), Calls Try.prog 10 #[.int .i64 n] w fun e w' => e = .returned (.int .i64 n) ∧ w' = w := fun n w => (SS.num_ok n w).mono fun _ _ h => ⟨h.1, h.2.symm⟩
  have HC1 : Hid (CameL w 2 encP a1 l1) := hc1
  have HC2 := Lib.hid hc2
  clear hc1 hc2
  by_cases hbad : a0 < 0 ∨ 1024 < a0
  · go_enter Try.func4, Try.ntmps4
    go_wp2_with fail
    refine (SP.new_no a0 w hbad).mono ?_
    rintro e w1 ⟨rfl, rfl⟩
    go_wp2_with fail
    refine (RS.new_no a0 w hbad).mono ?_
    rintro e w2 ⟨rfl, hr, k2, z2⟩
    have c0 := hr.1.cell 0 rfl
    have hB := Lib.hid (k2.below (Nat.le_refl _) (fun _ h => h.elim))
    clear hr hbad k2
    by_cases he : l1.length = 0
    · rw [he]
      go_wp2_with (first | (go_at_call 10; refine (hnum _ _).mono ?_; rintro e w3 ⟨rfl, rfl⟩) | (go_at_call 13; refine (hal _).mono ?_; rintro e w4 ⟨rfl, k4⟩))
      go_ret
      exact ⟨rfl, hB.out.trans (k4.below hB.out.size (fun _ h => h.elim))⟩
    · have he1 : ¬ (l1.length : Int) = 0 := by omega
      have he2 : ¬ l1 = [] := by rintro rfl; simp at he
      go_wp2_with (go_at_call 10; refine (hnum _ _).mono ?_; rintro e w3 ⟨rfl, rfl⟩)
      go_loopw [11] (fun i wr => i = .int .i64 0 ∧ wr = w2) (fun _ _ => 0)
      case atStart => exact ⟨rfl, rfl⟩
      case round =>
        obtain ⟨rfl, rfl⟩ := hrel
        by_cases hlt : 0 < l2.length
        · have hk1 : (0 : Int) < (l2.length : Int) := by omega
          go_wp2_with fail
          refine (hal _).mono ?_
          rintro e w4 ⟨rfl, k4⟩
          go_wp2
          go_ret
          exact ⟨rfl, hB.out.trans (k4.below hB.out.size (fun _ h => h.elim))⟩
        · have hk1 : ¬ (0 : Int) < (l2.length : Int) := by omega
          have hk2 : l2.length = 0 := by omega
          go_wp2_with fail
          refine (hal _).mono ?_
          rintro e w4 ⟨rfl, k4⟩
          go_wp2
          go_ret
          exact ⟨rfl, hB.out.trans (k4.below hB.out.size (fun _ h => h.elim))⟩
  · go_enter Try.func4, Try.ntmps4
    go_wp2_with fail
    refine (SP.new_ok a0 w (by omega) (by omega)).mono ?_
    rintro e w1 ⟨rfl, s1, k1, z1⟩
    go_wp2_with fail
    refine (RS.new_ok a0 w1 (by omega) (by omega)).mono ?_
    rintro e w2 ⟨rfl, s2, k2, z2⟩
    have hG := Lib.hid (gp_new l1 (Nat.le_refl _) z1 (s1.kept k2 (fun _ _ h => h)) s2 ((k1.below (Nat.le_refl _) (fun _ h => h.elim)).trans (k2.below (by omega) (fun _ h => h.elim))))
    clear s1 s2 k1 k2 z2
    by_cases he : l1.length = 0
    · rw [he]
      go_wp2_with (first | (go_at_call 10; refine (hnum _ _).mono ?_; rintro e w3 ⟨rfl, rfl⟩) | (go_at_call 13; refine (hal _).mono ?_; rintro e w4 ⟨rfl, k4⟩))
      go_ret
      obtain ⟨v, v', h, h', l, ks, hG⟩ := hG.out
      exact ⟨rfl, (hG.same k4).bel⟩
    · have he3 : ((l1.length : Int) == 0) = false := by simp; rintro rfl; simp at he
      have he2 : ¬ l1 = [] := by rintro rfl; simp at he
      go_wp2_with (go_at_call 10; refine (hnum _ _).mono ?_; rintro e w3 ⟨rfl, rfl⟩)
      obtain ⟨b, hb⟩ : ∃ b, w1.heap.size = b := ⟨_, rfl⟩
      rw [hb] at hG
      try simp only [hb]
      clear hb z1
      go_loopw [11] (fun i wr => ∃ k : Nat, k ≤ l2.length ∧ i = .int .i64 k ∧ Hid (GPx w.heap.size w wr w.heap.size b a0 l1)) (fun i _ => l2.length - (intOf i).toNat)
      case atStart => exact ⟨0, Nat.zero_le _, rfl, hG⟩
      case round =>
        clear hG
        obtain ⟨k, hk, rfl, hG⟩ := hrel
        obtain ⟨v, v', h, h', l, ks, hGP⟩ := hG.out
        have hk0 : (0 : Int) ≤ (k : Int) := Int.natCast_nonneg _
        have c0 := hGP.hr.1.cell 0 rfl
        have HG := Lib.hid hGP
        clear hGP
        by_cases hlt : k < l2.length
        · clear hG
          have hk1 : (k : Int) < (l2.length : Int) := by omega
          obtain ⟨⟨kd, vn⟩, hx⟩ : ∃ x, l2[k]? = some x := ⟨_, List.getElem?_eq_getElem hlt⟩
          obtain ⟨sb, so, rfl, hsb, hcc⟩ := HC2.out (by rintro rfl; simp at hx)
          have hcell : ∀ {wz : World}, Below w.heap.size w wz → wz.cell? ⟨sb, so + k * 2, none⟩ = some (.int .i64 kd) ∧ wz.cell? ⟨sb, so + k * 2 + 1, none⟩ = some (.int .i64 vn) := fun hb => ⟨(hb.cell (p := ⟨sb, so + k * 2, none⟩) hsb).trans (hcc k _ hx 0 _ rfl), (hb.cell (p := ⟨sb, so + k * 2 + 1, none⟩) hsb).trans (hcc k _ hx 1 _ rfl)⟩
          have HCL : Hid (∀ {wz : World}, Below w.heap.size w wz → wz.cell? ⟨sb, so + k * 2, none⟩ = some (.int .i64 kd) ∧ wz.cell? ⟨sb, so + k * 2 + 1, none⟩ = some (.int .i64 vn)) := hcell
          obtain ⟨q0, q1⟩ := hcell HG.out.bel
          clear hx hcc hcell
          go_wp2_with fail
          refine (place_ok w wr HG.out.bel a1 cap1 l1 vn (by omega) (by omega) HC1.out).mono ?_
          rintro e w3 ⟨p, rfl, hF, k3⟩
          have HG3 := Lib.hid (HG.out.same k3)
          clear HG k3 q0 q1 c0
          obtain ⟨q0, q1⟩ := HCL.out HG3.out.bel
          obtain ⟨x, hx⟩ : ∃ x, l1[p]? = some x := ⟨_, List.getElem?_eq_getElem hF.1⟩
          obtain ⟨tb, tof, rfl, y0, y1⟩ := elem_p HC1.out HG3.out.bel hx
          have hp0 : (0 : Int) ≤ (p : Int) := Int.natCast_nonneg _
          have hp1 : (p : Int) < (l1.length : Int) := by have := hF.1; omega
          have HF := Lib.hid hF
          have HX := Lib.hid hx
          clear hF hx
          by_cases h1 : kd = 1
          · subst h1
            by_cases hd : a0 ≤ l.length
            · go_wp2_with fail
              refine (SP.push_full x HG3.out.hs hd HG3.out.hh).mono ?_
              rintro e w4 ⟨rfl, hs4, k4⟩
              have hr4 := HG3.out.hr.kept k4 (fun i hi e => HG3.out.dis i e hi)
              have hd2 : a0 ≤ ((ids ks).length : Int) := by rw [ids_len, ← HG3.out.rel.len]; exact hd
              go_wp2_with (go_at_call 10; refine (hnum _ _).mono ?_; rintro e w5 ⟨rfl, rfl⟩)
              refine (RS.push_full p hr4 hd2).mono ?_
              rintro e w6 ⟨rfl, n6, rfl⟩
              have hN : Hid (GPx w.heap.size w (w4.drewN n6) w.heap.size b a0 l1) := ⟨_, _, _, _, _, _, HG3.out.step hs4 k4 (fun i hi => Or.inl hi) (Kept.refl _ _) (RS.IsRef.drew n6 hr4) ((Kept.refl _ _).drewN n6) (fun i hi => Or.inl hi) HG3.out.rel HG3.out.hh⟩
              clear hs4 k4 hr4 hd2 HG3 q0 q1 y0 y1
              go_wp2
              go_roundw
              case rel => exact ⟨k + 1, by omega, by go_num, hN⟩
              case measure => simp [intOf]; omega
            · have hd1 : (l.length : Int) < a0 := by omega
              go_wp2_with fail
              refine (SP.push_room x HG3.out.hs hd1 (by omega)).mono ?_
              rintro e w4 ⟨rfl, u, hs4, k4, g4⟩
              have hr4 := HG3.out.hr.kept k4 (fun i hi e => HG3.out.dis i e hi)
              have hd2 : ((ids ks).length : Int) < a0 := by rw [ids_len, ← HG3.out.rel.len]; exact hd1
              go_wp2_with (go_at_call 10; refine (hnum _ _).mono ?_; rintro e w5 ⟨rfl, rfl⟩)
              refine (RS.push_room p hr4 hd2 (by omega)).mono ?_
              rintro e w6 ⟨rfl, u', hr6, k6, g6⟩
              have hN : Hid (GPx w.heap.size w w6 w.heap.size b a0 l1) := by
                refine ⟨_, _, _, _, _, ks ++ [p], HG3.out.step hs4 k4 g4 (Kept.refl _ _) (h2 := mxi h' ((ids ks).length + 1)) ?_ k6 g6 (HG3.out.rel.push HF.out HX.out) ?_⟩
                · have e : ids (ks ++ [p]) = ids ks ++ [(p : Int)] := by simp [ids]
                  rw [e]; exact hr6
                · rw [List.length_append]; unfold mxi; split <;> simp <;> omega
              clear hs4 k4 hr4 hd2 HG3 q0 q1 y0 y1 g4 hr6 k6 g6
              go_wp2
              go_roundw
              case rel => exact ⟨k + 1, by omega, by go_num, hN⟩
              case measure => simp [intOf]; omega
          by_cases h2 : kd = 2
          · subst h2
            rcases HG3.out.rel.cases with ⟨rfl, rfl⟩ | ⟨lz, z, kz, j, rfl, rfl, hrz, hz, hFz⟩
            · go_wp2_with fail
              refine (SP.pop_none HG3.out.hs).mono ?_
              rintro e w4 ⟨rfl, k4⟩
              have HG4 := Lib.hid (HG3.out.same k4)
              clear HG3 k4 q0 q1 y0 y1
              have HG5 := Lib.hid (HG4.out.same ((Kept.refl (fun _ => False) w4).alloc (.cells #[.int .i64 0, .string ⟨#[]⟩] 31)))
              have b4 := Blk.new w4 [.int .i64 0, .string ⟨#[]⟩] 31
              go_wp2_with fail
              refine (RS.pop_none HG5.out.hr).mono ?_
              rintro e w6 ⟨rfl, rfl⟩
              have e0 := b4.cell 0 rfl
              have e1 := b4.cell 1 rfl
              go_wp2
              go_quiet (first | (go_at_call 10; refine Calls.quiet_of_same (hnq _ _)))
              have hN : ∀ n, Hid (GPx w.heap.size w ((w4.alloc (.cells #[.int .i64 0, .string ⟨#[]⟩] 31)).drewN n) w.heap.size b a0 l1) := fun n => ⟨_, _, _, _, _, _, HG5.out.same ((Kept.refl _ _).drewN n)⟩
              clear HG5 HG4 b4
              go_wp2
              go_roundw
              case rel => exact ⟨k + 1, by omega, by go_num, hN _⟩
              case measure => simp [intOf]; omega
            · go_wp2_with fail
              refine (SP.pop_ok z HG3.out.hs).mono ?_
              rintro e w4 ⟨rfl, u, hs4, o4, k4⟩
              have hr4 := HG3.out.hr.kept k4 (fun i hi e => HG3.out.dis i (Or.inl e) hi)
              have kA := (Kept.refl (fun _ => False) w4).alloc (.cells #[.int .i64 z.1, .string z.2] 31)
              have hr5 := hr4.kept kA (fun _ _ h => h)
              have e5 : ids (kz ++ [j]) = ids kz ++ [(j : Int)] := by simp [ids]
              rw [e5] at hr5
              have b4 := Blk.new w4 [.int .i64 z.1, .string z.2] 31
              clear q0 q1 y0 y1
              go_wp2_with fail
              refine (RS.pop_ok (j : Int) hr5).mono ?_
              rintro e w6 ⟨rfl, u', hr6, o6, k6⟩
              have hb6 : ¬ w4.heap.size = b := by have := hr4.lt b (Or.inl rfl); omega
              have b6 := b4.kept k6 hb6
              have e0 := b6.cell 0 rfl
              have e1 := b6.cell 1 rfl
              have hN : ∀ n, Hid (GPx w.heap.size w (w6.drewN n) w.heap.size b a0 l1) := fun n => by
                have hq := HG3.out.step hs4 (k4.mono (fun i _ e => Or.inl e)) (fun i hi => Or.inl (hi.imp id (fun e => by rw [← o4]; exact e))) kA hr6 (k6.mono (fun i _ e => Or.inl e)) (fun i hi => Or.inl (hi.imp id (fun e => by rw [← o6]; exact e))) hrz (by have := HG3.out.hh; simp at this; omega)
                exact ⟨_, _, _, _, _, _, hq.same ((Kept.refl _ _).drewN n)⟩
              have hj0 : (0 : Int) ≤ (j : Int) := Int.natCast_nonneg _
              have hj1 : (j : Int) < (l1.length : Int) := by have := hFz.1; omega
              have hbel6 : Below w.heap.size w w6 := by
                obtain ⟨_, _, _, _, _, _, hq⟩ := (hN 0).out
                exact hq.bel
              obtain ⟨tb', tof', hv, z0, z1⟩ := elem_p HC1.out hbel6 hz
              cases hv
              have s1 : (z.1 == z.1) = true := by simp
              have s2 : (z.2.toList == z.2.toList) = true := by simp
              clear hs4 k4 hr4 kA hr5 b4 hr6 k6 b6 HG3 hz hFz hrz hbel6 o4 o6 e5
              go_wp2
              go_quiet (first | (go_at_call 10; refine Calls.quiet_of_same (hnq _ _)))
              go_wp2
              go_roundw
              case rel => exact ⟨k + 1, by omega, by go_num, hN _⟩
              case measure => simp [intOf]; omega
          by_cases h3 : kd = 3
          · subst h3
            go_wp2_with fail
            refine (SP.find_any x HG3.out.hs).mono ?_
            rintro e w4 ⟨r, ok, rfl, hf, k4⟩
            obtain ⟨rfl, rfl⟩ := HG3.out.rel.found HF.out HX.out hf
            have HG4 := Lib.hid (HG3.out.same k4)
            clear HG3 k4 hf q0 q1 y0 y1
            go_wp2_with fail
            refine (RS.find_ok (p : Int) HG4.out.hr).mono ?_
            rintro e w5 ⟨rfl, k5⟩
            have hN : Hid (GPx w.heap.size w w5 w.heap.size b a0 l1) := ⟨_, _, _, _, _, _, HG4.out.same k5⟩
            clear HG4 k5
            obtain ⟨ok, hok⟩ : ∃ ok, decide ((p : Int) ∈ ids ks) = ok := ⟨_, rfl⟩
            rw [hok]
            clear hok
            go_wp2
            go_roundw
            case rel => exact ⟨k + 1, by omega, by go_num, hN⟩
            case measure => simp [intOf]; omega
          have g1 : decide (kd = 1) = false := by simpa using h1
          have g2 : decide (kd = 2) = false := by simpa using h2
          have g3 : decide (kd = 3) = false := by simpa using h3
          have g1' : (kd == 1) = false := by simpa using h1
          have g2' : (kd == 2) = false := by simpa using h2
          have g3' : (kd == 3) = false := by simpa using h3
          have hN : Hid (GPx w.heap.size w w3 w.heap.size b a0 l1) := ⟨_, _, _, _, _, _, HG3.out⟩
          clear HG3
          go_wp2
          go_roundw
          case rel => exact ⟨k + 1, by omega, by go_num, hN⟩
          case measure => simp [intOf]; omega
        · have hk1 : ¬ (k : Int) < (l2.length : Int) := by omega
          go_wp2_with fail
          refine (hal _).mono ?_
          rintro e w4 ⟨rfl, k4⟩
          go_wp2
          go_ret
          exact ⟨rfl, (HG.out.same k4).bel⟩
end Go.Proofs.Ytpbjmkdpeadjeaa.stackPairsW
