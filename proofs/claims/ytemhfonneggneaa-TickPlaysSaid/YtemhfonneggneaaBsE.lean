/- The program's board told in lists: Auto. -/
import Derived.Test.YtemhfonneggneaaBsD
import Derived.Laws.BitsAllLaws
namespace Go.Proofs.Ytemhfonneggneaa.BS
open Go.RowKit Go.Fr Go.Tb Go.Proofs.Ytemhfonneggneaa.CK Go.Proofs.Ytemhfonneggneaa.BD Go.Proofs.Ytemhfonneggneaa.RB
attribute [local go_sem] Oper.semAt_some
theorem pow_int (m : Nat) : ∃ q : Nat, 2 ^ m = q ∧ (2 : Int) ^ m = (q : Int) := ⟨2 ^ m, rfl, by push_cast; rfl⟩
theorem and_pow (n m : Nat) : n &&& 2 ^ m = if n.testBit m then 2 ^ m else 0 := by
  apply Nat.eq_of_testBit_eq
  intro i
  rw [Nat.testBit_and, Nat.testBit_two_pow]
  by_cases h : m = i
  · subst h
    cases hb : n.testBit m <;> simp
  · cases hb : n.testBit m <;> simp [h]
/-- the same bit, looked at the other way -/
theorem bit_eq {x : Int} {m : Nat} (hx : U32 x) (hm : m < 8) : bitOn x m = (bits .and .u32 (x / 2 ^ m) 1 != 0) := by
  obtain ⟨n, rfl⟩ := Int.eq_ofNat_of_zero_le hx.1
  have hn : n < 4294967296 := by have := hx.2; omega
  have h2 : (2 : Nat) ^ m ≤ 128 := by
    have : (2 : Nat) ^ m ≤ 2 ^ 7 := Nat.pow_le_pow_right (by decide) (by omega)
    have e : (2 : Nat) ^ 7 = 128 := by decide
    omega
  obtain ⟨q, hq, hqi⟩ := pow_int m
  rw [hq] at h2
  have e1 : ((2 : Int) ^ m % 4294967296) = (q : Int) := by rw [hqi]; omega
  have e2 : ((n : Int) / 2 ^ m) = ((n / q : Nat) : Int) := by rw [hqi]; push_cast; rfl
  have hd : n / q < 4294967296 := Nat.lt_of_le_of_lt (Nat.div_le_self _ _) hn
  unfold bitOn
  rw [e1, e2, u32_and_nat n q hn (by omega), show (1 : Int) = ((1 : Nat) : Int) from rfl, u32_and_nat (n / q) 1 hd (by decide), ← hq, and_pow, Nat.and_one_is_mod, Nat.testBit_eq_decide_div_mod_eq]
  have hp : 0 < 2 ^ m := Nat.two_pow_pos m
  rcases Nat.mod_two_eq_zero_or_one (n / 2 ^ m) with h | h
  · rw [h]; simp
  · rw [h, decide_eq_true rfl, if_pos rfl, bne_iff_ne.2 (by omega)]; rfl
theorem bit_on {x : Int} {m : Nat} (h : bitOn x m = true) : x ≠ 0 := by
  rintro rfl
  unfold bitOn at h
  rw [bne_iff_ne] at h
  apply h
  obtain ⟨q, hq, hqi⟩ := pow_int m
  obtain ⟨k, hk, hkl⟩ : ∃ k : Nat, ((2 : Int) ^ m % 4294967296) = (k : Int) ∧ k < 4294967296 := by
    rw [hqi]
    exact ⟨q % 4294967296, by omega, by omega⟩
  rw [hk, show (0 : Int) = ((0 : Nat) : Int) from rfl, u32_and_nat 0 k (by decide) hkl]
  simp
section
variable {w w' : World} {b : Nat} {M : Bm} {T : Tb} {V : List Nat} {A : List (Bool × Nat × Nat)} {R : List Bool} {S : Nat → Prop}
theorem s_auto_out {i : Int} (hs : IsBs w b M T V A R) (hi : ¬ (0 ≤ i ∧ i < T.modes)) : Calls Try.prog 46 #[.pointer (some ⟨b, 0, none⟩), .int .i64 i] w fun e w' => e = .returned (.tuple #[.int .i64 0, .int .i64 2]) ∧ w = w' := by
  have ha := alive_ok hs.bd
  have c4 : w.cell? ⟨b, 4, none⟩ = some (.int .i64 T.modes) := hs.bd.blk.cell 4 rfl
  clear hs
  by_cases h : i < 0
  · have d0 : decide (i < 0) = true := by simpa using h
    go_enter Try.func46, Try.ntmps46
    go_wp2_with (go_at_call 29; refine ha.mono ?_; rintro e w1 ⟨rfl, rfl⟩)
    go_ret2
    exact ⟨rfl, rfl⟩
  · have d0 : decide (i < 0) = false := by simpa using h
    have d1 : decide (T.modes ≤ i) = true := by rw [decide_eq_true_eq]; omega
    go_enter Try.func46, Try.ntmps46
    go_wp2_with (go_at_call 29; refine ha.mono ?_; rintro e w1 ⟨rfl, rfl⟩)
    go_ret2
    exact ⟨rfl, rfl⟩
set_option maxRecDepth 100000 in
set_option maxHeartbeats 8000000 in
theorem s_auto {mode : Nat} (hs : IsBs w b M T V A R) (hk : TOk T) (hm : (mode : Int) < T.modes) : Calls Try.prog 46 #[.pointer (some ⟨b, 0, none⟩), .int .i64 mode] w fun e w' =>
    e = .returned (.tuple #[.int .i64 (autN T mode A A.length), .int .i64 0]) ∧ IsBs w' b M T V (autA T mode A A.length) R ∧ Kept (bfoot b M) w w' := by
  obtain ⟨a1, k1, _, _, _, _, _, _, e1, _, _, _, _, _, _, c1, _, _, _⟩ := hs.bd.heads
  have ha := alive_ok hs.bd
  have c4 : w.cell? ⟨b, 4, none⟩ = some (.int .i64 T.modes) := hs.bd.blk.cell 4 rfl
  have hla := hs.la
  have hna := hk.na
  have hm8 : mode < 8 := by have := hk.nm; omega
  have d0 : decide (T.modes ≤ (mode : Int)) = false := by rw [decide_eq_false_iff_not]; omega
  have HS := Lib.hid hs
  have HK := Lib.hid hk
  have E1 := Lib.hid e1
  clear hs hk e1
  go_enter Try.func46, Try.ntmps46
  go_wp2_with (go_at_call 29; refine ha.mono ?_; rintro e w1 ⟨rfl, rfl⟩)
  clear ha c1 c4 d0
  go_loopw [6, 31] (fun n i wr => ∃ k : Nat, k ≤ A.length ∧ i = .int .i64 k ∧ n = .int .i64 (autN T mode A k) ∧ Hid (IsBs wr b M T V (autA T mode A k) R) ∧ Hid (Kept (bfoot b M) w wr)) (fun _ i _ => A.length - (intOf i).toNat)
  case atStart => exact ⟨0, Nat.zero_le _, rfl, rfl, by rw [Hid, autA_zero]; exact HS.out, Kept.refl _ _⟩
  case round =>
    clear HS
    obtain ⟨k, hk, rfl, rfl, hS, hK⟩ := hrel
    have htl := autA_len T mode A k
    by_cases hkl : k < A.length
    · obtain ⟨a, ha, hma⟩ := at_of hkl
      have hat := autA_at T mode A k
      rw [ha] at hat
      have hts := autA_succ (T := T) (mode := mode) ha
      have hns := autN_succ (T := T) (mode := mode) ha
      have hnl := autN_le T mode A k
      obtain ⟨N, hN⟩ : ∃ N, autN T mode A k = N := ⟨_, rfl⟩
      obtain ⟨B, hB⟩ : ∃ B, autA T mode A k = B := ⟨_, rfl⟩
      rw [hN] at hns hnl ⊢
      rw [hB] at hS hts hat htl
      obtain ⟨x, hx, hmx⟩ := at_of (l := T.alarms) (k := k) (by omega)
      have hwx := HK.out.u x hmx
      obtain ⟨c, mx, mn, bs, hxc, hr, _, hmx2, _, _, hau⟩ := HK.out.al k x hx
      have hcl : c < T.counters.length := (List.getElem?_eq_some_iff.1 hr).1
      unfold auM at hts
      unfold isM at hns
      rw [hx] at hts hns
      obtain ⟨a1', k1', _, _, _, _, _, _, e1', hca, _⟩ := hS.out.bd.heads
      rw [E1.out] at e1'
      cases e1'
      obtain ⟨b6, o6, rfl, _, hl6⟩ := camel_at hca hx
      have e0 := hl6 0 _ rfl
      have e1 := hl6 1 _ rfl
      have e2 := hl6 2 _ rfl
      have e3 := hl6 3 _ rfl
      have e4 := hl6 4 _ rfl
      have e5 := hl6 5 _ rfl
      have e6 := hl6 6 _ rfl
      simp only [Nat.add_zero] at e0
      have hk0 : (0 : Int) ≤ (k : Int) := by omega
      have hk2 : (k : Int) < (T.alarms.length : Int) := by omega
      have HX := Lib.hid hx
      have HXC := Lib.hid hxc
      have HR := Lib.hid hr
      obtain ⟨xc, xk, xt, xm, xa, xi, xy⟩ := x
      dsimp only at e0 e1 e2 e3 e4 e5 e6 hwx hts hns hau
      have HTS := Lib.hid hts
      have HNS := Lib.hid hns
      have HAT := Lib.hid hat
      have HWX := Lib.hid hwx
      have HAU := Lib.hid hau
      clear hts hns hat hwx ha hma hx hmx hl6 hN hB hau hxc hr hca
      go_upto_region 9 with fail
      have nb := Blk.new wr [.int .i64 xc, .int .i64 xk, .int .i64 xt, .int .u32 xm, .int .u32 xa, .int .u32 xi, .int .u32 xy] 83
      have kb := (Kept.refl (fun _ => False) wr).alloc (.cells #[.int .i64 xc, .int .i64 xk, .int .i64 xt, .int .u32 xm, .int .u32 xa, .int .u32 xi, .int .u32 xy] 83)
      obtain ⟨w2, hw2⟩ : ∃ w2, wr.alloc (.cells #[.int .i64 xc, .int .i64 xk, .int .i64 xt, .int .u32 xm, .int .u32 xa, .int .u32 xi, .int .u32 xy] 83) = w2 := ⟨_, rfl⟩
      obtain ⟨g9, hg9⟩ : ∃ g, wr.heap.size = g := ⟨_, rfl⟩
      rw [hw2] at nb kb ⊢
      rw [hg9] at nb
      try rw [hg9]
      have NB := Lib.hid nb
      have y4 := nb.cell 4 rfl
      have HS2 := Lib.hid (hS.out.same kb)
      have HK2 : Hid (Kept (bfoot b M) w w2) := hK.out.then kb (fun _ x => x.elim)
      clear nb kb hw2 hg9 e0 e1 e2 e3 e4 e5 e6 hS hK
      have hm0 : (0 : Int) ≤ (mode : Int) := by omega
      have hm1 : ¬ (mode : Int) < 0 := by omega
      obtain ⟨sa, lf, cy⟩ := a
      have hbe := bit_eq HWX.out.1 hm8
      obtain ⟨bt, hbt⟩ : ∃ bt, bitOn xa mode = bt := ⟨_, rfl⟩
      rw [hbt] at hbe
      have HBT := Lib.hid hbt
      have stay : Hid ((bt && !sa) = false → autA T mode A (k + 1) = B ∧ autN T mode A (k + 1) = N) := fun h => by
        have h1 := HTS.out
        have h2 := HNS.out
        simp only [HBT.out] at h1 h2
        rw [h] at h1
        rw [if_neg Bool.false_ne_true, set_eq_of_getElem? HAT.out] at h1
        simp only [h] at h2
        exact ⟨h1, h2⟩
      cases bt with
      | false =>
        have hb0 : (bits .and .u32 (xa / 2 ^ mode) 1 == 0) = true := by
          rw [beq_iff_eq]
          exact Classical.byContradiction (fun h => by rw [bne_iff_ne.2 h] at hbe; cases hbe)
        obtain ⟨f1, f2⟩ := stay.out rfl
        have HS5 : Hid (IsBs w2 b M T V (autA T mode A (k + 1)) R) := by rw [Hid, f1]; exact HS2.out
        have F2 := Lib.hid f2
        clear stay HTS HNS f1 f2 HS2 hbe hbt
        go_wp2_with fail
        go_roundw
        case rel => exact ⟨k + 1, by omega, by go_num, by rw [F2.out], HS5, HK2⟩
        case measure => simp [intOf]; omega
      | true =>
        have hb0 : (bits .and .u32 (xa / 2 ^ mode) 1 == 0) = false := by
          rw [beq_eq_false_iff_ne]
          intro h
          rw [h] at hbe
          simp at hbe
        have hx0 := bit_on hbt
        obtain ⟨t1, t2, t3⟩ := HAU.out hx0
        obtain ⟨_, ⟨i0, i1⟩, ⟨j0, j1⟩⟩ := HWX.out
        obtain ⟨ni, rfl⟩ := Int.eq_ofNat_of_zero_le i0
        obtain ⟨ny, rfl⟩ := Int.eq_ofNat_of_zero_le j0
        have hF : (decide (1 ≤ ni) && decide (ni ≤ mx + 1) && decide (ny ≤ mx)) = true := by
          simp only [Bool.and_eq_true, decide_eq_true_eq]
          omega
        have HOF := Lib.hid (of_in HS2.out.bd HX.out HXC.out hcl HK.out.na)
        obtain ⟨_, cb, vv, _, _, hcb, hvv, _⟩ := HS2.out.bd.at hcl
        have HCB := Lib.hid hcb
        have HVV := Lib.hid hvv
        clear hcb hvv hbe hbt hx0 t1 t2 t3 i0 j0 HAU
        go_upto_region 11 with (go_at_call 31; refine HOF.out.mono ?_; rintro e w3 ⟨g, o, cv, e3, rfl, k3⟩)
        have hs3 := HS2.out.same k3
        obtain ⟨g', o', cc', e3', _, q0, _⟩ := hs3.bd.ctr HCB.out HVV.out
        rw [e3] at e3'
        cases e3'
        have nb3 := NB.out.kept k3 (fun x => x)
        have y5 := nb3.cell 5 rfl
        have y6 := nb3.cell 6 rfl
        have HS3 := Lib.hid hs3
        have HK3 : Hid (Kept (bfoot b M) w w3) := HK2.out.then k3 (fun _ x => x.elim)
        obtain ⟨m1, m2, m3, _, m5⟩ := mks (V := V) HX.out HXC.out HR.out HAT.out
        have SETF : Hid (∀ wz, Kept (fun _ => False) w3 wz → Calls Try.prog 77 #[.pointer (some ⟨cb.1, 0, none⟩), .int .i64 ((plc T k c : Nat) : Int), .int .u32 (ni : Int), .int .u32 (ny : Int)] wz fun e w' => e = .returned (.int .i64 (if sa then 7 else 0)) ∧ IsBs w' b M T V (autA T mode A (k + 1)) R ∧ Kept (bfoot b M) wz w') := fun wz kz => by
          have hsz := HS3.out.same kz
          refine (set_all ((plc T k c : Nat) : Int) ni ny (by omega) (hsz.bd.clk c _ cb m1 HCB.out)).mono ?_
          rintro e w' ⟨rfl, hc4, k4⟩
          have hl4 := putL_len (mkS T V B c).l ((plc T k c : Nat) : Int) (decide (1 ≤ ni) && decide (ni ≤ (mkS T V B c).mx + 1) && decide (ny ≤ (mkS T V B c).mx)) ni ny
          have hst := hsz.bd.step m1 HCB.out k4 hc4 hl4
          obtain ⟨f1, f2⟩ := put_mk (V := V) HX.out HXC.out hcl HAT.out (decide (1 ≤ ni) && decide (ni ≤ (mkS T V B c).mx + 1) && decide (ny ≤ (mkS T V B c).mx)) ni ny
          rw [f2, m2, hF] at hst
          rw [f1, m2, hF]
          rw [RB.putL_at HAT.out] at hst ⊢
          have hts := HTS.out
          rw [HBT.out] at hts
          simp only [Int.toNat_natCast] at hts
          have k5 : Kept (bfoot b M) wz w' := k4.mono (fun g _ h => Or.inr (Or.inr ⟨cb, List.mem_of_getElem? HCB.out, h⟩))
          cases sa with
          | true =>
            rw [(stay.out rfl).1]
            exact ⟨rfl, ⟨hst, HS3.out.lv, HS3.out.la, HS3.out.lr⟩, k5⟩
          | false =>
            rw [hts]
            exact ⟨rfl, ⟨hst, HS3.out.lv, by rw [List.length_set]; exact HS3.out.la, HS3.out.lr⟩, k5⟩
        clear HOF k3 hs3 nb3 e3 HS2 HK2 m1 m2 m3 m5 hF
        cases sa with
        | true =>
          have F2 := Lib.hid (stay.out rfl).2
          clear stay
          go_still_tail 9, (by kernel_rfl)
          go_wp2_with (go_at_call 77; refine (SETF.out _ (by exact (Kept.refl _ _).drew)).mono ?_; rintro e w4 ⟨rfl, hs4, k4⟩)
          go_wp2_with fail
          go_roundw
          case rel => exact ⟨k + 1, by omega, by go_num, by rw [F2.out], hs4, (HK3.out.drew).then k4 (fun _ x => Or.inl x)⟩
          case measure => simp [intOf]; omega
        | false =>
          have F2 : Hid (autN T mode A (k + 1) = N + 1) := by
            have h := HNS.out
            simp only [HBT.out] at h
            exact h
          clear stay
          go_still_tail 9, (by kernel_rfl)
          go_wp2_with (go_at_call 77; refine (SETF.out _ (by exact (Kept.refl _ _).drew)).mono ?_; rintro e w4 ⟨rfl, hs4, k4⟩)
          go_wp2_with fail
          go_roundw
          case rel => exact ⟨k + 1, by omega, by go_num, by rw [F2.out]; go_num, hs4, (HK3.out.drew).then k4 (fun _ x => Or.inl x)⟩
          case measure => simp [intOf]; omega
    · obtain rfl : k = A.length := by omega
      go_wp2_with fail
      go_ret2
      exact ⟨rfl, hS.out, hK.out⟩
end
end Go.Proofs.Ytemhfonneggneaa.BS
