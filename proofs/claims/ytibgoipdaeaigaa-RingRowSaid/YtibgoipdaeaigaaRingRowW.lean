/- P12.7, the walk of RingRow. PRINTED by genringrow.py. -/
import Derived.Test.YtibgoipdaeaigaaRngH
namespace Go.Proofs.Ytibgoipdaeaigaa.ringRowW
open Go.RowKit Go.Fr Go.Proofs.Ytibgoipdaeaigaa.RI Go.Proofs.Ytibgoipdaeaigaa.RK

set_option maxRecDepth 100000 in
set_option maxHeartbeats 8000000 in
theorem walk (w : World) (a0 : Int) (w0 : (Lit.int .u8 a0).wf = true) (a1 : Option Addr) (cap1 : Nat) (l1 : List Int) (hl1 : l1.length ≤ cap1) (hm1 : cap1 ≤ maxLen) (hc1 : CameL w 1 (encK .i64) a1 l1)
    (hw1 : ∀ x ∈ l1, (Lit.int .i64 x).wf = true) (hr1 : l1.length * 8 ≤ 140737488351232) (a2 : Option Addr) (cap2 : Nat) (l2 : List Bool) (hl2 : l2.length ≤ cap2) (hm2 : cap2 ≤ maxLen) (hc2 : CameL w 1 encB a2 l2)
    (hw2 : ∀ x ∈ l2, True) (hr2 : l2.length * 1 ≤ 140737488351232) :
    Calls Try.prog 5 #[.int .u8 a0, .slice a1 l1.length cap1, .slice a2 l2.length cap2] w fun e w' => e = .returned (.bool true) ∧ Below w.heap.size w w' := by
  unfold maxLen at hm1 hm2
  obtain ⟨D, rfl, hD⟩ := u8_nat w0
  clear hw1 hw2 w0
  obtain ⟨i0, hi, hz0, hz1, hz2⟩ := info_parts RI.info
  have hal : ∀ w : World, Calls Try.prog 14 #[] w fun e w' => e = .returned (.bool true) ∧ Kept (fun _ => False) w w' := fun w => RS.alive_law w
  have hcv : IntKind.i64.wrap (D : Int) = (D : Int) := IntWalk.i64_in _ (by omega)
  go_enter Try.func5, Try.ntmps5
  go_wp2_with fail
  refine (RI.new_ok D w (by omega)).mono ?_
  rintro e w1 ⟨rfl, s1, ks, z1⟩
  have hS := Lib.hid (st_new s1 ks)
  clear s1 ks
  go_wp2_with (go_at_call 11; refine (RS.num_ok _ _).mono ?_; rintro e w3 ⟨rfl, rfl⟩)
  go_loopw [9, 10, 11, 12] (fun p q s i wr => ∃ (k o : Nat) (Q : List Int) (high : Int) (ao : Option Addr) (c : Nat), k ≤ l1.length ∧ Q.length ≤ k ∧ o ≤ Q.length ∧ i = .int .i64 k ∧ p = .int .i64 Q.length ∧ q = .int .i64 o ∧ s = .slice ao Q.length c ∧
      Hid (St w.heap.size w wr w.heap.size D high (Q.drop o) (.slice ao Q.length c) Q)) (fun _ _ _ i _ => l1.length - (intOf i).toNat)
  case atStart => exact ⟨0, 0, [], 0, none, 0, Nat.zero_le _, Nat.zero_le _, Nat.zero_le _, rfl, rfl, rfl, rfl, hS⟩
  case round =>
    clear hS z1
    obtain ⟨k, o, P, high, ao, c, hk, hPk, hoP, rfl, rfl, rfl, rfl, hS⟩ := hrel
    have hk0 : (0 : Int) ≤ (k : Int) := Int.natCast_nonneg _
    have hlen := hS.out.len
    rw [List.length_drop] at hlen
    by_cases hkl : k < l1.length
    · have hk1 : (k : Int) < (l1.length : Int) := by omega
      obtain ⟨x, hx⟩ : ∃ x, l1[k]? = some x := ⟨_, List.getElem?_eq_getElem hkl⟩
      obtain ⟨ab, off, rfl, hab, e1⟩ := elem_int hc1 hS.out.below hx
      have Hx := Lib.hid hx
      have Hc := Lib.hid hc1
      clear hx hc1
      rcases Nat.lt_or_ge (P.length - o) D with hroom | hfull
      · have hsub : IntKind.i64.wrap ((P.length : Int) - o) = (P.length : Int) - o := IntWalk.i64_in _ (by omega)
        have hcmp : ((P.length : Int) - o < (D : Int)) := by omega
        go_wp2_with fail
        refine (st_last x hS.out (by rw [List.length_drop]; omega)).mono ?_
        rintro e w2 ⟨rfl, hS2⟩
        have hS2 := Lib.hid hS2
        clear e1
        have e1 := cell_int Hc.out hS2.out.below Hx.out
        go_wp2_with (first
          | (go_at_call 11; refine (RS.num_ok _ _).mono ?_; rintro e w3 ⟨rfl, rfl⟩)
          | (at_builtin; refine wpList_append_any rfl (.tmp 56) (.tmp 61) 35 rfl 3 i0 (.int .i64 0) 1 8 Try.underlying35 hi hz0 hz1 hz2 rfl (by decide) _ _ _ (P.map (Value.int .i64)) rfl ?hrow _ 1 1 [.int .i64 x] rfl ?hnew (by simp [Value.oneCell']) ?b1 ?b2 ?_))
        case hrow => exact row_alloc hS2.out.rows _
        case hnew => exact shows_new _ [_] _ (by simp) rfl
        case b1 => unfold maxLen; omega
        case b2 => omega
        intro ao5 c5 w5 r1 r2 r3
        have hS5 := hS2.out.list (vp' := .slice ao5 (P.length + 1) c5) (P' := P ++ [x]) (((Kept.refl _ _).alloc _).grown r2 (fun k hk => Or.inl hk)) (by simpa using r1) (fun g hg => (r3 g hg).imp id (fun h => by first | omega | (simp at h; omega)))
        obtain ⟨Q, hQ⟩ : ∃ Q, P ++ [x] = Q := ⟨_, rfl⟩
        have hQl : P.length + 1 = Q.length := by rw [← hQ]; simp
        have hQd : P.drop o ++ [x] = Q.drop o := by rw [← hQ, List.drop_append_of_le_length hoP]
        rw [hQ, hQd, hQl] at hS5
        have hQl' : (P.length : Int) + 1 = (Q.length : Int) := by omega
        have hT := Lib.hid hS5
        have hoQ : o ≤ Q.length := by omega
        have hQk : Q.length ≤ k + 1 := by omega
        rw [hQl]
        clear hS5 r1 r2 r3 hQ hQd hS hS2 e1 hcmp hsub hQl hlen
        by_cases ht : k < l2.length
        · obtain ⟨t, hxt⟩ : ∃ t, l2[k]? = some t := ⟨_, List.getElem?_eq_getElem ht⟩
          obtain ⟨ab2, off2, rfl, hab2, e2⟩ := elem_bool hc2 hT.out.below hxt
          have hk2 : (k : Int) < (l2.length : Int) := by omega
          cases t with
          | false =>
            go_wp2_with fail
            go_roundw
            case rel => exact ⟨k + 1, o, Q, _, ao5, c5, by omega, by omega, hoQ, by go_num, rfl, rfl, rfl, hT⟩
            case measure => simp [intOf]; omega
          | true =>
            rcases Nat.lt_or_ge o Q.length with hlt | hge
            · obtain ⟨z, hz⟩ : ∃ z, Q[o]? = some z := ⟨_, List.getElem?_eq_getElem hlt⟩
              have hd : Q.drop o = z :: Q.drop (o + 1) := drop_at hz
              have hT6 := hT.out
              rw [hd] at hT6
              have HT6 := Lib.hid hT6
              clear hT6 hd
              obtain ⟨gq, rfl, hcq⟩ := row_int HT6.out.rows hz
              have ho1 : (o : Int) < (Q.length : Int) := by omega
              have ho0 : (0 : Int) ≤ (o : Int) := Int.natCast_nonneg _
              go_wp2_with fail
              refine (st_take HT6.out).mono ?_
              rintro e w7 ⟨rfl, hT7⟩
              have HT7 := Lib.hid hT7
              clear hT7 hcq
              obtain ⟨gq', hgq', hcq⟩ := row_int HT7.out.rows hz
              cases hgq'
              clear hz
              go_wp2_with (go_at_call 11; refine (RS.num_ok _ _).mono ?_; rintro e w3 ⟨rfl, rfl⟩)
              go_roundw
              case rel => exact ⟨k + 1, o + 1, Q, _, _, c5, by omega, by omega, by omega, by go_num, rfl, by go_num, rfl, HT7⟩
              case measure => simp [intOf]; omega
            · obtain rfl : o = Q.length := by omega
              have hT6 := hT.out
              rw [List.drop_length] at hT6
              have HT6 := Lib.hid hT6
              clear hT6
              go_wp2_with fail
              refine (st_none HT6.out).mono ?_
              rintro e w7 ⟨rfl, hT7⟩
              have HT7 := Lib.hid hT7
              clear hT7
              go_wp2_with (go_at_call 11; refine (RS.num_ok _ _).mono ?_; rintro e w3 ⟨rfl, rfl⟩)
              go_roundw
              case rel => exact ⟨k + 1, Q.length, Q, _, ao5, c5, by omega, by omega, by omega, by go_num, rfl, rfl, rfl, by rw [List.drop_length]; exact HT7⟩
              case measure => simp [intOf]; omega
        · have hk2 : ¬ (k : Int) < (l2.length : Int) := by omega
          go_wp2_with fail
          go_roundw
          case rel => exact ⟨k + 1, o, Q, _, ao5, c5, by omega, by omega, hoQ, by go_num, rfl, rfl, rfl, hT⟩
          case measure => simp [intOf]; omega
      · have hsub : IntKind.i64.wrap ((P.length : Int) - o) = (P.length : Int) - o := IntWalk.i64_in _ (by omega)
        have hcmp : ¬ ((P.length : Int) - o < (D : Int)) := by omega
        go_wp2_with fail
        refine (st_full x hS.out (by rw [List.length_drop]; omega)).mono ?_
        rintro e w2 ⟨rfl, hS2⟩
        have hT := Lib.hid hS2
        obtain ⟨Q, rfl⟩ : ∃ Q, Q = P := ⟨_, rfl⟩
        obtain ⟨ao5, rfl⟩ : ∃ a, a = ao := ⟨_, rfl⟩
        obtain ⟨c5, rfl⟩ : ∃ a, a = c := ⟨_, rfl⟩
        have hoQ := hoP
        clear hS2 hS e1
        go_upto_region 14 with (go_at_call 11; refine (RS.num_ok _ _).mono ?_; rintro e w3 ⟨rfl, rfl⟩)
        clear hcmp hsub hlen
        by_cases ht : k < l2.length
        · obtain ⟨t, hxt⟩ : ∃ t, l2[k]? = some t := ⟨_, List.getElem?_eq_getElem ht⟩
          obtain ⟨ab2, off2, rfl, hab2, e2⟩ := elem_bool hc2 hT.out.below hxt
          have hk2 : (k : Int) < (l2.length : Int) := by omega
          cases t with
          | false =>
            go_wp2_with fail
            go_roundw
            case rel => exact ⟨k + 1, o, Q, _, ao5, c5, by omega, by omega, hoQ, by go_num, rfl, rfl, rfl, hT⟩
            case measure => simp [intOf]; omega
          | true =>
            rcases Nat.lt_or_ge o Q.length with hlt | hge
            · obtain ⟨z, hz⟩ : ∃ z, Q[o]? = some z := ⟨_, List.getElem?_eq_getElem hlt⟩
              have hd : Q.drop o = z :: Q.drop (o + 1) := drop_at hz
              have hT6 := hT.out
              rw [hd] at hT6
              have HT6 := Lib.hid hT6
              clear hT6 hd
              obtain ⟨gq, rfl, hcq⟩ := row_int HT6.out.rows hz
              have ho1 : (o : Int) < (Q.length : Int) := by omega
              have ho0 : (0 : Int) ≤ (o : Int) := Int.natCast_nonneg _
              go_wp2_with fail
              refine (st_take HT6.out).mono ?_
              rintro e w7 ⟨rfl, hT7⟩
              have HT7 := Lib.hid hT7
              clear hT7 hcq
              obtain ⟨gq', hgq', hcq⟩ := row_int HT7.out.rows hz
              cases hgq'
              clear hz
              go_wp2_with (go_at_call 11; refine (RS.num_ok _ _).mono ?_; rintro e w3 ⟨rfl, rfl⟩)
              go_roundw
              case rel => exact ⟨k + 1, o + 1, Q, _, _, c5, by omega, by omega, by omega, by go_num, rfl, by go_num, rfl, HT7⟩
              case measure => simp [intOf]; omega
            · obtain rfl : o = Q.length := by omega
              have hT6 := hT.out
              rw [List.drop_length] at hT6
              have HT6 := Lib.hid hT6
              clear hT6
              go_wp2_with fail
              refine (st_none HT6.out).mono ?_
              rintro e w7 ⟨rfl, hT7⟩
              have HT7 := Lib.hid hT7
              clear hT7
              go_wp2_with (go_at_call 11; refine (RS.num_ok _ _).mono ?_; rintro e w3 ⟨rfl, rfl⟩)
              go_roundw
              case rel => exact ⟨k + 1, Q.length, Q, _, ao5, c5, by omega, by omega, by omega, by go_num, rfl, rfl, rfl, by rw [List.drop_length]; exact HT7⟩
              case measure => simp [intOf]; omega
        · have hk2 : ¬ (k : Int) < (l2.length : Int) := by omega
          go_wp2_with fail
          go_roundw
          case rel => exact ⟨k + 1, o, Q, _, ao5, c5, by omega, by omega, hoQ, by go_num, rfl, rfl, rfl, hT⟩
          case measure => simp [intOf]; omega
    · have hk1 : ¬ (k : Int) < (l1.length : Int) := by omega
      go_wp2
      go_loopw [10] (fun q wr => ∃ o : Nat, o ≤ P.length ∧ q = .int .i64 o ∧ Hid (∃ high, St w.heap.size w wr w.heap.size D high (P.drop o) (.slice ao P.length c) P)) (fun q _ => P.length - (intOf q).toNat)
      case atStart => exact ⟨o, hoP, rfl, ⟨_, hS.out⟩⟩
      case round =>
        clear hS hoP hlen
        obtain ⟨o, hoP, rfl, hS⟩ := hrel
        obtain ⟨high, hS⟩ := hS.out
        have ho0 : (0 : Int) ≤ (o : Int) := Int.natCast_nonneg _
        by_cases hlt : o < P.length
        · have ho1 : (o : Int) < (P.length : Int) := by omega
          obtain ⟨z, hz⟩ : ∃ z, P[o]? = some z := ⟨_, List.getElem?_eq_getElem hlt⟩
          have hd : P.drop o = z :: P.drop (o + 1) := drop_at hz
          rw [hd] at hS
          have HT6 := Lib.hid hS
          clear hS hd
          obtain ⟨gq, rfl, hcq⟩ := row_int HT6.out.rows hz
          go_wp2_with fail
          refine (st_take HT6.out).mono ?_
          rintro e w7 ⟨rfl, hT7⟩
          have HT7 := Lib.hid hT7
          clear hT7 hcq
          obtain ⟨gq', hgq', hcq⟩ := row_int HT7.out.rows hz
          cases hgq'
          clear hz
          go_wp2_with (go_at_call 11; refine (RS.num_ok _ _).mono ?_; rintro e w3 ⟨rfl, rfl⟩)
          go_roundw
          case rel => exact ⟨o + 1, by omega, by go_num, ⟨_, HT7.out⟩⟩
          case measure => simp [intOf]; omega
        · have ho1 : ¬ (o : Int) < (P.length : Int) := by omega
          obtain rfl : o = P.length := by omega
          rw [List.drop_length] at hS
          have HS := Lib.hid hS
          clear hS
          go_wp2_with fail
          refine (st_len HS.out).mono ?_
          rintro e w8 ⟨rfl, rfl⟩
          go_wp2_with fail
          refine (hal _).mono ?_
          rintro e w9 ⟨rfl, k9⟩
          go_wp2
          go_ret
          exact ⟨rfl, (HS.out.kept k9).below⟩
end Go.Proofs.Ytibgoipdaeaigaa.ringRowW
