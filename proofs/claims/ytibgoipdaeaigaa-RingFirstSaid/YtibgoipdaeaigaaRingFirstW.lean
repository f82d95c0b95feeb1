/- P12.7, the walk of RingFirst. -/
import Derived.Test.YtibgoipdaeaigaaRngH
namespace Go.Proofs.Ytibgoipdaeaigaa.ringFirstW
open Go.RowKit Go.Fr Go.Proofs.Ytibgoipdaeaigaa.RI Go.Proofs.Ytibgoipdaeaigaa.RK

set_option maxRecDepth 100000 in
set_option maxHeartbeats 8000000 in
theorem walk (w : World) (a0 : Int) (w0 : (Lit.int .u8 a0).wf = true) (a1 : Option Addr) (cap1 : Nat) (l1 : List Int) (hl1 : l1.length ≤ cap1) (hm1 : cap1 ≤ maxLen) (hc1 : CameL w 1 (encK .i64) a1 l1)
    (hw1 : ∀ x ∈ l1, (Lit.int .i64 x).wf = true) (hr1 : l1.length * 8 ≤ 140737488351232) (a2 : Option Addr) (cap2 : Nat) (l2 : List Int) (hl2 : l2.length ≤ cap2) (hm2 : cap2 ≤ maxLen) (hc2 : CameL w 1 (encK .i64) a2 l2)
    (hw2 : ∀ x ∈ l2, (Lit.int .i64 x).wf = true) (hr2 : l2.length * 8 ≤ 140737488351232) :
    Calls Try.prog 6 #[.int .u8 a0, .slice a1 l1.length cap1, .slice a2 l2.length cap2] w fun e w' => e = .returned (.bool true) ∧ Below w.heap.size w w' := by
  unfold maxLen at hm1 hm2
  obtain ⟨D, rfl, hD⟩ := u8_nat w0
  clear hw1 hw2 w0
  obtain ⟨i0, hi, hz0, hz1, hz2⟩ := info_parts RI.info
  have hal : ∀ w : World, Calls Try.prog 14 #[] w fun e w' => e = .returned (.bool true) ∧ Kept (fun _ => False) w w' := fun w => RS.alive_law w
  have hcv : IntKind.i64.wrap (D : Int) = (D : Int) := IntWalk.i64_in _ (by omega)
  go_enter Try.func6, Try.ntmps6
  go_wp2_with fail
  refine (RI.new_ok D w (by omega)).mono ?_
  rintro e w1 ⟨rfl, s1, ks, z1⟩
  have hS := Lib.hid (st_new s1 ks)
  clear s1 ks
  go_wp2_with fail
  go_loopw [9, 10] (fun s i wr => ∃ (k : Nat) (Q : List Int) (ao : Option Addr) (c : Nat), k ≤ l1.length ∧ Q.length ≤ k ∧ Q.length ≤ D ∧ (Q.length < D → Q.length = k) ∧ i = .int .i64 k ∧ s = .slice ao Q.length c ∧
      Hid (St w.heap.size w wr w.heap.size D Q.length Q (.slice ao Q.length c) Q)) (fun _ i _ => l1.length - (intOf i).toNat)
  case atStart => exact ⟨0, [], none, 0, Nat.zero_le _, Nat.zero_le _, Nat.zero_le _, fun _ => rfl, rfl, rfl, hS⟩
  case round =>
    clear hS z1
    obtain ⟨k, P, ao, c, hk, hPk, hPD, hPe, rfl, rfl, hS⟩ := hrel
    have HPe := Lib.hid hPe
    clear hPe
    have hk0 : (0 : Int) ≤ (k : Int) := Int.natCast_nonneg _
    by_cases hkl : k < l1.length
    · have hk1 : (k : Int) < (l1.length : Int) := by omega
      obtain ⟨x, hx⟩ : ∃ x, l1[k]? = some x := ⟨_, List.getElem?_eq_getElem hkl⟩
      obtain ⟨ab, off, rfl, hab, e1⟩ := elem_int hc1 hS.out.below hx
      have Hx := Lib.hid hx
      have Hc := Lib.hid hc1
      clear hx hc1
      rcases Nat.lt_or_ge P.length D with hroom | hfull
      · go_wp2_with fail
        refine (st_last x hS.out hroom).mono ?_
        rintro e w2 ⟨rfl, hS2⟩
        have hS2 := Lib.hid hS2
        clear e1
        have e1 := cell_int Hc.out hS2.out.below Hx.out
        go_wp2_with (first
          | (go_at_call 11; refine (RS.num_ok _ _).mono ?_; rintro e w3 ⟨rfl, rfl⟩)
          | (at_builtin; refine wpList_append_any rfl (.tmp 37) (.tmp 42) 35 rfl 3 i0 (.int .i64 0) 1 8 Try.underlying35 hi hz0 hz1 hz2 rfl (by decide) _ _ _ (P.map (Value.int .i64)) rfl ?hrow _ 1 1 [.int .i64 x] rfl ?hnew (by simp [Value.oneCell']) ?b1 ?b2 ?_))
        case hrow => exact row_alloc hS2.out.rows _
        case hnew => exact shows_new _ [_] _ (by simp) rfl
        case b1 => unfold maxLen; omega
        case b2 => omega
        intro ao5 c5 w5 r1 r2 r3
        have hS5 := hS2.out.list (vp' := .slice ao5 (P.length + 1) c5) (P' := P ++ [x]) (((Kept.refl _ _).alloc _).grown r2 (fun k hk => Or.inl hk)) (by simpa using r1) (fun g hg => (r3 g hg).imp id (fun h => by first | omega | (simp at h; omega)))
        rw [mxi_succ] at hS5
        obtain ⟨Q, hQ⟩ : ∃ Q, P ++ [x] = Q := ⟨_, rfl⟩
        have hQl : P.length + 1 = Q.length := by rw [← hQ]; simp
        rw [hQ, hQl] at hS5
        have hT := Lib.hid hS5
        rw [hQl]
        clear hS5 r1 r2 r3 hQ hS hS2 e1
        have hPe := HPe.out hroom
        have H1 := Lib.hid hPe
        have H2 := Lib.hid hQl
        clear hPe hQl
        go_wp2_with fail
        go_roundw
        case rel =>
          have := H1.out
          have := H2.out
          exact ⟨k + 1, Q, ao5, c5, by omega, by omega, by omega, fun _ => by omega, by go_num, rfl, hT⟩
        case measure => simp [intOf]; omega
      · go_wp2_with fail
        refine (st_full x hS.out hfull).mono ?_
        rintro e w2 ⟨rfl, hS2⟩
        have hS2 := Lib.hid hS2
        clear e1
        go_wp2_with (go_at_call 11; refine (RS.num_ok _ _).mono ?_; rintro e w3 ⟨rfl, rfl⟩)
        go_roundw
        case rel => exact ⟨k + 1, P, ao, c, by omega, by omega, by omega, fun h => by omega, by go_num, rfl, hS2⟩
        case measure => simp [intOf]; omega
    · obtain rfl : k = l1.length := by omega
      clear hkl
      go_wp2
      go_loopw [9, 11] (fun s i wr => ∃ (k : Nat) (Q : List Int) (ao : Option Addr) (c : Nat), k ≤ l2.length ∧ Q.length ≤ l1.length + k ∧ Q.length ≤ D ∧ (Q.length < D → Q.length = l1.length + k) ∧ i = .int .i64 k ∧ s = .slice ao Q.length c ∧
          Hid (St w.heap.size w wr w.heap.size D Q.length Q (.slice ao Q.length c) Q)) (fun _ i _ => l2.length - (intOf i).toNat)
      case atStart => exact ⟨0, P, ao, c, Nat.zero_le _, hPk, hPD, HPe.out, rfl, rfl, hS⟩
      case round =>
        clear hS HPe hPk hPD hk0 hk
        obtain ⟨k, P, ao, c, hk, hPk, hPD, hPe, rfl, rfl, hS⟩ := hrel
        have HPe := Lib.hid hPe
        clear hPe
        have hk0 : (0 : Int) ≤ (k : Int) := Int.natCast_nonneg _
        by_cases hkl : k < l2.length
        · have hk1 : (k : Int) < (l2.length : Int) := by omega
          obtain ⟨x, hx⟩ : ∃ x, l2[k]? = some x := ⟨_, List.getElem?_eq_getElem hkl⟩
          obtain ⟨ab, off, rfl, hab, e1⟩ := elem_int hc2 hS.out.below hx
          have Hx := Lib.hid hx
          have Hc := Lib.hid hc2
          clear hx hc2
          rcases Nat.lt_or_ge P.length D with hroom | hfull
          · go_wp2_with fail
            refine (st_first x hS.out hroom).mono ?_
            rintro e w2 ⟨rfl, hS2⟩
            have hS2 := Lib.hid hS2
            clear e1
            have e1 := cell_int Hc.out hS2.out.below Hx.out
            go_wp2_with (first
              | (go_at_call 11; refine (RS.num_ok _ _).mono ?_; rintro e w3 ⟨rfl, rfl⟩)
              | (at_builtin; refine wpList_append_any rfl (.tmp 62) (.tmp 63) 35 rfl 3 i0 (.int .i64 0) 1 8 Try.underlying35 hi hz0 hz1 hz2 rfl (by decide) (some ⟨w2.heap.size, 0, none⟩) 1 1 [.int .i64 x] rfl ?hrow _ P.length _ (P.map (Value.int .i64)) rfl ?hnew (ints_one P) ?b1 ?b2 ?_))
            case hrow => exact row_new w2 3 1 1 [.int .i64 x] rfl (by unfold maxLen; omega)
            case hnew => exact (row_alloc hS2.out.rows _).shows
            case b1 => unfold maxLen; omega
            case b2 => omega
            intro ao5 c5 w5 r1 r2 r3
            have hS5 := hS2.out.list (vp' := .slice ao5 (1 + P.length) c5) (P' := x :: P) (((Kept.refl _ _).alloc _).grown r2 (fun k hk => by simp [Value.ownBlock] at hk; right; omega)) (by simpa [Nat.add_comm] using r1) (fun g hg => (r3 g hg).elim (fun h => by simp [Value.ownBlock] at h; right; omega) (fun h => by right; first | omega | (simp at h; omega)))
            rw [mxi_succ] at hS5
            obtain ⟨Q, hQ⟩ : ∃ Q, x :: P = Q := ⟨_, rfl⟩
            have hQl : P.length + 1 = Q.length := by rw [← hQ]; simp
            have hQl' : 1 + P.length = Q.length := by omega
            rw [hQ, hQl, hQl'] at hS5
            have hT := Lib.hid hS5
            rw [hQl']
            clear hS5 r1 r2 r3 hQ hS hS2 e1 hQl'
            have hPe := HPe.out hroom
            have H1 := Lib.hid hPe
            have H2 := Lib.hid hQl
            clear hPe hQl
            go_wp2_with fail
            go_roundw
            case rel =>
              have := H1.out
              have := H2.out
              exact ⟨k + 1, Q, ao5, c5, by omega, by omega, by omega, fun _ => by omega, by go_num, rfl, hT⟩
            case measure => simp [intOf]; omega
          · go_wp2_with fail
            refine (st_full1 x hS.out hfull).mono ?_
            rintro e w2 ⟨rfl, hS2⟩
            have hS2 := Lib.hid hS2
            clear e1
            go_wp2_with (go_at_call 11; refine (RS.num_ok _ _).mono ?_; rintro e w3 ⟨rfl, rfl⟩)
            go_roundw
            case rel => exact ⟨k + 1, P, ao, c, by omega, by omega, by omega, fun h => by omega, by go_num, rfl, hS2⟩
            case measure => simp [intOf]; omega
        · obtain rfl : k = l2.length := by omega
          clear hkl
          have hv1 : ¬ (D : Int) < (P.length : Int) := by omega
          have hv2 : decide (D < P.length) = false := by simp; omega
          have hsum : IntKind.i64.wrap ((l1.length : Int) + l2.length) = (l1.length : Int) + l2.length := IntWalk.i64_in _ (by omega)
          go_wp2_with fail
          refine (st_len hS.out).mono ?_
          rintro e w3 ⟨rfl, rfl⟩
          by_cases hDl : (P.length : Int) < (D : Int)
          · have he : (P.length : Int) = (l1.length : Int) + l2.length := by have := HPe.out (by omega); omega
            have heb : ((P.length : Int) == (l1.length : Int) + l2.length) = true := by simp [he]
            have hnb : ((P.length : Int) != (l1.length : Int) + l2.length) = false := by simp [he]
            have HE := Lib.hid he
            clear he
            go_wp2_with fail
            refine (st_high hS.out).mono ?_
            rintro e w3 ⟨rfl, rfl⟩
            go_wp2_with fail
            clear hDl heb hnb hv1 hv2 hsum
            clear HPe hPk
            go_loopw [12] (fun q wr => ∃ o : Nat, o ≤ P.length ∧ q = .int .i64 o ∧ Hid (∃ high, St w.heap.size w wr w.heap.size D high (P.drop o) (.slice ao P.length c) P)) (fun q _ => P.length - (intOf q).toNat)
            case atStart => exact ⟨0, Nat.zero_le _, rfl, ⟨_, by simpa using hS.out⟩⟩
            case round =>
              clear hS
              obtain ⟨o, hoP, rfl, hS⟩ := hrel
              obtain ⟨high, hS⟩ := hS.out
              have ho0 : (0 : Int) ≤ (o : Int) := Int.natCast_nonneg _
              have hb := hS.len
              by_cases hlt : o < P.length
              · have ho1 : (o : Int) < (P.length : Int) := by omega
                obtain ⟨z, hz⟩ : ∃ z, P[o]? = some z := ⟨_, List.getElem?_eq_getElem hlt⟩
                have hd : P.drop o = z :: P.drop (o + 1) := drop_at hz
                rw [hd] at hS
                have HT6 := Lib.hid hS
                clear hS hd hb
                obtain ⟨gq, rfl, hcq⟩ := row_int HT6.out.rows hz
                go_wp2_with fail
                refine (st_take HT6.out).mono ?_
                rintro e w7 ⟨rfl, hT7⟩
                have HT7 := Lib.hid hT7
                clear hT7 hcq
                obtain ⟨gq', hgq', hcq⟩ := row_int HT7.out.rows hz
                cases hgq'
                clear hz
                go_wp2_with (go_at_call 11; refine (RS.num_ok _ _).mono ?_; rintro e w3 ⟨rfl, rfl⟩)
                go_roundw
                case rel => exact ⟨o + 1, by omega, by go_num, ⟨_, HT7.out⟩⟩
                case measure => simp [intOf]; omega
              · have ho1 : ¬ (o : Int) < (P.length : Int) := by omega
                have HS := Lib.hid hS
                clear hS hb
                go_wp2_with fail
                refine (hal _).mono ?_
                rintro e w9 ⟨rfl, k9⟩
                go_wp2
                go_ret
                exact ⟨rfl, (HS.out.kept k9).below⟩
          · have hDl' : decide ((P.length : Int) < (D : Int)) = false := by simpa using hDl
            go_wp2_with fail
            refine (st_high hS.out).mono ?_
            rintro e w3 ⟨rfl, rfl⟩
            go_wp2_with fail
            clear hDl hDl' hv1 hv2 hsum
            clear HPe hPk
            go_loopw [12] (fun q wr => ∃ o : Nat, o ≤ P.length ∧ q = .int .i64 o ∧ Hid (∃ high, St w.heap.size w wr w.heap.size D high (P.drop o) (.slice ao P.length c) P)) (fun q _ => P.length - (intOf q).toNat)
            case atStart => exact ⟨0, Nat.zero_le _, rfl, ⟨_, by simpa using hS.out⟩⟩
            case round =>
              clear hS
              obtain ⟨o, hoP, rfl, hS⟩ := hrel
              obtain ⟨high, hS⟩ := hS.out
              have ho0 : (0 : Int) ≤ (o : Int) := Int.natCast_nonneg _
              have hb := hS.len
              by_cases hlt : o < P.length
              · have ho1 : (o : Int) < (P.length : Int) := by omega
                obtain ⟨z, hz⟩ : ∃ z, P[o]? = some z := ⟨_, List.getElem?_eq_getElem hlt⟩
                have hd : P.drop o = z :: P.drop (o + 1) := drop_at hz
                rw [hd] at hS
                have HT6 := Lib.hid hS
                clear hS hd hb
                obtain ⟨gq, rfl, hcq⟩ := row_int HT6.out.rows hz
                go_wp2_with fail
                refine (st_take HT6.out).mono ?_
                rintro e w7 ⟨rfl, hT7⟩
                have HT7 := Lib.hid hT7
                clear hT7 hcq
                obtain ⟨gq', hgq', hcq⟩ := row_int HT7.out.rows hz
                cases hgq'
                clear hz
                go_wp2_with (go_at_call 11; refine (RS.num_ok _ _).mono ?_; rintro e w3 ⟨rfl, rfl⟩)
                go_roundw
                case rel => exact ⟨o + 1, by omega, by go_num, ⟨_, HT7.out⟩⟩
                case measure => simp [intOf]; omega
              · have ho1 : ¬ (o : Int) < (P.length : Int) := by omega
                have HS := Lib.hid hS
                clear hS hb
                go_wp2_with fail
                refine (hal _).mono ?_
                rintro e w9 ⟨rfl, k9⟩
                go_wp2
                go_ret
                exact ⟨rfl, (HS.out.kept k9).below⟩
end Go.Proofs.Ytibgoipdaeaigaa.ringFirstW
