/- Package table: rings; slices.Equal over rings' rows. -/
import Derived.Test.YtnfpiocjdhipcaaTbD
namespace Go.Proofs.Ytnfpiocjdhipcaa.TC
open Go.RowKit Go.Fr Go.Tb
attribute [local go_sem] Oper.semAt_some

abbrev encG : Int × Int → List Value := encKK .i64 .i64
theorem infoG : (Try.prog.info? 117).map (fun i => (i.zero, i.size, i.bytes)) = some (some (.agg #[.int .i64 0, .int .i64 0]), 2, 16) := by kernel_rfl

/-- the sum of the limits of a priority's tasks -/
def sumAt (l : List TaskR) (p : Int) : Int := (l.map (fun x => if x.pr = p then x.limit else 0)).sum
/-- the rings of the priorities below q, falling -/
def ringsB (l : List TaskR) : Nat → List (Int × Int)
  | 0 => []
  | q + 1 => (if 0 < sumAt l q then [((q : Int), sumAt l q)] else []) ++ ringsB l q
theorem sumAt_take {l : List TaskR} {k : Nat} {x : TaskR} (p : Int) (hx : l[k]? = some x) : sumAt (l.take (k + 1)) p = sumAt (l.take k) p + (if x.pr = p then x.limit else 0) := by
  rw [List.take_add_one, hx]
  simp [sumAt]
theorem sumAt_le {l : List TaskR} (p : Int) (h : ∀ x ∈ l, 0 ≤ x.limit ∧ x.limit ≤ 255) : 0 ≤ sumAt l p ∧ sumAt l p ≤ 255 * l.length := by
  induction l with
  | nil => simp [sumAt]
  | cons a l ih =>
    have h1 := h a (by simp)
    have h2 := ih (fun x hx => h x (by simp [hx]))
    have h3 : sumAt (a :: l) p = (if a.pr = p then a.limit else 0) + sumAt l p := by simp [sumAt]
    rw [h3]
    simp only [List.length_cons]
    split <;> omega
theorem ringsB_len (l : List TaskR) : ∀ q, (ringsB l q).length ≤ q
  | 0 => by simp [ringsB]
  | q + 1 => by
    have := ringsB_len l q
    rw [ringsB, List.length_append]
    split <;> simp <;> omega

structure Rb (w wr : World) (ao : Option Addr) (c : Nat) (O : List (Int × Int)) : Prop where
  row : Row wr 117 2 (.slice ao O.length c) O.length (O.flatMap encG)
  own : ∀ g, (Value.slice ao O.length c).ownBlock = some g → w.heap.size ≤ g
  kept : Kept (fun _ => False) w wr
theorem Rb.same {w wr wf : World} {ao : Option Addr} {c : Nat} {O : List (Int × Int)} (h : Rb w wr ao c O) (k : Kept (fun _ => False) wr wf) : Rb w wf ao c O :=
  ⟨row_kept h.row k (fun _ _ x => x), h.own, h.kept.then k (fun _ x => x.elim)⟩

set_option maxRecDepth 100000 in
set_option maxHeartbeats 4000000 in
theorem rings_ok {w : World} {ao : Option Addr} (c : Nat) {l : List TaskR} (hl : CameL w 8 encT ao l) (hn : l.length ≤ 256) (hlim : ∀ x ∈ l, 0 ≤ x.limit ∧ x.limit ≤ 255) :
    Calls Try.prog 88 #[.slice ao l.length c] w fun e w' => ∃ ao' c', e = .returned (.slice ao' (ringsB l 64).length c') ∧ Rb w w' ao' c' (ringsB l 64) := by
  obtain ⟨i0, hi, hz0, hz1, hz2⟩ := info_parts infoG
  have B0 : Hid (Rb w w none 0 []) := ⟨World.ownsRow_nil _ _ _ _, by simp [Value.ownBlock], Kept.refl _ _⟩
  have HL := Lib.hid hl
  have HM := Lib.hid hlim
  obtain ⟨F, hF⟩ : ∃ F, ringsB l 64 = F := ⟨_, rfl⟩
  have hO0 : Hid (([] : List (Int × Int)) ++ ringsB l 64 = F) := hF
  rw [hF]
  clear hl hlim hF
  go_enter Try.func88, Try.ntmps88
  go_wp2_with fail
  go_loopw [3, 4] (fun o p wr => ∃ (q : Nat) (O : List (Int × Int)) (ao : Option Addr) (c : Nat), q ≤ 64 ∧ p = .int .i64 ((q : Int) - 1) ∧ o = .slice ao O.length c ∧ Hid (Rb w wr ao c O) ∧ Hid (O ++ ringsB l q = F) ∧ O.length + q ≤ 64) (fun _ p _ => (intOf p + 1).toNat)
  case atStart => exact ⟨64, [], none, 0, Nat.le_refl _, rfl, rfl, B0, hO0, by simp⟩
  case round =>
    clear B0
    obtain ⟨q, O, ao2, c2, hq, rfl, rfl, hB, hO, hOl⟩ := hrel
    cases q with
    | zero =>
      go_wp2_with fail
      go_ret
      have h := hO.out
      rw [ringsB, List.append_nil] at h
      subst h
      exact ⟨_, _, rfl, hB.out⟩
    | succ q =>
      obtain ⟨v, hv⟩ : ∃ v, ((q + 1 : Nat) : Int) - 1 = v := ⟨_, rfl⟩
      rw [hv]
      obtain rfl : v = (q : Int) := by omega
      have hq0 : (0 : Int) ≤ (q : Int) := by omega
      have hq1 : (q : Int) < 64 := by omega
      clear hv
      go_wp2_with fail
      have S0 : Hid ((0 : Int) = sumAt (l.take 0) q) := by simp [sumAt, Hid]
      go_loopw [5, 14] (fun n i wx => ∃ (k : Nat) (s : Int), k ≤ l.length ∧ i = .int .i64 k ∧ n = .int .i64 s ∧ Hid (s = sumAt (l.take k) q) ∧ Hid (Rb w wx ao2 c2 O)) (fun _ i _ => l.length - (intOf i).toNat)
      case atStart => exact ⟨0, 0, Nat.zero_le _, rfl, rfl, S0, hB⟩
      case round =>
        clear hB S0
        obtain ⟨k, s, hk, rfl, rfl, hS, hB⟩ := hrel
        have hsb := sumAt_le (l := l.take k) (q : Int) (fun x hx => HM.out x (List.mem_of_mem_take hx))
        have hsl : (l.take k).length ≤ 256 := by rw [List.length_take]; omega
        rw [← hS.out] at hsb
        by_cases hkl : k < l.length
        · obtain ⟨x, hx, hm⟩ := at_of hkl
          obtain ⟨xpr, xring, xfull, xlim, xmask, xinl, xoa, xoc, xown, xauto⟩ := x
          have hk0 : (0 : Int) ≤ (k : Int) := by omega
          have hk1 : (k : Int) < (l.length : Int) := by omega
          obtain ⟨b, off, rfl, hb, hcl⟩ := camel_at (camel_same HL.out hB.out.kept) hx
          have hlm := HM.out _ hm
          have e0 := hcl 0 _ rfl
          have e1 := hcl 1 _ rfl
          have e2 := hcl 2 _ rfl
          have e3 := hcl 3 _ rfl
          have e4 := hcl 4 _ rfl
          have e5 := hcl 5 _ rfl
          have e6 := hcl 6 _ rfl
          have e7 := hcl 7 _ rfl
          have hst := sumAt_take (q : Int) hx
          rw [← hS.out] at hst
          have HST := Lib.hid hst
          simp only [Nat.add_zero] at e0
          dsimp only at e0 e1 e2 e3 e4 e5 e6 e7 hlm
          have HB2 := Lib.hid (hB.out.same ((Kept.refl _ wr).alloc (.cells #[.int .i64 xpr, .int .i64 xring, .bool xfull, .int .i64 xlim, .int .u32 xmask, .int .i64 xinl, .slice xoa xown.length xoc, .int .u32 xauto] 55)))
          have hw : IntKind.i64.wrap (s + xlim) = s + xlim := IntWalk.i64_in _ (by omega)
          clear hcl hm hx hst hB
          by_cases hp : xpr = (q : Int)
          · subst hp
            go_wp2_with fail
            go_roundw
            case rel => exact ⟨k + 1, s + xlim, by omega, by go_num, rfl, by unfold Hid; rw [HST.out, if_pos rfl], HB2⟩
            case measure => simp [intOf]; omega
          · have d0 : (xpr == (q : Int)) = false := by simpa using hp
            have HP := Lib.hid hp
            clear hp
            go_wp2_with fail
            go_roundw
            case rel => exact ⟨k + 1, s, by omega, by go_num, rfl, by unfold Hid; rw [HST.out, if_neg HP.out]; simp, HB2⟩
            case measure => simp [intOf]; omega
        · obtain rfl : k = l.length := by omega
          have hS2 := hS.out
          rw [List.take_length] at hS2
          have HS2 := Lib.hid hS2
          clear hS2 hS
          by_cases h0 : 0 < s
          · have d0 : decide (0 < s) = true := by simpa using h0
            have hOO : O ++ [((q : Int), s)] ++ ringsB l q = F := by
              rw [← hO.out, ringsB, ← HS2.out, if_pos h0, List.append_assoc]
            have HO := Lib.hid hOO
            clear hOO
            go_wp2_with (at_builtin; refine wpList_append_any rfl (.tmp 29) (.tmp 33) 23 rfl 117 i0 (.agg #[.int .i64 0, .int .i64 0]) 2 16 Try.underlying23 hi hz0 hz1 hz2 rfl (by decide) _ _ _ (O.flatMap encG) rfl (row_alloc hB.out.row _) _ 1 1 [.int .i64 (q : Int), .int .i64 s] rfl (shows_new _ [_, _] _ (by simp) rfl) (by simp [Value.oneCell']) (by unfold maxLen; omega) (by omega) ?_; intro ao5 c5 w5 r1 r2 r3)
            have hl1 : (O ++ [((q : Int), s)]).length = O.length + 1 := by simp
            have hfm : (O ++ [((q : Int), s)]).flatMap encG = O.flatMap encG ++ [.int .i64 (q : Int), .int .i64 s] := by rw [List.flatMap_append]; rfl
            have kc : Kept (fun i => (Value.slice ao2 O.length c2).ownBlock = some i) wr w5 := ((Kept.refl _ wr).alloc _).grown r2 (fun i e => Or.inl e)
            have HB5 : Hid (Rb w w5 ao5 c5 (O ++ [((q : Int), s)])) := by
              refine ⟨by rw [hl1, hfm]; exact r1, ?_, hB.out.kept.then kc (fun i hi => Or.inr (hB.out.own i hi))⟩
              rw [hl1]
              intro g hg
              rcases r3 g hg with h | h
              · exact hB.out.own g h
              · rw [World.size_alloc] at h; have := hB.out.kept.size; omega
            have HL1 := Lib.hid hl1
            clear r1 r2 r3 hl1 hfm kc hB
            go_wp2_with fail
            go_roundw
            case rel => exact ⟨q, O ++ [((q : Int), s)], ao5, c5, by omega, by go_num, by rw [HL1.out], HB5, HO, by rw [HL1.out]; omega⟩
            case measure => simp [intOf]
          · have d0 : decide (0 < s) = false := by simpa using h0
            have hOO : O ++ ringsB l q = F := by
              rw [← hO.out, ringsB, ← HS2.out, if_neg h0, List.nil_append]
            have HO := Lib.hid hOO
            clear hOO
            go_wp2_with fail
            go_roundw
            case rel => exact ⟨q, O, ao2, c2, by omega, by go_num, rfl, hB, HO, by omega⟩
            case measure => simp [intOf]
end Go.Proofs.Ytnfpiocjdhipcaa.TC
