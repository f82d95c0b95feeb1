/- The document's board: Auto. -/
import Derived.Test.YtemhfonneggneaaRbF
namespace Go.Proofs.Ytemhfonneggneaa.RB
open Go.RowKit Go.Fr Go.Tb Go.Proofs.Ytemhfonneggneaa.CK
open Go.Proofs.Ytemhfonneggneaa.BD (Ob ob_nil infoI)
attribute [local go_sem] Oper.semAt_some

/-- does an alarm's row start it in a mode? -/
def bitOn (x : Int) (mode : Nat) : Bool := bits .and .u32 x (2 ^ mode % 4294967296) != 0
def isM (T : Tb) (mode : Nat) (j : Nat) (a : Bool × Nat × Nat) : Bool := match T.alarms[j]? with | some x => bitOn x.auto mode && !a.1 | none => false
def auM (T : Tb) (mode : Nat) (j : Nat) (a : Bool × Nat × Nat) : Bool × Nat × Nat := match T.alarms[j]? with | some x => if bitOn x.auto mode && !a.1 then (true, x.time.toNat, x.cycle.toNat) else a | none => a
/-- the first k alarms started -/
def autA (T : Tb) (mode : Nat) (A : List (Bool × Nat × Nat)) (k : Nat) : List (Bool × Nat × Nat) := A.mapIdx (fun j a => if decide (j < k) then auM T mode j a else a)
def autN (T : Tb) (mode : Nat) (A : List (Bool × Nat × Nat)) (k : Nat) : Nat := (List.range k).countP (fun j => match A[j]? with | some a => isM T mode j a | none => false)
theorem autA_len (T : Tb) (mode : Nat) (A : List (Bool × Nat × Nat)) (k : Nat) : (autA T mode A k).length = A.length := by simp [autA]
theorem autA_zero (T : Tb) (mode : Nat) (A : List (Bool × Nat × Nat)) : autA T mode A 0 = A := by
  apply List.ext_getElem?
  intro i
  simp only [autA, List.getElem?_mapIdx]
  cases A[i]? <;> simp
theorem autA_at (T : Tb) (mode : Nat) (A : List (Bool × Nat × Nat)) (k : Nat) : (autA T mode A k)[k]? = A[k]? := by
  simp only [autA, List.getElem?_mapIdx]
  cases A[k]? <;> simp
theorem autA_succ {T : Tb} {mode : Nat} {A : List (Bool × Nat × Nat)} {k : Nat} {a : Bool × Nat × Nat} (ha : A[k]? = some a) : autA T mode A (k + 1) = (autA T mode A k).set k (auM T mode k a) := by
  apply List.ext_getElem?
  intro i
  rw [List.getElem?_set]
  have hk : k < A.length := (List.getElem?_eq_some_iff.1 ha).1
  by_cases hi : k = i
  · subst hi
    rw [if_pos rfl, if_pos (by rw [autA_len]; exact hk)]
    simp only [autA, List.getElem?_mapIdx, ha, Option.map_some]
    simp
  · rw [if_neg hi]
    simp only [autA, List.getElem?_mapIdx]
    have : decide (i < k + 1) = decide (i < k) := by
      rw [Bool.eq_iff_iff, decide_eq_true_eq, decide_eq_true_eq]; omega
    rw [this]
theorem autN_succ {T : Tb} {mode : Nat} {A : List (Bool × Nat × Nat)} {k : Nat} {a : Bool × Nat × Nat} (ha : A[k]? = some a) : autN T mode A (k + 1) = autN T mode A k + (if isM T mode k a then 1 else 0) := by
  unfold autN
  rw [List.range_succ, List.countP_append, List.countP_singleton, ha]
theorem autN_le (T : Tb) (mode : Nat) (A : List (Bool × Nat × Nat)) (k : Nat) : autN T mode A k ≤ k := by
  unfold autN
  exact Nat.le_trans List.countP_le_length (by simp)

section
variable {w w' : World} {p : Nat} {M : Rm} {T : Tb} {V : List Nat} {A : List (Bool × Nat × Nat)} {R : List Bool} {S : Nat → Prop}
set_option maxRecDepth 100000 in
set_option maxHeartbeats 8000000 in
theorem auto_in {mode : Nat} (hs : IsRb w p M T V A R) (hT : ∀ wx, Kept (rfoot p M) w wx → TabIn wx T) (hm : (mode : Int) < T.modes) (hm8 : mode < 8) (hla : A.length ≤ 64) (hw : ∀ x ∈ T.alarms, U32 x.auto ∧ U32 x.time ∧ U32 x.cycle) :
    Calls Try.prog 47 #[.pointer (some ⟨p, 0, none⟩), .int .i64 mode] w fun e w' =>
    e = .returned (.tuple #[.int .i64 (autN T mode A A.length), .int .i64 0]) ∧ IsRb w' p M T V (autA T mode A A.length) R ∧ Kept (rfoot p M) w w' := by
  have HLA := hs.lens.2.1
  obtain ⟨_, c1, _, _, _⟩ := hs.tab
  have d0 : decide (T.modes ≤ (mode : Int)) = false := by rw [decide_eq_false_iff_not]; omega
  have HT := Lib.hid hT
  have HS := Lib.hid hs
  clear hs hT
  go_enter Try.func47, Try.ntmps47
  go_wp2_with fail
  clear c1 d0
  go_loopw [6, 7] (fun n i wr => ∃ (k : Nat), k ≤ A.length ∧ i = .int .i64 k ∧ n = .int .i64 (autN T mode A k) ∧ Hid (IsRb wr p M T V (autA T mode A k) R) ∧ Hid (Kept (rfoot p M) w wr)) (fun _ i _ => A.length - (intOf i).toNat)
  case atStart => exact ⟨0, Nat.zero_le _, rfl, rfl, by rw [Hid, autA_zero]; exact HS.out, Kept.refl _ _⟩
  case round =>
    obtain ⟨k, hk, rfl, rfl, hS, hK⟩ := hrel
    have htl := autA_len T mode A k
    by_cases hkl : k < A.length
    · obtain ⟨a, ha, hma⟩ := at_of hkl
      have hat := autA_at T mode A k
      rw [ha] at hat
      have hts := autA_succ (T := T) (mode := mode) ha
      have hns := autN_succ (T := T) (mode := mode) ha
      have hnl := autN_le T mode A k
      obtain ⟨N, hN⟩ : ∃ N, autN T mode A k = N := ⟨_, rfl⟩
      obtain ⟨B, hB⟩ : ∃ B, autA T mode A k = B := ⟨_, rfl⟩
      rw [hN] at hns hnl ⊢
      rw [hB] at hS hts hat htl
      obtain ⟨x, hx, hmx⟩ := at_of (l := T.alarms) (k := k) (by omega)
      have hwx := hw x hmx
      unfold auM at hts
      unfold isM at hns
      rw [hx] at hts hns
      obtain ⟨b6, o6, h6, _, hl6⟩ := camel_at (HT.out wr hK.out).alarms hx
      obtain ⟨_, _, _, c6, _⟩ := hS.out.tab
      rw [h6] at c6
      have e0 := hl6 0 _ rfl
      have e1 := hl6 1 _ rfl
      have e2 := hl6 2 _ rfl
      have e3 := hl6 3 _ rfl
      have e4 := hl6 4 _ rfl
      have e5 := hl6 5 _ rfl
      have e6 := hl6 6 _ rfl
      simp only [Nat.add_zero] at e0
      have hk0 : (0 : Int) ≤ (k : Int) := by omega
      have hk1 : (k : Int) < (A.length : Int) := by omega
      have hk1' : (k : Int) < (B.length : Int) := by omega
      have hk2 : (k : Int) < (T.alarms.length : Int) := by omega
      obtain ⟨o1, k1, o2, k2, o3, k3, _, _, _, _, c14, _⟩ := hS.out.lists
      rw [htl] at c14
      obtain ⟨xc, xk, xt, xm, xa, xi, xy⟩ := x
      dsimp only at e0 e1 e2 e3 e4 e5 e6 hwx hts hns
      have HTS := Lib.hid hts
      have HNS := Lib.hid hns
      have HAT := Lib.hid hat
      have HWX := Lib.hid hwx
      clear hts hns hat hwx ha hma hx hmx hl6 h6 hN hB
      go_upto_region 8 with fail
      have nb := Blk.new wr [.int .i64 xc, .int .i64 xk, .int .i64 xt, .int .u32 xm, .int .u32 xa, .int .u32 xi, .int .u32 xy] 83
      have kb := (Kept.refl (fun _ => False) wr).alloc (.cells #[.int .i64 xc, .int .i64 xk, .int .i64 xt, .int .u32 xm, .int .u32 xa, .int .u32 xi, .int .u32 xy] 83)
      obtain ⟨wc, hwc⟩ : ∃ wc, wr.alloc (.cells #[.int .i64 xc, .int .i64 xk, .int .i64 xt, .int .u32 xm, .int .u32 xa, .int .u32 xi, .int .u32 xy] 83) = wc := ⟨_, rfl⟩
      obtain ⟨g9, hg9⟩ : ∃ g, wr.heap.size = g := ⟨_, rfl⟩
      rw [hwc] at nb kb ⊢
      rw [hg9] at nb
      try rw [hg9]
      have y2 := nb.cell 4 rfl
      have y3 := nb.cell 5 rfl
      have y4 := nb.cell 6 rfl
      have HS2 := Lib.hid (hS.out.same kb)
      have HK2 : Hid (Kept (rfoot p M) w wc) := hK.out.then kb (fun _ x => x.elim)
      clear nb kb hwc hg9 e0 e1 e2 e3 e4 e5 e6 c6 c14 hS hK
      obtain ⟨g, cg, hv, c14, q0, q1, q2, _, hf, _⟩ := HS2.out.look HAT.out
      have SET := Lib.hid (HS2.out.setA3 hv HAT.out true xi.toNat xy.toNat)
      rw [htl] at hv c14
      have z0 := hf (k * 3)
      have z1 := hf (k * 3 + 1)
      have z2 := hf (k * 3 + 2)
      clear hf hv
      have hm0 : (0 : Int) ≤ (mode : Int) := by omega
      have hm1 : ¬ (mode : Int) < 0 := by omega
      obtain ⟨sa, lf, cy⟩ := a
      dsimp only at q0 q1 q2
      obtain ⟨bt, hbt⟩ : ∃ bt : Bool, (bits .and .u32 xa (2 ^ mode % 4294967296) != 0) = bt := ⟨_, rfl⟩
      have HBT : Hid (bitOn xa mode = bt) := hbt
      cases bt with
      | false =>
        have e1 : Hid (autA T mode A (k + 1) = B) := by
          have h := HTS.out
          rw [HBT.out, Bool.false_and, if_neg Bool.false_ne_true, set_eq_of_getElem? HAT.out] at h
          exact h
        have e2 : Hid (autN T mode A (k + 1) = N) := by
          have h := HNS.out
          exact show autN T mode A (k + 1) = _ by simpa [HBT.out] using h
        have HS5 : Hid (IsRb wc p M T V (autA T mode A (k + 1)) R) := by rw [Hid, e1.out]; exact HS2.out
        clear SET HS2 HTS HNS q0 q1 q2 c14
        go_wp2_with fail
        go_roundw
        case rel => exact ⟨k + 1, by omega, by go_num, by rw [e2.out], HS5, HK2⟩
        case measure => simp [intOf]; omega
      | true =>
        cases sa with
        | true =>
          have e1 : Hid (autA T mode A (k + 1) = B) := by
            have h := HTS.out
            rw [Bool.not_true, Bool.and_false, if_neg Bool.false_ne_true, set_eq_of_getElem? HAT.out] at h
            exact h
          have e2 : Hid (autN T mode A (k + 1) = N) := by
            have h := HNS.out
            exact show autN T mode A (k + 1) = _ by simpa [HBT.out] using h
          have HS5 : Hid (IsRb wc p M T V (autA T mode A (k + 1)) R) := by rw [Hid, e1.out]; exact HS2.out
          clear SET HS2 HTS HNS
          go_wp2_with fail
          go_roundw
          case rel => exact ⟨k + 1, by omega, by go_num, by rw [e2.out], HS5, HK2⟩
          case measure => simp [intOf]; omega
        | false =>
          have e1 : Hid (autA T mode A (k + 1) = B.set k (true, xi.toNat, xy.toNat)) := by
            have h := HTS.out
            rw [HBT.out, Bool.not_false, Bool.and_true, if_pos rfl] at h
            exact h
          have e2 : Hid (autN T mode A (k + 1) = N + 1) := by
            have h := HNS.out
            exact show autN T mode A (k + 1) = _ by simpa [HBT.out] using h
          obtain ⟨_, ⟨i0, i1⟩, ⟨j0, j1⟩⟩ := HWX.out
          obtain ⟨ni, rfl⟩ := Int.eq_ofNat_of_zero_le i0
          obtain ⟨ny, rfl⟩ := Int.eq_ofNat_of_zero_le j0
          have SET2 : Hid (IsRb (((wc.setCell ⟨g, k * 3, none⟩ (.bool true)).setCell ⟨g, k * 3 + 1, none⟩ (.int .u32 ni)).setCell ⟨g, k * 3 + 2, none⟩ (.int .u32 ny)) p M T V (autA T mode A (k + 1)) R ∧ Kept (rfoot p M) wc (((wc.setCell ⟨g, k * 3, none⟩ (.bool true)).setCell ⟨g, k * 3 + 1, none⟩ (.int .u32 ni)).setCell ⟨g, k * 3 + 2, none⟩ (.int .u32 ny))) := by
            rw [Hid, e1.out]; exact SET.out
          clear SET HS2 HTS HNS e1 HWX i0 i1 j0 j1
          go_wp2_with fail
          go_region
          all_goals
            go_wp2_with fail
            go_roundw
            case rel => exact ⟨k + 1, by omega, by go_num, by rw [e2.out]; push_cast; rfl, SET2.out.1.same ((Kept.refl _ _).drew), HK2.out.then SET2.out.2.drew (fun _ h => Or.inl h)⟩
            case measure => simp [intOf]; omega
    · obtain rfl : k = A.length := by omega
      obtain ⟨o1, k1, o2, k2, o3, k3, _, _, _, _, c14, _⟩ := hS.out.lists
      rw [htl] at c14
      go_wp2_with fail
      go_ret2
      exact ⟨rfl, hS.out, hK.out⟩
end
end Go.Proofs.Ytemhfonneggneaa.RB
