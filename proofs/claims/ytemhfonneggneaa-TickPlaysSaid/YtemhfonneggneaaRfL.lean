/- The document's tables: room. -/
import Derived.Test.YtemhfonneggneaaTbL
namespace Go.Proofs.Ytemhfonneggneaa.TR
open Go.RowKit Go.Fr Go.Tb Go.Proofs.Ytemhfonneggneaa.TC
attribute [local go_sem] Oper.semAt_some

/-- m is m0, or the greatest count of a number below k -/
structure Mc (m0 m : Int) (A : List Int) (k : Nat) : Prop where
  lo : m0 ≤ m
  up : ∀ c : Nat, c < k → (A.count (c : Int) : Int) ≤ m
  is : m = m0 ∨ ∃ c : Nat, c < k ∧ (A.count (c : Int) : Int) = m
theorem Mc.start (m0 : Int) (A : List Int) : Mc m0 m0 A 0 := ⟨Int.le_refl _, fun c h => by omega, Or.inl rfl⟩
theorem Mc.step {m0 m : Int} {A : List Int} {k : Nat} (h : Mc m0 m A k) : Mc m0 (mxi m (A.count (k : Int) : Int)) A (k + 1) := by
  obtain ⟨h1, h2, h3⟩ := mxi_le m (A.count (k : Int) : Int)
  refine ⟨Int.le_trans h.lo h1, fun c hc => ?_, ?_⟩
  · rcases Nat.lt_or_ge c k with h5 | h5
    · exact Int.le_trans (h.up c h5) h1
    · obtain rfl : c = k := by omega
      exact h2
  · rcases h3 with h5 | h5
    · rw [h5]
      rcases h.is with h6 | ⟨c, h6, h7⟩
      · exact Or.inl h6
      · exact Or.inr ⟨c, by omega, h7⟩
    · exact Or.inr ⟨k, by omega, h5.symm⟩
theorem count_out {A : List Int} {n : Nat} (hA : ∀ a ∈ A, 0 ≤ a ∧ a < (n : Int)) (c : Int) (hc : ¬ (0 ≤ c ∧ c < (n : Int))) : A.count c = 0 :=
  List.count_eq_zero.2 (fun h => hc (hA c h))
theorem Mc.mx {m m1 : Int} {A B : List Int} {n k : Nat} (h1 : Mc 2 m1 A n) (h2 : Mc m1 m B k) (hA : ∀ a ∈ A, 0 ≤ a ∧ a < (n : Int)) (hB : ∀ b ∈ B, 0 ≤ b ∧ b < (k : Int)) : Mx m A B := by
  have a1 := h1.lo
  have a2 := h2.lo
  refine ⟨by omega, fun c => ?_, fun c => ?_, ?_⟩
  · by_cases hc : 0 ≤ c ∧ c < (n : Int)
    · obtain ⟨d, rfl⟩ := Int.eq_ofNat_of_zero_le hc.1
      have := h1.up d (by omega)
      omega
    · rw [count_out hA c hc]; omega
  · by_cases hc : 0 ≤ c ∧ c < (k : Int)
    · obtain ⟨d, rfl⟩ := Int.eq_ofNat_of_zero_le hc.1
      exact h2.up d (by omega)
    · rw [count_out hB c hc]; omega
  · rcases h2.is with h | ⟨c, _, h⟩
    · rcases h1.is with h5 | ⟨c, _, h5⟩
      · exact Or.inl (by omega)
      · exact Or.inr (Or.inl ⟨c, by omega⟩)
    · exact Or.inr (Or.inr ⟨c, h⟩)
theorem ctrs_in {l : List AlarmR} {n : Nat} (h : ∀ x ∈ l, 0 ≤ x.counter ∧ x.counter < (n : Int)) : ∀ a ∈ ctrs l, 0 ≤ a ∧ a < (n : Int) := by
  intro a ha
  obtain ⟨x, hx, rfl⟩ := List.mem_map.1 ha
  exact h x hx
theorem srcs_in {l : List MsgR} {n : Nat} (h : ∀ x ∈ l, x.kind ≠ 1 → 0 ≤ x.src ∧ x.src < (n : Int)) : ∀ a ∈ srcs l, 0 ≤ a ∧ a < (n : Int) := by
  intro a ha
  obtain ⟨x, hx, rfl⟩ := List.mem_map.1 ha
  have := List.mem_filter.1 hx
  exact h x this.1 (by simpa using this.2)
theorem count_len {A : List Int} {n : Nat} (h : A.length ≤ n) (c : Int) : 0 ≤ (A.count c : Int) ∧ (A.count c : Int) ≤ n := by
  have := List.count_le_length (a := c) (l := A); omega
theorem ctrs_le (l : List AlarmR) : (ctrs l).length = l.length := by simp [ctrs]
theorem srcs_le (l : List MsgR) : (srcs l).length ≤ l.length := by simp only [srcs, List.length_map]; exact List.length_filter_le _ _

set_option maxRecDepth 100000 in
set_option maxHeartbeats 8000000 in
theorem room_ok {w : World} {T : Tb} (hT : TabIn w T) (hnc : T.counters.length ≤ 64) (hna : T.alarms.length ≤ 64) (hnm : T.msgs.length ≤ 64) (hni : T.isrs.length ≤ 64) (_ : T.rings.length ≤ 140737488355328)
    (ha : ∀ x ∈ T.alarms, 0 ≤ x.counter ∧ x.counter < T.counters.length) (hm : ∀ x ∈ T.msgs, x.kind ≠ 1 → 0 ≤ x.src ∧ x.src < T.msgs.length) :
    Calls Try.prog 75 #[.agg T.cells.toArray] w fun e w' => (∃ m b : Int, e = .returned (.tuple #[.int .i64 T.rings.length, .int .i64 ((T.isrs.length : Int) + 4), .int .i64 m, .int .i64 b]) ∧ RoomIs T m b) ∧ Kept (fun _ => False) w w' := by
  have k0 : Kept (fun _ => False) w (box w T) := (Kept.refl _ w).alloc _
  have nb : Blk (box w T) w.heap.size T.cells 37 := Blk.new w T.cells 37
  have hT1 := hT.same k0
  obtain ⟨w1, hw1⟩ : ∃ w1, box w T = w1 := ⟨_, rfl⟩
  obtain ⟨B, hB⟩ : ∃ B, w.heap.size = B := ⟨_, rfl⟩
  rw [hw1] at k0 nb hT1
  rw [hB] at nb
  have HT := Lib.hid hT1
  have NB := Lib.hid nb
  have K0 := Lib.hid k0
  have HA := Lib.hid (ctrs_in ha)
  have HM := Lib.hid (srcs_in hm)
  have c3 := nb.cell 3 rfl
  have c5 := nb.cell 5 rfl
  have c6 := nb.cell 6 rfl
  have c7 := nb.cell 7 rfl
  have c8 := nb.cell 8 rfl
  clear hT hT1 nb k0 ha hm
  have hs : T.cells.toArray.size = 13 := rfl
  have hn0 : (T.cells.toArray = #[]) = False := by simp [Tb.cells]
  unfold box at hw1
  generalize T.cells.toArray = Z at hw1 hs hn0 ⊢
  go_enter Try.func75, Try.ntmps75
  go_upto_region 1 with fail
  clear hs hn0 hw1 hB
  go_wp2_with fail
  go_loopw [6, 7] (fun m i wr => ∃ (k : Nat) (mv : Int), k ≤ T.counters.length ∧ i = .int .i64 k ∧ m = .int .i64 mv ∧ wr = w1 ∧ mv ≤ 64 ∧ Hid (Mc 2 mv (ctrs T.alarms) k)) (fun _ i _ => T.counters.length - (intOf i).toNat)
  case atStart => exact ⟨0, 2, Nat.zero_le _, rfl, rfl, rfl, by omega, Mc.start _ _⟩
  case round =>
    obtain ⟨k, mv, hk, rfl, rfl, hwr, hmv, hP⟩ := hrel
    obtain rfl : w1 = wr := hwr.symm
    by_cases hkl : k < T.counters.length
    · have hk0 : (0 : Int) ≤ (k : Int) := by omega
      have hk1 : (k : Int) < (T.counters.length : Int) := by omega
      have hm2 := hP.out.lo
      go_wp2_with fail
      go_loopw [8, 9] (fun n i wr => ∃ (j : Nat) (v : Int), j ≤ T.alarms.length ∧ i = .int .i64 j ∧ n = .int .i64 v ∧ wr = w1 ∧ Hid (((ctrs (T.alarms.take j)).count (k : Int) : Int) = v)) (fun _ i _ => T.alarms.length - (intOf i).toNat)
      case atStart => exact ⟨0, 0, Nat.zero_le _, rfl, rfl, rfl, rfl⟩
      case round =>
        obtain ⟨j, v, hj, rfl, rfl, hwr, hV⟩ := hrel
        obtain rfl : w1 = wr := hwr.symm
        have hv : 0 ≤ v ∧ v ≤ 64 := by
          have h1 := count_len (A := ctrs (T.alarms.take j)) (n := 64) (by rw [ctrs_le, List.length_take]; omega) (k : Int)
          rw [hV.out] at h1
          exact h1
        by_cases hjl : j < T.alarms.length
        · obtain ⟨x, hx, hmx⟩ := at_of hjl
          have hj0 : (0 : Int) ≤ (j : Int) := by omega
          have hj1 : (j : Int) < (T.alarms.length : Int) := by omega
          obtain ⟨b, off, hta, hb, hcl⟩ := camel_at HT.out.alarms hx
          have e0 := hcl 0 _ rfl
          simp only [Nat.add_zero] at e0
          have c6' := c6
          rw [hta] at c6'
          have hst : Hid (((ctrs (T.alarms.take (j + 1))).count (k : Int) : Int) = v + (if x.counter = (k : Int) then 1 else 0)) := by
            unfold Hid
            rw [ctrs_snoc hx, count_snoc, ← hV.out]
            split <;> simp
          obtain ⟨xc, xk, xt, xm, xa, xi, xy⟩ := x
          dsimp only at hst
          dsimp only at e0
          have C6 := Lib.hid c6
          clear hcl hx hmx hta hV c6
          by_cases hxc : xc = (k : Int)
          · subst hxc
            go_wp2_with fail
            go_roundw
            case rel => exact ⟨j + 1, v + 1, by omega, by go_num, rfl, trivial, by unfold Hid; rw [hst.out, if_pos rfl]⟩
            case measure => simp [intOf]; omega
          · have d0 : (xc == (k : Int)) = false := by simpa using hxc
            have HXC := Lib.hid hxc
            clear hxc
            go_wp2_with fail
            go_roundw
            case rel => exact ⟨j + 1, v, by omega, by go_num, rfl, trivial, by unfold Hid; rw [hst.out, if_neg HXC.out]; omega⟩
            case measure => simp [intOf]; omega
        · obtain rfl : j = T.alarms.length := by omega
          have hstep := hP.out.step
          have hV2 := hV.out
          rw [List.take_length] at hV2
          rw [hV2] at hstep
          have HS := Lib.hid hstep
          have hmx := mxi_le mv v
          have hmx2 : mxi mv v ≤ 64 := by omega
          clear hV hV2 hstep hP
          go_wp2_with fail
          go_roundw
          case rel => exact ⟨k + 1, mxi mv v, by omega, by go_num, rfl, trivial, hmx2, HS⟩
          case measure => simp [intOf]; omega
    · obtain rfl : k = T.counters.length := by omega
      have HP1 := Lib.hid hP.out
      have hm2 := hP.out.lo
      clear hP
      go_wp2_with fail
      go_loopw [6, 10] (fun m i wr => ∃ (k : Nat) (mw : Int), k ≤ T.msgs.length ∧ i = .int .i64 k ∧ m = .int .i64 mw ∧ wr = w1 ∧ mw ≤ 64 ∧ Hid (Mc mv mw (srcs T.msgs) k)) (fun _ i _ => T.msgs.length - (intOf i).toNat)
      case atStart => exact ⟨0, mv, Nat.zero_le _, rfl, rfl, rfl, by omega, Mc.start _ _⟩
      case round =>
        obtain ⟨k, mw, hk, rfl, rfl, hwr, hmw, hP⟩ := hrel
        obtain rfl : w1 = wr := hwr.symm
        by_cases hkl : k < T.msgs.length
        · have hk0 : (0 : Int) ≤ (k : Int) := by omega
          have hk1 : (k : Int) < (T.msgs.length : Int) := by omega
          have hm3 := hP.out.lo
          go_wp2_with fail
          go_loopw [11, 12] (fun n i wr => ∃ (j : Nat) (v : Int), j ≤ T.msgs.length ∧ i = .int .i64 j ∧ n = .int .i64 v ∧ wr = w1 ∧ Hid (((srcs (T.msgs.take j)).count (k : Int) : Int) = v)) (fun _ i _ => T.msgs.length - (intOf i).toNat)
          case atStart => exact ⟨0, 0, Nat.zero_le _, rfl, rfl, rfl, rfl⟩
          case round =>
            obtain ⟨j, v, hj, rfl, rfl, hwr, hV⟩ := hrel
            obtain rfl : w1 = wr := hwr.symm
            have hv : 0 ≤ v ∧ v ≤ 64 := by
              have h1 := count_len (A := srcs (T.msgs.take j)) (n := 64) (by have := srcs_le (T.msgs.take j); rw [List.length_take] at this; omega) (k : Int)
              rw [hV.out] at h1
              exact h1
            by_cases hjl : j < T.msgs.length
            · obtain ⟨x, hx, hmx⟩ := at_of hjl
              have hj0 : (0 : Int) ≤ (j : Int) := by omega
              have hj1 : (j : Int) < (T.msgs.length : Int) := by omega
              obtain ⟨b, off, hta, hb, hcl⟩ := camel_at HT.out.msgs hx
              have e0 := hcl 0 _ rfl
              have e2 := hcl 2 _ rfl
              simp only [Nat.add_zero] at e0
              have c8' := c8
              rw [hta] at c8'
              have hst : Hid (((srcs (T.msgs.take (j + 1))).count (k : Int) : Int) = v + (if x.kind ≠ 1 ∧ x.src = (k : Int) then 1 else 0)) := by
                unfold Hid
                by_cases h1 : x.kind = 1
                · rw [srcs_skip hx h1, ← hV.out, if_neg (fun h => h.1 h1)]; omega
                · rw [srcs_snoc hx h1, count_snoc, ← hV.out]
                  by_cases h2 : x.src = (k : Int)
                  · rw [if_pos h2, if_pos ⟨h1, h2⟩]; omega
                  · rw [if_neg h2, if_neg (fun h => h2 h.2)]; omega
              obtain ⟨xk, xl, xs, xi, xq, ak, at', am⟩ := x
              dsimp only at hst e0 e2
              have C8 := Lib.hid c8
              clear hcl hx hmx hta hV c8
              by_cases h1 : xk = 1
              · have d1 : (xk != 1) = false := by simpa using h1
                have H1 := Lib.hid h1
                clear h1
                go_wp2_with fail
                go_roundw
                case rel => exact ⟨j + 1, v, by omega, by go_num, rfl, trivial, by unfold Hid; rw [hst.out, if_neg (fun h => h.1 H1.out)]; omega⟩
                case measure => simp [intOf]; omega
              · have d1 : (xk != 1) = true := by simpa using h1
                have H1 := Lib.hid h1
                clear h1
                by_cases hxc : xs = (k : Int)
                · subst hxc
                  go_wp2_with fail
                  go_roundw
                  case rel => exact ⟨j + 1, v + 1, by omega, by go_num, rfl, trivial, by unfold Hid; rw [hst.out, if_pos ⟨H1.out, rfl⟩]⟩
                  case measure => simp [intOf]; omega
                · have d0 : (xs == (k : Int)) = false := by simpa using hxc
                  have HXC := Lib.hid hxc
                  clear hxc
                  go_wp2_with fail
                  go_roundw
                  case rel => exact ⟨j + 1, v, by omega, by go_num, rfl, trivial, by unfold Hid; rw [hst.out, if_neg (fun h => HXC.out h.2)]; omega⟩
                  case measure => simp [intOf]; omega
            · obtain rfl : j = T.msgs.length := by omega
              have hstep := hP.out.step
              have hV2 := hV.out
              rw [List.take_length] at hV2
              rw [hV2] at hstep
              have HS := Lib.hid hstep
              have hmx := mxi_le mw v
              have hmx2 : mxi mw v ≤ 64 := by omega
              clear hV hV2 hstep hP
              go_wp2_with fail
              go_roundw
              case rel => exact ⟨k + 1, mxi mw v, by omega, by go_num, rfl, trivial, hmx2, HS⟩
              case measure => simp [intOf]; omega
        · obtain rfl : k = T.msgs.length := by omega
          have hMX := HP1.out.mx hP.out HA.out HM.out
          have HMX := Lib.hid hMX
          clear hMX hP HP1 hm2
          go_wp2_with fail
          go_loopw [13, 14] (fun n i wr => ∃ (j : Nat) (v : Int), j ≤ T.msgs.length ∧ i = .int .i64 j ∧ n = .int .i64 v ∧ wr = w1 ∧ Hid (backsM (T.msgs.take j) = v)) (fun _ i _ => T.msgs.length - (intOf i).toNat)
          case atStart => exact ⟨0, 0, Nat.zero_le _, rfl, rfl, rfl, rfl⟩
          case round =>
            obtain ⟨j, v, hj, rfl, rfl, hwr, hV⟩ := hrel
            obtain rfl : w1 = wr := hwr.symm
            have hv : 0 ≤ v ∧ v ≤ 64 := by
              have h1 := backsM_le (T.msgs.take j)
              rw [hV.out, List.length_take] at h1
              omega
            by_cases hjl : j < T.msgs.length
            · obtain ⟨x, hx, hmx⟩ := at_of hjl
              have hj0 : (0 : Int) ≤ (j : Int) := by omega
              have hj1 : (j : Int) < (T.msgs.length : Int) := by omega
              obtain ⟨b, off, hta, hb, hcl⟩ := camel_at HT.out.msgs hx
              have e5 := hcl 5 _ rfl
              have c8' := c8
              rw [hta] at c8'
              have hst : Hid (backsM (T.msgs.take (j + 1)) = v + (if x.akind = 3 then 1 else 0)) := by
                unfold Hid
                rw [backsM_snoc hx, hV.out]
              obtain ⟨xk, xl, xs, xi, xq, ak, at', am⟩ := x
              dsimp only at hst e5
              have C8 := Lib.hid c8
              clear hcl hx hmx hta hV c8
              by_cases h1 : ak = 3
              · subst h1
                go_wp2_with fail
                go_roundw
                case rel => exact ⟨j + 1, v + 1, by omega, by go_num, rfl, trivial, by unfold Hid; rw [hst.out, if_pos rfl]⟩
                case measure => simp [intOf]; omega
              · have d1 : (ak == 3) = false := by simpa using h1
                have H1 := Lib.hid h1
                clear h1
                go_wp2_with fail
                go_roundw
                case rel => exact ⟨j + 1, v, by omega, by go_num, rfl, trivial, by unfold Hid; rw [hst.out, if_neg H1.out]; omega⟩
                case measure => simp [intOf]; omega
            · obtain rfl : j = T.msgs.length := by omega
              obtain ⟨bm, hbm⟩ : ∃ bm, bm = v := ⟨_, rfl⟩
              subst hbm
              have hV2 := hV.out
              rw [List.take_length] at hV2
              have HBM := Lib.hid hV2
              clear hV hV2
              go_wp2_with fail
              go_loopw [13, 15] (fun n i wr => ∃ (j : Nat) (v : Int), j ≤ T.alarms.length ∧ i = .int .i64 j ∧ n = .int .i64 v ∧ wr = w1 ∧ 0 ≤ v ∧ v ≤ 128 ∧ Hid (backsA (T.alarms.take j) + bm = v)) (fun _ i _ => T.alarms.length - (intOf i).toNat)
              case atStart => exact ⟨0, bm, Nat.zero_le _, rfl, rfl, rfl, by omega, by omega, by simp [Hid, backsA]⟩
              case round =>
                obtain ⟨j, v, hj, rfl, rfl, hwr, hv0, hv1, hV⟩ := hrel
                obtain rfl : w1 = wr := hwr.symm
                have hv2 : v ≤ bm + j := by
                  have h1 := backsA_le (T.alarms.take j)
                  have h2 := hV.out
                  rw [List.length_take] at h1
                  omega
                by_cases hjl : j < T.alarms.length
                · obtain ⟨x, hx, hmx⟩ := at_of hjl
                  have hj0 : (0 : Int) ≤ (j : Int) := by omega
                  have hj1 : (j : Int) < (T.alarms.length : Int) := by omega
                  obtain ⟨b, off, hta, hb, hcl⟩ := camel_at HT.out.alarms hx
                  have e1 := hcl 1 _ rfl
                  have c6' := c6
                  rw [hta] at c6'
                  have hst : Hid (backsA (T.alarms.take (j + 1)) + bm = v + (if x.kind = 3 then 1 else 0)) := by
                    unfold Hid
                    rw [backsA_snoc hx, ← hV.out]
                    omega
                  obtain ⟨xc, xk, xt, xm, xa, xi, xy⟩ := x
                  dsimp only at hst e1
                  have C6 := Lib.hid c6
                  clear hcl hx hmx hta hV c6
                  by_cases h1 : xk = 3
                  · subst h1
                    go_wp2_with fail
                    go_roundw
                    case rel => exact ⟨j + 1, v + 1, by omega, by go_num, rfl, trivial, by omega, by omega, by unfold Hid; rw [hst.out, if_pos rfl]⟩
                    case measure => simp [intOf]; omega
                  · have d1 : (xk == 3) = false := by simpa using h1
                    have H1 := Lib.hid h1
                    clear h1
                    go_wp2_with fail
                    go_roundw
                    case rel => exact ⟨j + 1, v, by omega, by go_num, rfl, trivial, by omega, by omega, by unfold Hid; rw [hst.out, if_neg H1.out]; omega⟩
                    case measure => simp [intOf]; omega
                · obtain rfl : j = T.alarms.length := by omega
                  have hV2 := hV.out
                  rw [List.take_length] at hV2
                  have HV := Lib.hid hV2
                  clear hV hV2
                  have hi4 : (T.isrs.length : Int) ≤ 64 := by omega
                  go_wp2_with fail
                  go_quiet (fail)
                  go_wp2_with fail
                  refine bodyPost_ret (results_tmp4 rfl _ _ _) rfl ⟨⟨mw, v, rfl, HMX.out, ?_⟩, K0.out.drewN _⟩
                  rw [← HV.out, HBM.out]
end Go.Proofs.Ytemhfonneggneaa.TR
