/- slices.Equal over rings' rows; slices.Contains over ints. -/
import Derived.Test.YtnfpiocjdhipcaaTbE
import Derived.Test.YtnfpiocjdhipcaaTri
import Derived.Test.YtnfpiocjdhipcaaMem
namespace Go.Proofs.Ytnfpiocjdhipcaa.TC
open Go.RowKit Go.Fr Go.Tb
attribute [local go_sem] Oper.semAt_some

theorem camel_row {w : World} {e : TypeId} {ao : Option Addr} {c : Nat} {rs : List (Int × Int)} (h : Row w e 2 (.slice ao rs.length c) rs.length (rs.flatMap encG)) : CameL w 2 encG ao rs := by
  intro hne
  rcases row_forms h with ⟨_, h0⟩ | ⟨g, c', hv, _, _, hg⟩
  · exact absurd (List.length_eq_zero_iff.1 h0) hne
  · cases hv
    exact ⟨g, 0, rfl, hg, fun i x hx j v hv => by rw [Nat.zero_add]; exact rows_cell (enc := encG) (fun _ => rfl) h hx hv⟩

set_option maxRecDepth 100000 in
set_option maxHeartbeats 2000000 in
theorem equal_ok {w : World} {ao bo : Option Addr} {c c' : Nat} {l m : List (Int × Int)} (ha : CameL w 2 encG ao l) (hb : CameL w 2 encG bo m) (hn : l.length ≤ 140737488355328) :
    Calls Try.prog 87 #[.slice ao l.length c, .slice bo m.length c'] w fun e w' => BoolIs e (l = m) ∧ Kept (fun _ => False) w w' := by
  by_cases hlen : l.length = m.length
  · have HA := Lib.hid ha
    have HB := Lib.hid hb
    rw [← hlen]
    have HLEN := Lib.hid hlen
    clear ha hb hlen
    go_enter Try.func87, Try.ntmps87
    go_wp2_with fail
    go_loopw [13] (fun n wr => ∃ k q : Nat, k ≤ l.length ∧ n = .int .i64 k ∧ wr = w.drewN q ∧ Hid (l.take k = m.take k)) (fun n _ => l.length - (intOf n).toNat)
    case atStart => exact ⟨0, 0, Nat.zero_le _, rfl, rfl, rfl⟩
    case round =>
      obtain ⟨k, q, hk, rfl, rfl, hP⟩ := hrel
      by_cases hlt : k < l.length
      · have hk0 : (0 : Int) ≤ (k : Int) := Int.natCast_nonneg _
        have hk1 : (k : Int) < (l.length : Int) := by omega
        obtain ⟨⟨x1, x2⟩, hx, _⟩ := at_of hlt
        obtain ⟨⟨y1, y2⟩, hy, _⟩ := at_of (l := m) (k := k) (by have := HLEN.out; omega)
        obtain ⟨g, o, rfl, _, hcl⟩ := camel_at HA.out hx
        obtain ⟨g', o', rfl, _, hcl'⟩ := camel_at HB.out hy
        have e0 := hcl 0 _ rfl
        have e1 := hcl 1 _ rfl
        have f0 := hcl' 0 _ rfl
        have f1 := hcl' 1 _ rfl
        simp only [Nat.add_zero] at e0 f0
        have HX := Lib.hid hx
        have HY := Lib.hid hy
        clear hx hy hcl hcl'
        by_cases hxy : (x1, x2) = (y1, y2)
        · cases hxy
          have hne : (binOp .neq 117 (.agg #[.int .i64 x1, .int .i64 x2]) (.agg #[.int .i64 x1, .int .i64 x2])).run Try.prog = fun w => .ok (.bool false) w := by
            funext w; simp [go_sem]
          have hP2 : Hid (l.take (k + 1) = m.take (k + 1)) := by
            unfold Hid
            rw [List.take_add_one, List.take_add_one, hP.out, HX.out, HY.out]
          go_wp2_with fail
          go_quiet (fail)
          go_wp2_with fail
          go_roundw
          case rel => exact ⟨k + 1, _, by omega, by go_num, rfl, hP2⟩
          case measure => simp [intOf]; omega
        · have hne : (binOp .neq 117 (.agg #[.int .i64 x1, .int .i64 x2]) (.agg #[.int .i64 y1, .int .i64 y2])).run Try.prog = fun w => .ok (.bool true) w := by
            funext w
            by_cases h1 : x1 = y1
            · have h2 : ¬ x2 = y2 := fun e => hxy (by rw [h1, e])
              have h2b : (x2 == y2) = false := by simpa using h2
              simp [go_sem, h1, h2, h2b]
            · have h1b : (x1 == y1) = false := by simpa using h1
              simp [go_sem, h1, h1b]
          have HXY := Lib.hid hxy
          clear hxy
          go_wp2_with fail
          go_quiet (fail)
          go_wp2_with fail
          go_ret
          refine ⟨bool_no fun h => ?_, ((Kept.refl _ _).drewN _).drewN _⟩
          have h1 := HX.out
          rw [h, HY.out] at h1
          exact HXY.out (Option.some.inj h1).symm
      · obtain rfl : k = l.length := by omega
        go_wp2_with fail
        go_ret
        refine ⟨bool_yes ?_, (Kept.refl _ _).drewN _⟩
        have h := hP.out
        rw [List.take_length, HLEN.out, List.take_length] at h
        exact h
  · have d0 : ((l.length : Int) != (m.length : Int)) = true := by simp; omega
    have HN := Lib.hid hlen
    clear hlen ha hb
    go_enter Try.func87, Try.ntmps87
    go_wp2_with fail
    go_ret
    exact ⟨bool_no fun h => HN.out (by rw [h]), Kept.refl _ _⟩

/-- slices.Contains of four numbers -/
theorem four_ok {w : World} {g c : Nat} (x : Int) (h : ∀ (i : Nat) (v : Value), ([.int .i64 1, .int .i64 2, .int .i64 4, .int .i64 8] : List Value)[i]? = some v → w.cell? ⟨g, i, none⟩ = some v) :
    Calls Try.prog 33 #[.slice (some ⟨g, 0, none⟩) 4 c, .int .i64 x] w fun e w' => BoolIs e (x = 1 ∨ x = 2 ∨ x = 4 ∨ x = 8) ∧ w = w' := by
  have c0 := h 0 _ rfl
  have c1 := h 1 _ rfl
  have c2 := h 2 _ rfl
  have c3 := h 3 _ rfl
  clear h
  have hidx : Calls Try.prog 69 #[.slice (some ⟨g, 0, none⟩) 4 c, .int .i64 x] w fun e w' => (∃ i : Int, e = .returned (.int .i64 i) ∧ (0 ≤ i ↔ (x = 1 ∨ x = 2 ∨ x = 4 ∨ x = 8))) ∧ w = w' := by
    have key : ∀ (k : Nat) (hk : k < 4), ∃ v : Int, ([1, 2, 4, 8] : List Int)[k]? = some v ∧ w.cell? ⟨g, k, none⟩ = some (.int .i64 v) := by
      intro k hk
      match k, hk with
      | 0, _ => exact ⟨1, rfl, c0⟩
      | 1, _ => exact ⟨2, rfl, c1⟩
      | 2, _ => exact ⟨4, rfl, c2⟩
      | 3, _ => exact ⟨8, rfl, c3⟩
    have KEY := Lib.hid key
    clear key c0 c1 c2 c3
    have mem : (x = 1 ∨ x = 2 ∨ x = 4 ∨ x = 8) ↔ x ∈ ([1, 2, 4, 8] : List Int) := by simp
    rw [mem]
    clear mem
    obtain ⟨L, hL⟩ : ∃ L, ([1, 2, 4, 8] : List Int) = L := ⟨_, rfl⟩
    have hLl : Hid (L.length = 4) := by rw [← hL]; rfl
    rw [hL] at KEY
    simp only [hL]
    clear hL
    go_enter Try.func69, Try.ntmps69
    go_wp2_with fail
    go_loopw [8] (fun n wr => ∃ k : Nat, k ≤ 4 ∧ n = .int .i64 k ∧ wr = w ∧ Hid (x ∉ L.take k)) (fun n _ => 4 - (intOf n).toNat)
    case atStart => exact ⟨0, by omega, rfl, rfl, by simp [Hid]⟩
    case round =>
      obtain ⟨k, hk, rfl, hwr, hP⟩ := hrel
      obtain rfl : w = wr := hwr.symm
      by_cases hlt : k < 4
      · have hk0 : (0 : Int) ≤ (k : Int) := Int.natCast_nonneg _
        have hk1 : (k : Int) < 4 := by omega
        obtain ⟨v, hv, hc⟩ := KEY.out k hlt
        have HV := Lib.hid hv
        clear hv
        by_cases hxv : x = v
        · subst hxv
          have HM : Hid (x ∈ L) := List.mem_of_getElem? HV.out
          go_wp2_with fail
          go_ret
          exact ⟨⟨(k : Int), rfl, (fun _ => HM.out), fun _ => hk0⟩, rfl⟩
        · have b0 : (x == v) = false := by simpa using hxv
          have hP2 : Hid (x ∉ L.take (k + 1)) := by
            unfold Hid
            rw [List.take_add_one, HV.out]
            simp only [Option.toList_some, List.mem_append, List.mem_singleton, not_or]
            exact ⟨hP.out, hxv⟩
          clear hxv
          go_wp2_with fail
          go_roundw
          case rel => exact ⟨k + 1, by omega, by go_num, trivial, hP2⟩
          case measure => simp [intOf]; omega
      · obtain rfl : k = 4 := by omega
        go_wp2_with fail
        go_ret
        refine ⟨⟨-1, rfl, ?_⟩, rfl⟩
        have h := hP.out
        rw [List.take_of_length_le (by rw [hLl.out]; omega)] at h
        exact ⟨fun h0 => by omega, fun h0 => absurd h0 h⟩
  go_enter Try.func33, Try.ntmps33
  go_wp2_with (go_at_call 69; refine hidx.mono ?_; rintro e w' ⟨⟨i, rfl, hi⟩, rfl⟩)
  go_ret
  exact ⟨bool_is _ (by simp), rfl⟩
end Go.Proofs.Ytnfpiocjdhipcaa.TC
