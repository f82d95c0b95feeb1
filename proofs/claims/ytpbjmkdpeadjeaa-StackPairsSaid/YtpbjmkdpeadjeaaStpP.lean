/- tappetlaw14: place. -/
import Derived.Test.YtpbjmkdpeadjeaaStpF
import Derived.Test.YtpbjmkdpeadjeaaArgs
namespace Go.Proofs.Ytpbjmkdpeadjeaa.SP
open Go.RowKit Go.Fr

theorem elem_p {w wr : World} {ao : Option Addr} {ts : List Pr} (hc : CameL w 2 encP ao ts) (hb : Below w.heap.size w wr) {k : Nat} {y : Pr} (hx : ts[k]? = some y) :
    ∃ ab off, ao = some ⟨ab, off, none⟩ ∧ wr.cell? ⟨ab, off + k * 2, none⟩ = some (.int .i64 y.1) ∧ wr.cell? ⟨ab, off + k * 2 + 1, none⟩ = some (.string y.2) := by
  obtain ⟨ab, off, rfl, hab, hcl⟩ := hc (by rintro rfl; simp at hx)
  refine ⟨ab, off, rfl, ?_, ?_⟩
  · rw [hb.cell (by exact hab)]; simpa using hcl k _ hx 0 _ rfl
  · rw [hb.cell (by exact hab)]; simpa using hcl k _ hx 1 _ rfl

def First (ts : List Pr) (k : Nat) : Prop := k < ts.length ∧ ∀ j, j < k → ts[j]? ≠ ts[k]?

set_option maxRecDepth 100000 in
set_option maxHeartbeats 4000000 in
theorem place_ok (w0 w : World) (hb : Below w0.heap.size w0 w) (ao : Option Addr) (c : Nat) (ts : List Pr) (n : Int) (hn0 : 0 < ts.length) (hm : ts.length ≤ 9223372036854775807) (hc : CameL w0 2 encP ao ts) :
    Calls Try.prog 14 #[.slice ao ts.length c, .int .i64 n] w fun e w' => ∃ k : Nat, e = .returned (.int .i64 k) ∧ First ts k ∧ Kept (fun _ => False) w w' := by
  have HC := Lib.hid hc
  have HB := Lib.hid hb
  clear hc hb
  have hne : ¬ (ts.length : Int) = 0 := by omega
  have hnl : ¬ ts = [] := by rintro rfl; simp at hn0
  obtain ⟨r, hr⟩ : ∃ r, n.tmod (ts.length : Int) = r := ⟨_, rfl⟩
  have hr1 : r < (ts.length : Int) := by rw [← hr]; exact Int.tmod_lt_of_pos _ (by omega)
  have hr2 : -(ts.length : Int) < r := by
    rw [← hr]
    have := Int.lt_tmod_of_pos n (b := (ts.length : Int)) (by omega)
    omega
  obtain ⟨p, hp, hpl⟩ : ∃ p : Nat, (if r < 0 then r + ts.length else r) = p ∧ p < ts.length := by
    by_cases h : r < 0
    · exact ⟨(r + ts.length).toNat, by rw [if_pos h]; omega, by omega⟩
    · exact ⟨r.toNat, by rw [if_neg h]; omega, by omega⟩
  obtain ⟨y, hy⟩ : ∃ y, ts[p]? = some y := ⟨_, List.getElem?_eq_getElem hpl⟩
  have HY := Lib.hid hy
  have hw : IntKind.i64.wrap r = r := IntWalk.i64_in _ (by omega)
  clear hy
  have hmain : True := trivial
  by_cases h0 : r < 0
  · have hd : decide (r < 0) = true := by simpa using h0
    rw [if_pos h0] at hp
    have hw2 : IntKind.i64.wrap (r + ts.length) = r + ts.length := IntWalk.i64_in _ (by omega)
    go_enter Try.func14, Try.ntmps14
    go_upto_region 4 with fail
    clear hd hw hw2 h0 hp hr1 hr2 hr hne hnl
    go_wp2
    go_loopw [5] (fun i wr => ∃ k m : Nat, k ≤ p ∧ i = .int .i64 k ∧ wr = w.drewN m ∧ Hid (∀ j, j < k → ts[j]? ≠ some y)) (fun i _ => p - (intOf i).toNat)
    case atStart => exact ⟨0, 0, Nat.zero_le _, rfl, rfl, fun j hj => by omega⟩
    case round =>
      obtain ⟨k, m, hk, rfl, rfl, hno⟩ := hrel
      have hk0 : (0 : Int) ≤ (k : Int) := by omega
      have hp0 : (0 : Int) ≤ (p : Int) := by omega
      have hp1 : (p : Int) < (ts.length : Int) := by omega
      by_cases hlt : k < p
      · have hk1 : (k : Int) < (ts.length : Int) := by omega
        have hkp : (k : Int) < (p : Int) := by omega
        obtain ⟨z, hz⟩ : ∃ z, ts[k]? = some z := ⟨_, List.getElem?_eq_getElem (by omega)⟩
        obtain ⟨ab, off, rfl, q0, q1⟩ := elem_p HC.out HB.out HY.out
        obtain ⟨ab', off', hv, z0, z1⟩ := elem_p HC.out HB.out hz
        cases hv
        have HZ := Lib.hid hz
        clear hz
        by_cases h1 : z.1 = y.1
        · have e1 : (z.1 == y.1) = true := by simpa using h1
          by_cases h2 : z.2 = y.2
          · have hzy : z = y := Prod.ext h1 h2
            have e2 : (z.2.toList == y.2.toList) = true := by simp [h2]
            have hF : Hid (First ts k) := ⟨by omega, fun j hj => by rw [HZ.out, hzy]; exact hno.out j hj⟩
            clear h1 h2 hzy
            go_wp2
            go_quiet (fail)
            go_wp2
            go_ret
            exact ⟨k, rfl, hF.out, ((Kept.refl _ w).drewN m).drewN _⟩
          · have hN : Hid (ts[k]? ≠ some y) := by rw [HZ.out]; intro e; cases e; exact h2 rfl
            have e2 : (z.2.toList == y.2.toList) = false := by simpa using fun h => h2 (toList_inj h)
            clear h1 h2
            go_wp2
            go_quiet (fail)
            go_wp2
            go_roundw
            case rel => exact ⟨k + 1, _, by omega, by go_num, rfl, fun j hj => by
              rcases Nat.lt_or_ge j k with h1 | h1
              · exact hno.out j h1
              · obtain rfl : j = k := by omega
                exact hN.out⟩
            case measure => simp [intOf]; omega
        · have hN : Hid (ts[k]? ≠ some y) := by rw [HZ.out]; intro e; cases e; exact h1 rfl
          have e1 : (z.1 == y.1) = false := by simpa using h1
          clear h1
          go_wp2
          go_quiet (fail)
          go_wp2
          go_roundw
          case rel => exact ⟨k + 1, _, by omega, by go_num, rfl, fun j hj => by
            rcases Nat.lt_or_ge j k with h1 | h1
            · exact hno.out j h1
            · obtain rfl : j = k := by omega
              exact hN.out⟩
          case measure => simp [intOf]; omega
      · obtain rfl : k = p := by omega
        have hF : Hid (First ts k) := ⟨by omega, fun j hj => by rw [HY.out]; exact hno.out j hj⟩
        have hkk : ¬ (k : Int) < (k : Int) := by omega
        go_wp2
        go_ret
        exact ⟨k, rfl, hF.out, (Kept.refl _ w).drewN m⟩
  · have hd : decide (r < 0) = false := by simpa using h0
    rw [if_neg h0] at hp
    go_enter Try.func14, Try.ntmps14
    go_upto_region 4 with fail
    clear hd hw h0 hp hr1 hr2 hr hne hnl
    go_wp2
    go_loopw [5] (fun i wr => ∃ k m : Nat, k ≤ p ∧ i = .int .i64 k ∧ wr = w.drewN m ∧ Hid (∀ j, j < k → ts[j]? ≠ some y)) (fun i _ => p - (intOf i).toNat)
    case atStart => exact ⟨0, 0, Nat.zero_le _, rfl, rfl, fun j hj => by omega⟩
    case round =>
      obtain ⟨k, m, hk, rfl, rfl, hno⟩ := hrel
      have hk0 : (0 : Int) ≤ (k : Int) := by omega
      have hp0 : (0 : Int) ≤ (p : Int) := by omega
      have hp1 : (p : Int) < (ts.length : Int) := by omega
      by_cases hlt : k < p
      · have hk1 : (k : Int) < (ts.length : Int) := by omega
        have hkp : (k : Int) < (p : Int) := by omega
        obtain ⟨z, hz⟩ : ∃ z, ts[k]? = some z := ⟨_, List.getElem?_eq_getElem (by omega)⟩
        obtain ⟨ab, off, rfl, q0, q1⟩ := elem_p HC.out HB.out HY.out
        obtain ⟨ab', off', hv, z0, z1⟩ := elem_p HC.out HB.out hz
        cases hv
        have HZ := Lib.hid hz
        clear hz
        by_cases h1 : z.1 = y.1
        · have e1 : (z.1 == y.1) = true := by simpa using h1
          by_cases h2 : z.2 = y.2
          · have hzy : z = y := Prod.ext h1 h2
            have e2 : (z.2.toList == y.2.toList) = true := by simp [h2]
            have hF : Hid (First ts k) := ⟨by omega, fun j hj => by rw [HZ.out, hzy]; exact hno.out j hj⟩
            clear h1 h2 hzy
            go_wp2
            go_quiet (fail)
            go_wp2
            go_ret
            exact ⟨k, rfl, hF.out, ((Kept.refl _ w).drewN m).drewN _⟩
          · have hN : Hid (ts[k]? ≠ some y) := by rw [HZ.out]; intro e; cases e; exact h2 rfl
            have e2 : (z.2.toList == y.2.toList) = false := by simpa using fun h => h2 (toList_inj h)
            clear h1 h2
            go_wp2
            go_quiet (fail)
            go_wp2
            go_roundw
            case rel => exact ⟨k + 1, _, by omega, by go_num, rfl, fun j hj => by
              rcases Nat.lt_or_ge j k with h1 | h1
              · exact hno.out j h1
              · obtain rfl : j = k := by omega
                exact hN.out⟩
            case measure => simp [intOf]; omega
        · have hN : Hid (ts[k]? ≠ some y) := by rw [HZ.out]; intro e; cases e; exact h1 rfl
          have e1 : (z.1 == y.1) = false := by simpa using h1
          clear h1
          go_wp2
          go_quiet (fail)
          go_wp2
          go_roundw
          case rel => exact ⟨k + 1, _, by omega, by go_num, rfl, fun j hj => by
            rcases Nat.lt_or_ge j k with h1 | h1
            · exact hno.out j h1
            · obtain rfl : j = k := by omega
              exact hN.out⟩
          case measure => simp [intOf]; omega
      · obtain rfl : k = p := by omega
        have hF : Hid (First ts k) := ⟨by omega, fun j hj => by rw [HY.out]; exact hno.out j hj⟩
        have hkk : ¬ (k : Int) < (k : Int) := by omega
        go_wp2
        go_ret
        exact ⟨k, rfl, hF.out, (Kept.refl _ w).drewN m⟩
end Go.Proofs.Ytpbjmkdpeadjeaa.SP
