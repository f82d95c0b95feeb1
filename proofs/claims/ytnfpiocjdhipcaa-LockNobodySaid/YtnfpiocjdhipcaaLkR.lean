/- slices.Reverse over ints. -/
import Derived.Test.YtnfpiocjdhipcaaLks
namespace Go.Proofs.Ytnfpiocjdhipcaa.LK
open Go.RowKit Go.Fr
attribute [local go_sem] Oper.semAt_some

/-- the first k and the last k are turned -/
def RevK (l m : List Int) (k : Nat) : Prop := m.length = l.length ∧ ∀ t, t < l.length → m[t]? = if t < k ∨ l.length - k ≤ t then l[l.length - 1 - t]? else l[t]?
theorem revK_0 (l : List Int) : RevK l l 0 := ⟨rfl, fun t ht => by rw [if_neg (by omega)]⟩
theorem revK_end {l m : List Int} {k : Nat} (h : RevK l m k) (hk : l.length ≤ 2 * k + 1) : m = l.reverse := by
  apply List.ext_getElem?
  intro t
  by_cases ht : t < l.length
  · rw [h.2 t ht, List.getElem?_reverse ht]
    by_cases h1 : t < k ∨ l.length - k ≤ t
    · rw [if_pos h1]
    · rw [if_neg h1]
      congr 1
      omega
  · rw [List.getElem?_eq_none (by rw [h.1]; omega), List.getElem?_eq_none (by simp; omega)]
theorem revK_step {l m : List Int} {k : Nat} {x y : Int} (h : RevK l m k) (hk : 2 * k + 1 < l.length) (hx : m[k]? = some x) (hy : m[l.length - 1 - k]? = some y) : RevK l ((m.set k y).set (l.length - 1 - k) x) (k + 1) := by
  have e1 := h.2 k (by omega)
  rw [if_neg (by omega), hx] at e1
  have e2 := h.2 (l.length - 1 - k) (by omega)
  rw [if_neg (by omega), hy] at e2
  refine ⟨by simp [h.1], fun t ht => ?_⟩
  by_cases h1 : l.length - 1 - k = t
  · rw [List.getElem?_set, if_pos h1, if_pos (by simp [h.1]; omega), if_pos (by omega), e1]
    congr 1
    omega
  · rw [List.getElem?_set_ne h1]
    by_cases h2 : k = t
    · rw [List.getElem?_set, if_pos h2, if_pos (by rw [h.1]; omega), if_pos (by omega), e2]
      congr 1
      omega
    · rw [List.getElem?_set_ne h2, h.2 t ht]
      by_cases h3 : t < k ∨ l.length - k ≤ t
      · rw [if_pos h3, if_pos (by omega)]
      · rw [if_neg h3, if_neg (by omega)]

set_option maxRecDepth 100000 in
set_option maxHeartbeats 8000000 in
theorem reverse_ok {w : World} {ao : Option Addr} {c : Nat} {l : List Int} (h : Row w 3 1 (.slice ao l.length c) l.length (l.map (Value.int .i64))) (hn : l.length ≤ 2147483647) :
    Calls Try.prog 35 #[.slice ao l.length c] w fun e w' => e = .returned (.tuple #[]) ∧ Row w' 3 1 (.slice ao l.length c) l.length (l.reverse.map (Value.int .i64)) ∧ Kept (fun g => (Value.slice ao l.length c).ownBlock = some g) w w' := by
  have h0 : Hid (∃ m, RevK l m 0 ∧ Row w 3 1 (.slice ao l.length c) l.length (m.map (Value.int .i64)) ∧ Kept (fun g => (Value.slice ao l.length c).ownBlock = some g) w w) := ⟨l, revK_0 l, h, Kept.refl _ _⟩
  clear h
  go_enter Try.func35, Try.ntmps35
  go_wp2_with fail
  go_loopw [2, 3] (fun i j wr => ∃ (k : Nat) (z : Int), i = .int .i64 k ∧ j = .int .i64 z ∧ z = (l.length : Int) - 1 - k ∧ k ≤ l.length ∧ Hid (∃ m, RevK l m k ∧ Row wr 3 1 (.slice ao l.length c) l.length (m.map (Value.int .i64)) ∧ Kept (fun g => (Value.slice ao l.length c).ownBlock = some g) w wr)) (fun i _ _ => l.length - (intOf i).toNat)
  case atStart => exact ⟨0, _, rfl, rfl, by omega, Nat.zero_le _, h0⟩
  case round =>
    clear h0
    obtain ⟨k, z, rfl, rfl, hz, hk, m, hm, hr, hk2⟩ := hrel
    by_cases hlt : (k : Int) < z
    · obtain ⟨p, rfl⟩ := Int.eq_ofNat_of_zero_le (show 0 ≤ z by omega)
      have hml := hm.1
      have hp : p = l.length - 1 - k := by omega
      have hpl : p < l.length := by omega
      have hkl : k < l.length := by omega
      obtain ⟨x, hx⟩ : ∃ x, m[k]? = some x := ⟨_, List.getElem?_eq_getElem (by omega)⟩
      obtain ⟨y, hy⟩ : ∃ y, m[p]? = some y := ⟨_, List.getElem?_eq_getElem (by omega)⟩
      have hst : Hid (RevK l ((m.set k y).set p x) (k + 1)) := by
        rw [hp] at hy ⊢
        exact revK_step hm (by omega) hx hy
      rcases row_forms hr with ⟨_, h1⟩ | ⟨g, cap, hv, hc1, hc2, hg⟩
      · omega
      cases hv
      have cx := row_cell hr k (u := .int .i64 x) (by rw [List.getElem?_map, hx]; rfl)
      have cy := row_cell hr p (u := .int .i64 y) (by rw [List.getElem?_map, hy]; rfl)
      have fx := row_frozen hr k
      have fy := row_frozen hr p
      have hk0 : (0 : Int) ≤ (k : Int) := by omega
      have hp0 : (0 : Int) ≤ (p : Int) := by omega
      have hk1 : (k : Int) < (l.length : Int) := by omega
      have hp1 : (p : Int) < (l.length : Int) := by omega
      have hne : k ≠ p := by omega
      have hpm : ((p : Int) - 1) = ((p : Int) - 1) := rfl
      have HR := Lib.hid hr
      have HK2 := Lib.hid hk2
      have HZ := Lib.hid hz
      have HP := Lib.hid hp
      clear hm hr hk2 hx hy hz hp hpm
      go_wp2_with fail
      go_region
      have hfin : Hid (∃ m', RevK l m' (k + 1) ∧ Row ((wr.setCell ⟨g, k, none⟩ (.int .i64 y)).setCell ⟨g, p, none⟩ (.int .i64 x)).drew 3 1 (.slice (some ⟨g, 0, none⟩) l.length c) l.length (m'.map (Value.int .i64)) ∧ Kept (fun i => (Value.slice (some ⟨g, 0, none⟩) l.length c).ownBlock = some i) w ((wr.setCell ⟨g, k, none⟩ (.int .i64 y)).setCell ⟨g, p, none⟩ (.int .i64 x)).drew) := by
        have h1 := row_set HR.out k (.int .i64 y)
        have h2 := row_set h1 p (.int .i64 x)
        rw [← List.map_set, ← List.map_set] at h2
        exact ⟨_, hst.out, h2, (((HK2.out.set (b := g) k (Or.inl rfl) _).set (b := g) p (Or.inl rfl) _).drew)⟩
      clear cx cy fx fy hst HR HK2
      go_wp2_with fail
      go_roundw
      case rel => exact ⟨k + 1, (p : Int) - 1, by go_num, rfl, by have := HZ.out; push_cast; omega, by omega, hfin⟩
      case measure => simp [intOf]; omega
    · have hrev := revK_end hm (by omega)
      subst hrev
      have HR := Lib.hid hr
      have HK2 := Lib.hid hk2
      clear hm hr hk2
      go_wp2_with fail
      go_end0
      exact ⟨rfl, by rw [← List.map_reverse]; exact HR.out, HK2.out⟩
end Go.Proofs.Ytnfpiocjdhipcaa.LK
