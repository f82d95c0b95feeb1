/- Lists that lie in memory, as what an append takes and what it leaves. No program is in sight here. -/
import Derived.Test.YtnfpiocjdhipcaaTab
import Derived.Test.YtnfpiocjdhipcaaTri
namespace Go.Tb
open Go.RowKit Go.Fr

theorem camel_shows {α : Type} {w : World} {sz : Nat} {enc : α → List Value} (he : ∀ x, (enc x).length = sz) (h0 : 0 < sz) {ao : Option Addr} {l : List α} (hc : CameL w sz enc ao l) : Shows w sz ao l.length (l.flatMap enc) := by
  refine ⟨flat_length he l, ?_, ?_⟩
  · intro h
    cases l with
    | nil => rfl
    | cons a l => obtain ⟨g, off, e, _⟩ := hc (by simp); rw [h] at e; cases e
  · intro ad ha j u hu
    have hj := (List.getElem?_eq_some_iff.1 hu).1
    rw [flat_length he l] at hj
    have hne : l ≠ [] := by rintro rfl; simp at hj
    obtain ⟨g, off, e, hg, hcc⟩ := hc hne
    rw [ha] at e
    cases e
    have hjl : j / sz < l.length := by rw [Nat.div_lt_iff_lt_mul h0]; exact hj
    have hjm : j % sz < sz := Nat.mod_lt _ h0
    have hsum : j / sz * sz + j % sz = j := by rw [Nat.mul_comm]; exact Nat.div_add_mod j sz
    obtain ⟨x, hx⟩ : ∃ x, l[j / sz]? = some x := ⟨_, List.getElem?_eq_getElem hjl⟩
    have h2 := flat_get he l (j / sz) (j % sz) x hx hjm
    rw [hsum, hu] at h2
    have := hcc (j / sz) x hx (j % sz) u h2.symm
    rw [Addr.add_lit]
    rwa [show off + j / sz * sz + j % sz = off + j by omega] at this
theorem camel_of_row {α : Type} {w : World} {e : TypeId} {sz : Nat} {enc : α → List Value} (he : ∀ x, (enc x).length = sz) {ao : Option Addr} {c : Nat} {l : List α} (h : Row w e sz (.slice ao l.length c) l.length (l.flatMap enc)) : CameL w sz enc ao l := by
  intro hne
  rcases row_forms h with ⟨_, h0⟩ | ⟨g, c', hv, _, _, hg⟩
  · exact absurd (List.length_eq_zero_iff.1 h0) hne
  · cases hv
    exact ⟨g, 0, rfl, hg, fun i x hx j v hv => by rw [Nat.zero_add]; exact rows_cell he h hx hv⟩
theorem camel_none {α : Type} {w : World} {sz : Nat} {enc : α → List Value} {l : List α} (h : CameL w sz enc none l) : l = [] := by
  cases l with
  | nil => rfl
  | cons a l => obtain ⟨_, _, e, _⟩ := h (by simp); cases e
theorem encA_len (x : AlarmR) : (encA x).length = 7 := rfl
theorem encT_len (x : TaskR) : (encT x).length = 8 := rfl
theorem encI_len (x : IsrR) : (encI x).length = 3 := rfl
theorem encM_len (x : MsgR) : (encM x).length = 8 := rfl
end Go.Tb
