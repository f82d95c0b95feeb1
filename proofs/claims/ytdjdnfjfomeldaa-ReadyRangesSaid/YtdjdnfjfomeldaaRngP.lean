/- A list that lies in a turned row of cells: what putting, taking, making space do to it. No program is in sight here. -/
import Derived.Test.YtdjdnfjfomeldaaMem
namespace Go.Fr
open Go.RowKit

/-- the list l lies in the cells cs from place f on, round their end -/
structure Ringed {α : Type} (cs : List α) (f : Nat) (l : List α) : Prop where
  le : l.length ≤ cs.length
  start : f < cs.length ∨ (f = 0 ∧ cs.length = 0)
  place : ∀ (i : Nat) (x : α), l[i]? = some x → cs[(f + i) % cs.length]? = some x

theorem mod_two {f i C : Nat} (hf : f < C) (hi : i ≤ C) : (f + i) % C = if f + i < C then f + i else f + i - C := by
  split
  · exact Nat.mod_eq_of_lt (by assumption)
  · rw [Nat.mod_eq_sub_mod (by omega), Nat.mod_eq_of_lt (by omega)]

section
variable {α : Type} {cs : List α} {f : Nat} {l : List α}

theorem Ringed.nil : Ringed ([] : List α) 0 [] := ⟨Nat.le_refl _, Or.inr ⟨rfl, rfl⟩, by simp⟩

theorem Ringed.pos (h : Ringed cs f l) (hl : 0 < cs.length) : f < cs.length := by
  rcases h.start with h1 | ⟨_, h1⟩ <;> omega

/-- the things are let go -/
theorem Ringed.clear (z : α) (n : Nat) : Ringed (List.replicate n z) 0 ([] : List α) := ⟨by simp, by simp; omega, by simp⟩

/-- the things are laid into new cells -/
theorem Ringed.fresh (l xs : List α) : Ringed (l ++ xs) 0 l := by
  refine ⟨by simp, ?_, fun i x hx => ?_⟩
  · rw [List.length_append]; omega
  · have hi := (List.getElem?_eq_some_iff.1 hx).1
    rw [Nat.zero_add, Nat.mod_eq_of_lt (by simp; omega), List.getElem?_append_left hi]
    exact hx

theorem Ringed.last (h : Ringed cs f l) (hl : l.length < cs.length) (x : α) : Ringed (cs.set ((f + l.length) % cs.length) x) f (l ++ [x]) := by
  have hf := h.pos (by omega)
  refine ⟨by simp; omega, by simp; omega, fun i y hy => ?_⟩
  have hi := (List.getElem?_eq_some_iff.1 hy).1
  simp at hi
  rw [List.length_set, List.getElem?_set]
  rw [mod_two hf (by omega), mod_two hf (by omega)]
  rcases Nat.lt_or_ge i l.length with h1 | h1
  · rw [List.getElem?_append_left h1] at hy
    have hp := h.place i y hy
    rw [mod_two hf (by omega)] at hp
    rw [if_neg (by split <;> split <;> omega)]
    exact hp
  · obtain rfl : i = l.length := by omega
    simp at hy
    subst hy
    rw [if_pos rfl, if_pos (by split <;> omega)]

theorem Ringed.first (h : Ringed cs f l) (hl : l.length < cs.length) (x : α) : Ringed (cs.set ((f + cs.length - 1) % cs.length) x) ((f + cs.length - 1) % cs.length) (x :: l) := by
  have hf := h.pos (by omega)
  have hm : (f + cs.length - 1) % cs.length = if f = 0 then cs.length - 1 else f - 1 := by
    split
    · subst f; rw [Nat.zero_add, Nat.mod_eq_of_lt (by omega)]
    · rw [show f + cs.length - 1 = f - 1 + cs.length by omega, Nat.add_mod_right, Nat.mod_eq_of_lt (by omega)]
  rw [hm]
  obtain ⟨q, hq0⟩ : ∃ q, (if f = 0 then cs.length - 1 else f - 1) = q := ⟨_, rfl⟩
  rw [hq0]
  have hq1 : (f = 0 ∧ q = cs.length - 1) ∨ (0 < f ∧ q = f - 1) := by split at hq0 <;> omega
  have hp : q < cs.length := by omega
  refine ⟨by simp; omega, by simp; omega, fun i y hy => ?_⟩
  have hi := (List.getElem?_eq_some_iff.1 hy).1
  simp at hi
  rw [List.length_set, List.getElem?_set]
  rw [mod_two hp (by omega)]
  cases i with
  | zero =>
    simp at hy
    subst hy
    rw [if_pos (by split <;> omega), if_pos hp]
  | succ i =>
    simp at hy
    have hq := h.place i y hy
    rw [mod_two hf (by omega)] at hq
    rw [if_neg (by split <;> omega), ← hq]
    congr 1
    split <;> split <;> omega

theorem Ringed.head {x : α} (h : Ringed cs f (x :: l)) : f < cs.length ∧ cs[f]? = some x := by
  have hl := h.le
  simp at hl
  have hf := h.pos (by omega)
  have := h.place 0 x rfl
  rw [Nat.add_zero, Nat.mod_eq_of_lt hf] at this
  exact ⟨hf, this⟩

theorem Ringed.take {x : α} (h : Ringed cs f (x :: l)) (z : α) : Ringed (cs.set f z) ((f + 1) % cs.length) l := by
  have hl := h.le
  simp at hl
  have hf := h.pos (by omega)
  have h1 : (f + 1) % cs.length < cs.length := Nat.mod_lt _ (by omega)
  refine ⟨by simp; omega, by simp; omega, fun i y hy => ?_⟩
  have hi := (List.getElem?_eq_some_iff.1 hy).1
  have hp := h.place (i + 1) y (by simpa using hy)
  rw [List.length_set, List.getElem?_set, Nat.mod_add_mod, Nat.add_assoc, Nat.add_comm 1 i]
  rw [if_neg ?_]
  · exact hp
  · rw [mod_two hf (by omega)]; split <;> omega

theorem Ringed.get (h : Ringed cs f l) {i : Nat} (hi : i < l.length) : ∃ x, l[i]? = some x ∧ cs[(f + i) % cs.length]? = some x :=
  ⟨_, List.getElem?_eq_getElem hi, h.place i _ (List.getElem?_eq_getElem hi)⟩

end
end Go.Fr
