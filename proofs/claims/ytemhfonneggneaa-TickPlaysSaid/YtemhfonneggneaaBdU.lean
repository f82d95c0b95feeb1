/- The tables of the law's own making may be just if their counter's maximum may. -/
import Derived.Test.YtemhfonneggneaaBdV
import Derived.Test.YtemhfonneggneaaTbM
import Derived.Test.YtemhfonneggneaaBdP
namespace Go.Proofs.Ytemhfonneggneaa.BD
open Go.RowKit Go.Fr Go.Tb Go.Proofs.Ytemhfonneggneaa.TC

theorem count_one (l : List Int) (h : ∀ a ∈ l, a = 0) (c : Int) : l.count c ≤ l.length := List.count_le_length

theorem one_wf {most : Nat} (hm : most ≤ 4294967295) (ta ra ca aa ia : Option Addr) : (oneT most ta ra ca aa ia).Wf := by
  refine ⟨?_, ?_, ?_, ?_, ?_, ?_, ?_, ?_, ?_⟩
  · simp [oneT, I64]
  · simp [oneT]
  · intro x hx
    simp only [oneT, List.mem_singleton] at hx
    subst hx
    simp [I64, U32]
  · intro x hx
    simp only [oneT, List.mem_singleton] at hx
    subst hx
    simp [I64]
  · intro x hx
    simp [oneT] at hx
  · intro x hx
    simp only [oneT, List.mem_singleton] at hx
    subst hx
    refine ⟨⟨?_, ?_⟩, ⟨?_, ?_⟩, ⟨?_, ?_⟩⟩ <;> dsimp only <;> omega
  · intro x hx
    simp only [oneT, List.mem_cons, List.not_mem_nil, or_false, or_self] at hx
    subst hx
    simp [I64, U32, alR]
  · intro x hx
    simp only [oneT, List.mem_cons, List.not_mem_nil, or_false] at hx
    rcases hx with rfl | rfl <;> simp [I64]
  · intro x hx
    simp [oneT] at hx

theorem one_check (most : Nat) (ta ra ca aa ia : Option Addr) : CheckP (oneT most ta ra ca aa ia) ↔ 1 ≤ most ∧ most ≤ 2147483647 := by
  constructor
  · rintro ⟨_, _, _, ⟨_, ⟨hc, _⟩, _⟩, _⟩
    have := (hc (most, 1, 1) (by simp [oneT])).1
    dsimp only at this
    omega
  · rintro ⟨h1, h2⟩
    refine ⟨?_, ?_, ?_, ⟨⟨?_, ?_⟩, ⟨?_, ?_⟩, ?_, ?_⟩, ⟨?_, ?_, ?_, ?_⟩⟩
    · unfold FewP
      simp [oneT]
    · intro x hx
      simp [oneT] at hx
    · intro x hx
      simp only [oneT, List.mem_singleton] at hx
      subst hx
      simp
    · intro x hx
      simp only [oneT, List.mem_singleton] at hx
      subst hx
      refine ⟨⟨by simp, ⟨(1, 1), by simp [oneT], rfl⟩, by simp, by simp, by simp⟩, by simp, ?_, by simp⟩
      intro i hi
      simp at hi
    · show ringsB [_] 64 = [(1, 1)]
      simp [ringsB, sumAt]
    · intro x hx
      simp only [oneT, List.mem_singleton] at hx
      subst hx
      refine ⟨⟨?_, ?_⟩, ?_, ?_, ?_⟩ <;> dsimp only <;> omega
    · intro x hx
      simp only [oneT, List.mem_cons, List.not_mem_nil, or_false, or_self] at hx
      subst hx
      refine ⟨by simp [oneT, alR], ⟨by simp [alR], by simp [alR], Or.inr ⟨Or.inl rfl, by simp [alR], by simp [alR, oneT], Or.inl ⟨rfl, rfl⟩⟩⟩, by simp [alR], (most, 1, 1), by simp [oneT, alR], Or.inl ⟨rfl, rfl, rfl⟩⟩
    · intro k hk x hx
      have hk2 : k < 2 := by simpa [oneT] using hk
      have hown : ∀ pr, OwnP (oneT most ta ra ca aa ia) pr [] := fun pr i hi => by simp at hi
      rcases (show k = 0 ∨ k = 1 by omega) with rfl | rfl
      · have : x = ⟨2, 70, none, 0, []⟩ := by simpa [oneT] using hx.symm
        subst this
        exact ⟨⟨Or.inr rfl, by simp, hown _, by simp⟩, fun j y hj => by omega⟩
      · have : x = ⟨1, 90, none, 0, []⟩ := by simpa [oneT] using hx.symm
        subst this
        refine ⟨⟨Or.inl rfl, by simp, hown _, by simp⟩, fun j y hj hy => ?_⟩
        obtain rfl : j = 0 := by omega
        have : y = ⟨2, 70, none, 0, []⟩ := by simpa [oneT] using hy.symm
        subst this
        exact ⟨by simp, Or.inr (by simp)⟩
    · intro x hx
      simp [oneT] at hx
    · simp [oneT]
    · simp [oneT]
    · refine ⟨by simp [oneT], fun c => ?_, fun c => by simp [oneT, srcs], Or.inl rfl⟩
      have : (ctrs (oneT most ta ra ca aa ia).alarms).count c ≤ 2 := List.count_le_length
      show ((ctrs (oneT most ta ra ca aa ia).alarms).count c : Int) ≤ 2
      omega
    · simp [oneT, backsA, backsM, alR]
theorem one_als : alsOf [alR, alR] 0 = [0, 1] := by rfl
end Go.Proofs.Ytemhfonneggneaa.BD
