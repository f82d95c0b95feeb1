/- What is told to come comes, tick by tick. No program is in sight here. -/
import Derived.Test.YtialldmepphloaaClkT
import Derived.Test.YtialldmepphloaaComL
namespace Go.Proofs.Ytialldmepphloaa.CK
open Go.Com

theorem tick_adv (a : Al) : tick1 a = adv 1 a := rfl
theorem outs_one (P : Nat) : ∀ (L : List Al) (k : Nat), outs 1 P L k = (fired L k).map (fun i => (P, i.toNat))
  | [], _ => rfl
  | a :: L, k => by
    rw [outs, fired, outs_one P L (k + 1), List.map_append]
    congr 1
    unfold fires
    split <;> rfl
theorem fired_none {L : List Al} (h : ∀ a ∈ L, a.1 = true → 2 ≤ a.2.1) : ∀ k, fired L k = [] := by
  induction L with
  | nil => intro k; rfl
  | cons a L ih =>
    intro k
    rw [fired, ih (fun b hb => h b (List.mem_cons_of_mem _ hb))]
    have h1 := h a (by simp)
    unfold fires
    cases ha : a.1 with
    | false => simp
    | true =>
      have := h1 ha
      rw [if_neg (by simp; omega)]
      rfl
theorem soon_nil {L : List Al} (h : soon L = none) (F T : Nat) : comingL F L T = [] := by
  cases F with
  | zero => rfl
  | succ F => rw [comingL, h]
theorem soon_keep {L : List Al} (h : soon L = none) : soon (L.map tick1) = none := by
  refine soon_no fun b hb => ?_
  obtain ⟨a, ha, rfl⟩ := List.mem_map.1 hb
  have := (soon_spec L).1 h a ha
  unfold tick1
  rw [this]
  simpa using this
theorem outs_shift (q P : Nat) : ∀ (L : List Al) (k : Nat), (∀ a ∈ L, a.1 = true → q + 2 ≤ a.2.1) → outs (q + 1) P (L.map (adv 1)) k = outs (q + 2) P L k
  | [], _, _ => rfl
  | a :: L, k, h => by
    rw [List.map_cons, outs, outs, outs_shift q P L (k + 1) (fun b hb => h b (List.mem_cons_of_mem _ hb))]
    congr 1
    have h1 := h a (by simp)
    obtain ⟨s, lf, cy⟩ := a
    cases s with
    | false => simp [adv]
    | true =>
      have := h1 rfl
      simp only at this
      have e : adv 1 (true, lf, cy) = (true, lf - 1, cy) := by unfold adv; rw [if_pos rfl, if_neg (by simp only; omega)]
      rw [e]
      by_cases hq : lf = q + 2
      · rw [if_pos (by simp; omega), if_pos (by simp; omega)]
      · rw [if_neg (by simp; omega), if_neg (by simp; omega)]
theorem adv_shift (q : Nat) (a : Al) (h : a.1 = true → q + 2 ≤ a.2.1) : adv (q + 1) (adv 1 a) = adv (q + 2) a := by
  obtain ⟨s, lf, cy⟩ := a
  cases s with
  | false => simp [adv]
  | true =>
    have := h rfl
    simp only at this
    have e : adv 1 (true, lf, cy) = (true, lf - 1, cy) := by unfold adv; rw [if_pos rfl, if_neg (by simp only; omega)]
    rw [e]
    unfold adv
    simp only [if_true]
    rw [show lf - 1 - (q + 1) = lf - (q + 2) by omega]
theorem coming_one {L : List Al} {F T : Nat} (h : soon L = some 1) : comingL (F + 1) L T = (fired L 0).map (fun i => (T + 1, i.toNat)) ++ comingL F (L.map tick1) (T + 1) := by
  rw [comingL, h, ← outs_one]
  rfl
theorem coming_more {L : List Al} {F T q : Nat} (h : soon L = some (q + 2)) : fired L 0 = [] ∧ comingL (F + 1) L T = comingL (F + 1) (L.map tick1) (T + 1) := by
  have hs := (soon_spec L).2 _ h
  refine ⟨fired_none (fun a ha hs' => by have := hs.2 a ha hs'; omega) 0, ?_⟩
  have e : L.map tick1 = L.map (adv 1) := rfl
  have hs2 : soon (L.map (adv 1)) = some (q + 1) := by
    refine soon_of ⟨?_, fun b hb hbs => ?_⟩
    · obtain ⟨⟨s, lf, cy⟩, ha, e1, e2⟩ := hs.1
      simp only at e1 e2
      subst e1 e2
      refine ⟨adv 1 (true, q + 2, cy), List.mem_map_of_mem ha, ?_, ?_⟩ <;> simp [adv]
    · obtain ⟨⟨s, lf, cy⟩, ha, rfl⟩ := List.mem_map.1 hb
      cases s with
      | false => simp [adv] at hbs
      | true =>
        have := hs.2 _ ha rfl
        simp only at this
        have e : adv 1 (true, lf, cy) = (true, lf - 1, cy) := by unfold adv; rw [if_pos rfl, if_neg (by simp only; omega)]
        rw [e]
        simp only; omega
  rw [e, comingL, h, comingL, hs2]
  simp only
  rw [show T + 1 + (q + 1) = T + (q + 2) by omega, outs_shift q _ L 0 hs.2, List.map_map]
  congr 2
  exact (List.map_congr_left fun a ha => (adv_shift q a (hs.2 a ha)).symm)

theorem adv_set {n : Nat} {L : List Al} (_ : ∀ a ∈ L, a.1 = true → 1 ≤ a.2.1) : ∀ a ∈ L.map (adv n), a.1 = true → 1 ≤ a.2.1 := by
  intro b hb hbs
  obtain ⟨a, ha, rfl⟩ := List.mem_map.1 hb
  unfold adv at hbs ⊢
  cases has : a.1 with
  | false => simp [has] at hbs
  | true =>
    simp only [has, if_true] at hbs ⊢
    split
    · rename_i h0
      rw [if_pos h0] at hbs
      split
      · rename_i h1; rw [if_pos h1] at hbs; cases hbs
      · simp only; omega
    · simp only; omega
theorem outs_fst (n P : Nat) : ∀ (L : List Al) (k : Nat), ∀ p ∈ outs n P L k, p.1 = P
  | [], _, p, h => by simp [outs] at h
  | a :: L, k, p, h => by
    rw [outs] at h
    rcases List.mem_append.1 h with h | h
    · split at h
      · simp at h; rw [h]
      · cases h
    · exact outs_fst n P L (k + 1) p h
theorem coming_late : ∀ (F : Nat) (L : List Al) (T : Nat), (∀ a ∈ L, a.1 = true → 1 ≤ a.2.1) → ∀ p ∈ comingL F L T, T + 1 ≤ p.1
  | 0, _, _, _, p, h => by simp [comingL] at h
  | F + 1, L, T, hL, p, h => by
    rw [comingL] at h
    cases hs : soon L with
    | none => rw [hs] at h; cases h
    | some q =>
      rw [hs] at h
      simp only at h
      obtain ⟨⟨a, ha, e1, e2⟩, h3⟩ := (soon_spec L).2 q hs
      have hq := hL a ha e1
      rcases List.mem_append.1 h with h | h
      · have := outs_fst _ _ _ _ p h; omega
      · have := coming_late F _ _ (adv_set hL) p h; omega

/-- what is told still comes: k of the list D have come when T ticks have passed and the alarms stand as in L -/
def Due (M : Nat) (D : List (Nat × Nat)) (L : List Al) (T k : Nat) : Prop := ∃ F, M - k ≤ F ∧ D.drop k = (comingL F L T).take (M - k)

theorem Due.start (M : Nat) (L : List Al) : Due M ((comingL M L 0).take M) L 0 0 := ⟨M, by omega, by simp⟩

theorem Due.tick {M : Nat} {D : List (Nat × Nat)} {L : List Al} {T k : Nat} (h : Due M D L T k) (hk : k < M) (hL : ∀ a ∈ L, a.1 = true → 1 ≤ a.2.1) :
    ∃ F, M - k ≤ F + (fired L 0).length ∧ (1 ≤ (fired L 0).length ∨ M - k ≤ F) ∧ D.drop k = ((fired L 0).map (fun i => (T + 1, i.toNat)) ++ comingL F (L.map tick1) (T + 1)).take (M - k) := by
  obtain ⟨F, hF, hD⟩ := h
  obtain ⟨f, rfl⟩ : ∃ f, F = f + 1 := ⟨F - 1, by omega⟩
  cases hs : soon L with
  | none =>
    have hf : fired L 0 = [] := fired_none (fun a ha hs' => by rw [(soon_spec L).1 hs a ha] at hs'; cases hs') 0
    refine ⟨f + 1, by omega, Or.inr hF, ?_⟩
    rw [hD, soon_nil hs, hf, soon_nil (soon_keep hs)]
    rfl
  | some q =>
    obtain ⟨⟨a, ha, e1, e2⟩, h3⟩ := (soon_spec L).2 q hs
    have hq := hL a ha e1
    by_cases hq1 : q = 1
    · subst hq1
      have hp : 1 ≤ (fired L 0).length := by
        have := outs_pos 1 1 L 0 ((soon_spec L).2 1 hs)
        rwa [outs_one, List.length_map] at this
      exact ⟨f, by omega, Or.inl hp, by rw [hD, coming_one hs]⟩
    · obtain ⟨q', rfl⟩ : ∃ q', q = q' + 2 := ⟨q - 2, by omega⟩
      obtain ⟨h1, h2⟩ := coming_more (F := f) (T := T) hs
      exact ⟨f + 1, by omega, Or.inr hF, by rw [hD, h2, h1]; rfl⟩

/-- at a tick: what fires is what is told -/
theorem Due.at {M : Nat} {D : List (Nat × Nat)} {L : List Al} {T k : Nat} (h : Due M D L T k) (hk : k < M) (hL : ∀ a ∈ L, a.1 = true → 1 ≤ a.2.1) {i : Nat} {y : Int} (hy : (fired L 0)[i]? = some y) (hi : k + i < D.length) :
    D[k + i]? = some (T + 1, y.toNat) := by
  obtain ⟨F, _, _, hD⟩ := h.tick hk hL
  have e : (D.drop k)[i]? = D[k + i]? := by rw [List.getElem?_drop]
  have hil := (List.getElem?_eq_some_iff.1 hy).1
  have hlt : i < (D.drop k).length := by rw [List.length_drop]; omega
  rw [← e]
  rw [hD] at hlt ⊢
  rw [List.length_take] at hlt
  rw [List.getElem?_take_of_lt (by omega), List.getElem?_append_left (by rw [List.length_map]; exact hil), List.getElem?_map, hy]
  rfl
/-- behind a tick: all that fired was told, or all that was told has come and no room was left -/
theorem Due.next {M : Nat} {D : List (Nat × Nat)} {L : List Al} {T k k' : Nat} (h : Due M D L T k) (hk : k < D.length) (hM : D.length ≤ M) (hL : ∀ a ∈ L, a.1 = true → 1 ≤ a.2.1) (hk1 : k' = D.length ∨ k' = k + (fired L 0).length) (hk2 : k' ≤ k + (fired L 0).length) (hk3 : k' ≤ D.length) :
    Due M D (L.map tick1) (T + 1) k' ∨ (k' = D.length ∧ D.length = M) := by
  obtain ⟨F, hF1, hF2, hD⟩ := h.tick (by omega) hL
  have hfin : k' = k + (fired L 0).length → Due M D (L.map tick1) (T + 1) k' := by
    rintro rfl
    refine ⟨F, by omega, ?_⟩
    rw [← List.drop_drop, hD, List.drop_take, List.drop_append_of_le_length (by rw [List.length_map]; exact Nat.le_refl _), List.drop_of_length_le (l := (fired L 0).map _) (by rw [List.length_map]; exact Nat.le_refl _), List.nil_append]
    congr 1
    omega
  by_cases he : k' = k + (fired L 0).length
  · exact Or.inl (hfin he)
  · have hkD : k' = D.length := hk1.resolve_right he
    refine Or.inr ⟨hkD, ?_⟩
    have hl := congrArg List.length hD
    rw [List.length_drop, List.length_take, List.length_append, List.length_map] at hl
    omega
theorem Due.late {M : Nat} {D : List (Nat × Nat)} {L : List Al} {T k : Nat} (h : Due M D L T k) (hL : ∀ a ∈ L, a.1 = true → 1 ≤ a.2.1) {p : Nat × Nat} (hp : D[k]? = some p) : T + 1 ≤ p.1 := by
  obtain ⟨F, _, hD⟩ := h
  have e : (D.drop k)[0]? = some p := by rw [List.getElem?_drop]; simpa using hp
  rw [hD] at e
  exact coming_late F L T hL p (List.mem_of_mem_take (List.mem_of_getElem? e))
theorem Due.none {M : Nat} {D : List (Nat × Nat)} {L : List Al} {T k : Nat} (h : Due M D L T k) (hk : k = D.length) (hM : D.length < M) : ∀ a ∈ L, a.1 = false := by
  obtain ⟨F, hF, hD⟩ := h
  rw [List.drop_of_length_le (by omega)] at hD
  refine (soon_spec L).1 ?_
  cases hs : soon L with
  | none => rfl
  | some q =>
    exfalso
    obtain ⟨f, rfl⟩ : ∃ f, F = f + 1 := ⟨F - 1, by omega⟩
    have hp := outs_pos q (T + q) L 0 ((soon_spec L).2 q hs)
    have hl := congrArg List.length hD
    rw [List.length_take, comingL, hs] at hl
    simp only [List.length_nil, List.length_append] at hl
    omega
end Go.Proofs.Ytialldmepphloaa.CK
