/- What comes first: the least ticks left, again and again, told batch by batch or one by one. No program is in sight here. -/
import Derived.Test.YtemhfonneggneaaKcSum
namespace Go.Com

abbrev Al := Bool × Nat × Nat

/-- n ticks on (n is not more than what is left) -/
def adv (n : Nat) (a : Al) : Al := if a.1 then (if a.2.1 - n = 0 then (if a.2.2 = 0 then (false, 0, 0) else (true, a.2.2, a.2.2)) else (true, a.2.1 - n, a.2.2)) else a
def outs (n T : Nat) : List Al → Nat → List (Nat × Nat)
  | [], _ => []
  | a :: l, k => (if a.1 && decide (a.2.1 - n = 0) then [(T, k)] else []) ++ outs n T l (k + 1)
/-- the least that is left -/
def IsSoon (l : List Al) (n : Nat) : Prop := (∃ a ∈ l, a.1 = true ∧ a.2.1 = n) ∧ ∀ a ∈ l, a.1 = true → n ≤ a.2.1
def soon : List Al → Option Nat
  | [] => none
  | a :: l => if a.1 then some (match soon l with | none => a.2.1 | some m => min a.2.1 m) else soon l
def comingL : Nat → List Al → Nat → List (Nat × Nat)
  | 0, _, _ => []
  | f + 1, l, T => match soon l with
    | none => []
    | some n => outs n (T + n) l 0 ++ comingL f (l.map (adv n)) (T + n)

theorem soon_spec : ∀ (l : List Al), (soon l = none → ∀ a ∈ l, a.1 = false) ∧ ∀ n, soon l = some n → IsSoon l n
  | [] => ⟨by simp, by simp [soon]⟩
  | a :: l => by
    obtain ⟨h1, h2⟩ := soon_spec l
    unfold soon
    cases ha : a.1 with
    | false =>
      simp only [Bool.false_eq_true, if_false]
      refine ⟨fun h b hb => ?_, fun n hn => ?_⟩
      · rcases List.mem_cons.1 hb with rfl | hb
        · exact ha
        · exact h1 h b hb
      · obtain ⟨⟨b, hb, e1, e2⟩, h3⟩ := h2 n hn
        refine ⟨⟨b, List.mem_cons_of_mem _ hb, e1, e2⟩, fun c hc hs => ?_⟩
        rcases List.mem_cons.1 hc with rfl | hc
        · rw [ha] at hs; cases hs
        · exact h3 c hc hs
    | true =>
      simp only [if_true]
      refine ⟨(fun h => by cases h), fun n hn => ?_⟩
      cases hs : soon l with
      | none =>
        simp only [hs, Option.some.injEq] at hn
        subst hn
        refine ⟨⟨a, by simp, ha, rfl⟩, fun c hc hcs => ?_⟩
        rcases List.mem_cons.1 hc with rfl | hc
        · exact Nat.le_refl _
        · rw [h1 hs c hc] at hcs; cases hcs
      | some m =>
        simp only [hs, Option.some.injEq] at hn
        obtain ⟨⟨b, hb, e1, e2⟩, h3⟩ := h2 m hs
        subst hn
        refine ⟨?_, fun c hc hcs => ?_⟩
        · rcases Nat.le_total a.2.1 m with h | h
          · exact ⟨a, by simp, ha, by rw [Nat.min_eq_left h]⟩
          · exact ⟨b, List.mem_cons_of_mem _ hb, e1, by rw [Nat.min_eq_right h, e2]⟩
        · rcases List.mem_cons.1 hc with rfl | hc
          · exact Nat.min_le_left _ _
          · exact Nat.le_trans (Nat.min_le_right _ _) (h3 c hc hcs)

theorem soon_of {l : List Al} {n : Nat} (h : IsSoon l n) : soon l = some n := by
  obtain ⟨⟨a, ha, e1, e2⟩, h3⟩ := h
  cases hs : soon l with
  | none => rw [(soon_spec l).1 hs a ha] at e1; cases e1
  | some m =>
    obtain ⟨⟨b, hb, f1, f2⟩, f3⟩ := (soon_spec l).2 m hs
    have := f3 a ha e1
    have := h3 b hb f1
    congr 1; omega
theorem soon_no {l : List Al} (h : ∀ a ∈ l, a.1 = false) : soon l = none := by
  cases hs : soon l with
  | none => rfl
  | some m =>
    obtain ⟨⟨b, hb, f1, f2⟩, f3⟩ := (soon_spec l).2 m hs
    rw [h b hb] at f1; cases f1

theorem soon_snoc (a : Al) : ∀ l : List Al, soon (l ++ [a]) = if a.1 then some (match soon l with | none => a.2.1 | some m => min m a.2.1) else soon l
  | [] => by simp [soon]
  | b :: l => by
    rw [List.cons_append, soon, soon_snoc a l, soon]
    cases a.1 <;> cases b.1 <;> cases soon l <;> simp <;> omega

theorem outs_append (n T : Nat) : ∀ (l l' : List Al) (k : Nat), outs n T (l ++ l') k = outs n T l k ++ outs n T l' (k + l.length)
  | [], l', k => by simp [outs]
  | a :: l, l', k => by
    rw [List.cons_append, outs, outs, outs_append n T l l' (k + 1), List.append_assoc, List.length_cons, show k + 1 + l.length = k + (l.length + 1) by omega]
theorem outs_length (n T : Nat) : ∀ (l : List Al) (k : Nat), (outs n T l k).length ≤ l.length
  | [], _ => by simp [outs]
  | a :: l, k => by
    rw [outs, List.length_append, List.length_cons]
    have := outs_length n T l (k + 1)
    split <;> simp <;> omega
theorem outs_pos (n T : Nat) : ∀ (l : List Al) (k : Nat), IsSoon l n → 1 ≤ (outs n T l k).length := by
  intro l k ⟨⟨a, ha, e1, e2⟩, h'⟩
  clear h'
  induction l generalizing k with
  | nil => cases ha
  | cons b l ih =>
    rw [outs, List.length_append]
    rcases List.mem_cons.1 ha with rfl | ha
    · rw [if_pos (by simp [e1]; omega), List.length_singleton]; omega
    · have := ih (k + 1) ha; omega

/-- the first of the least -/
def FirstMin (A : List Al) (k m : Nat) : Prop := (∃ c, A[k]? = some (true, m, c)) ∧ ∀ (j : Nat) (b : Al), A[j]? = some b → b.1 = true → m ≤ b.2.1 ∧ (j < k → m < b.2.1)
def am : List Al → Option (Nat × Nat)
  | [] => none
  | a :: l => match am l with
    | none => if a.1 then some (0, a.2.1) else none
    | some (j, m) => if a.1 && decide (a.2.1 ≤ m) then some (0, a.2.1) else some (j + 1, m)

theorem am_spec : ∀ (l : List Al), (am l = none → ∀ a ∈ l, a.1 = false) ∧ ∀ k m, am l = some (k, m) → FirstMin l k m
  | [] => ⟨by simp, by simp [am]⟩
  | a :: l => by
    obtain ⟨h1, h2⟩ := am_spec l
    unfold am
    cases hs : am l with
    | none =>
      simp only
      have hn := h1 hs
      cases ha : a.1 with
      | false =>
        simp only [Bool.false_eq_true, if_false]
        refine ⟨fun _ b hb => ?_, (fun k m h => by cases h)⟩
        rcases List.mem_cons.1 hb with rfl | hb
        · exact ha
        · exact hn b hb
      | true =>
        simp only [if_true]
        refine ⟨(fun h => by cases h), fun k m h => ?_⟩
        simp only [Option.some.injEq, Prod.mk.injEq] at h
        obtain ⟨rfl, rfl⟩ := h
        refine ⟨⟨a.2.2, by rw [← ha]; rfl⟩, fun j b hb hbs => ⟨?_, fun h => by omega⟩⟩
        cases j with
        | zero => simp at hb; rw [hb]; exact Nat.le_refl _
        | succ j => rw [hn b (List.mem_of_getElem? (by simpa using hb))] at hbs; cases hbs
    | some r =>
      obtain ⟨j0, m0⟩ := r
      simp only
      obtain ⟨⟨c, hc⟩, h3⟩ := h2 j0 m0 hs
      split
      · rename_i hcond
        simp only [Bool.and_eq_true, decide_eq_true_eq] at hcond
        refine ⟨(fun h => by cases h), fun k m h => ?_⟩
        simp only [Option.some.injEq, Prod.mk.injEq] at h
        obtain ⟨rfl, rfl⟩ := h
        refine ⟨⟨a.2.2, by rw [← hcond.1]; rfl⟩, fun j b hb hbs => ⟨?_, fun h => by omega⟩⟩
        cases j with
        | zero => simp at hb; rw [hb]; exact Nat.le_refl _
        | succ j => exact Nat.le_trans hcond.2 (h3 j b (by simpa using hb) hbs).1
      · rename_i hcond
        refine ⟨(fun h => by cases h), fun k m h => ?_⟩
        simp only [Option.some.injEq, Prod.mk.injEq] at h
        obtain ⟨rfl, rfl⟩ := h
        refine ⟨⟨c, by simpa using hc⟩, fun j b hb hbs => ?_⟩
        cases j with
        | zero =>
          simp at hb; subst hb
          have : ¬ a.2.1 ≤ m0 := fun h => hcond (by simp [hbs, h])
          exact ⟨by omega, fun _ => by omega⟩
        | succ j =>
          have := h3 j b (by simpa using hb) hbs
          exact ⟨this.1, fun h => this.2 (by omega)⟩

theorem am_of {l : List Al} {k m : Nat} (h : FirstMin l k m) : am l = some (k, m) := by
  obtain ⟨⟨c, hc⟩, h3⟩ := h
  cases hs : am l with
  | none => have := (am_spec l).1 hs _ (List.mem_of_getElem? hc); cases this
  | some r =>
    obtain ⟨k', m'⟩ := r
    obtain ⟨⟨c', hc'⟩, h4⟩ := (am_spec l).2 k' m' hs
    have a1 := h3 k' _ hc' rfl
    have a2 := h4 k _ hc rfl
    simp only at a1 a2
    have e : m' = m := by omega
    have e2 : k' = k := by
      rcases Nat.lt_trichotomy k' k with h | h | h
      · have := a1.2 h; omega
      · exact h
      · have := a2.2 h; omega
    rw [e, e2]
theorem am_no {l : List Al} (h : ∀ a ∈ l, a.1 = false) : am l = none := by
  cases hs : am l with
  | none => rfl
  | some r =>
    obtain ⟨⟨c', hc'⟩, _⟩ := (am_spec l).2 r.1 r.2 hs
    have := h _ (List.mem_of_getElem? hc'); cases this

def nx (a : Al) : Al := if a.2.2 = 0 then (false, 0, 0) else (true, a.2.1 + a.2.2, a.2.2)
def upd (A : List Al) (k : Nat) : List Al := match A[k]? with | some a => A.set k (nx a) | none => A
def refRun : Nat → List Al → List (Nat × Nat)
  | 0, _ => []
  | f + 1, A => match am A with
    | none => []
    | some (k, m) => (m, k) :: refRun f (upd A k)

def fireA (τ : Nat) (a : Al) : Al := if a.1 && decide (a.2.1 = τ) then nx a else a
def outsA (τ : Nat) : List Al → Nat → List (Nat × Nat)
  | [], _ => []
  | a :: l, k => (if a.1 && decide (a.2.1 = τ) then [(τ, k)] else []) ++ outsA τ l (k + 1)

theorem batch (τ : Nat) : ∀ (Q P : List Al) (f : Nat), (∀ a ∈ P, a.1 = true → τ < a.2.1) → (∀ a ∈ Q, a.1 = true → τ ≤ a.2.1) →
    refRun f (P ++ Q) = if f ≤ (outsA τ Q P.length).length then (outsA τ Q P.length).take f else outsA τ Q P.length ++ refRun (f - (outsA τ Q P.length).length) (P ++ Q.map (fireA τ))
  | [], P, f, _, _ => by
    simp only [outsA, List.length_nil, List.map_nil]
    split
    · rename_i h; obtain rfl : f = 0 := by omega
      rfl
    · simp
  | a :: Q, P, f, hP, hQ => by
    by_cases hf : (a.1 && decide (a.2.1 = τ)) = true
    · have hf' := hf
      simp only [Bool.and_eq_true, decide_eq_true_eq] at hf'
      cases f with
      | zero => rw [if_pos (Nat.zero_le _)]; rfl
      | succ g =>
        have hmin : am (P ++ a :: Q) = some (P.length, τ) := by
          refine am_of ⟨⟨a.2.2, by rw [List.getElem?_append_right (Nat.le_refl _)]; simp [← hf'.1, ← hf'.2]⟩, fun j b hb hbs => ?_⟩
          rcases Nat.lt_or_ge j P.length with h | h
          · rw [List.getElem?_append_left h] at hb
            have := hP b (List.mem_of_getElem? hb) hbs
            exact ⟨by omega, fun _ => this⟩
          · rw [List.getElem?_append_right h] at hb
            exact ⟨hQ b (List.mem_of_getElem? hb) hbs, fun h' => by omega⟩
        have hupd : upd (P ++ a :: Q) P.length = (P ++ [nx a]) ++ Q := by
          unfold upd
          rw [List.getElem?_append_right (Nat.le_refl _)]
          simp
        have ih := batch τ Q (P ++ [nx a]) g (fun b hb hbs => by
            rcases List.mem_append.1 hb with hb | hb
            · exact hP b hb hbs
            · simp at hb; subst hb
              unfold nx at hbs ⊢
              split at hbs
              · cases hbs
              · rename_i hc; rw [if_neg hc]; simp only; omega) (fun b hb => hQ b (List.mem_cons_of_mem _ hb))
        have e1 : refRun (g + 1) (P ++ a :: Q) = (τ, P.length) :: refRun g (upd (P ++ a :: Q) P.length) := by
          rw [refRun, hmin]
        rw [e1, hupd, ih, outsA, if_pos hf]
        simp only [List.length_append, List.length_cons, List.length_nil, List.singleton_append, Nat.zero_add, List.map_cons, List.append_assoc]
        have hfa : fireA τ a = nx a := by unfold fireA; rw [if_pos hf]
        rw [hfa]
        by_cases h : g ≤ (outsA τ Q (P.length + 1)).length
        · rw [if_pos h, if_pos (by omega), List.take_succ_cons]
        · rw [if_neg h, if_neg (by omega), List.cons_append, show g + 1 - ((outsA τ Q (P.length + 1)).length + 1) = g - (outsA τ Q (P.length + 1)).length by omega]
    · have ih := batch τ Q (P ++ [a]) f (fun b hb hbs => by
            rcases List.mem_append.1 hb with hb | hb
            · exact hP b hb hbs
            · simp at hb; subst hb
              have h1 := hQ b (by simp) hbs
              simp [hbs] at hf
              omega) (fun b hb => hQ b (List.mem_cons_of_mem _ hb))
      have hfa : fireA τ a = a := by unfold fireA; rw [if_neg hf]
      rw [show P ++ a :: Q = (P ++ [a]) ++ Q by simp, ih, outsA, if_neg hf, List.nil_append, List.map_cons, hfa]
      simp

def absA (T : Nat) (a : Al) : Al := if a.1 then (true, T + a.2.1, a.2.2) else (false, 0, 0)

theorem outs_abs (n T : Nat) : ∀ (l : List Al) (k : Nat), (∀ a ∈ l, a.1 = true → n ≤ a.2.1) → outsA (T + n) (l.map (absA T)) k = outs n (T + n) l k
  | [], _, _ => rfl
  | a :: l, k, h => by
    rw [List.map_cons, outsA, outs, outs_abs n T l (k + 1) (fun b hb => h b (List.mem_cons_of_mem _ hb))]
    congr 1
    unfold absA
    cases ha : a.1 with
    | false => simp
    | true =>
      have := h a (by simp) ha
      simp only [if_true, Bool.true_and]
      by_cases e : a.2.1 = n
      · rw [if_pos (by simp; omega), if_pos (by simp; omega)]
      · rw [if_neg (by simp; omega), if_neg (by simp; omega)]

theorem fire_abs (n T : Nat) (a : Al) (h : a.1 = true → n ≤ a.2.1) : fireA (T + n) (absA T a) = absA (T + n) (adv n a) := by
  obtain ⟨s, lf, cy⟩ := a
  cases s with
  | false => simp [fireA, absA, adv]
  | true =>
    have hl := h rfl
    simp only at hl
    by_cases e : lf = n
    · subst e
      by_cases hc : cy = 0
      · subst hc; simp [fireA, absA, adv, nx]
      · simp [fireA, absA, adv, nx, hc]
    · have e1 : ¬ lf - n = 0 := by omega
      have e2 : ¬ T + lf = T + n := by omega
      have e3 : T + n + (lf - n) = T + lf := by omega
      simp [fireA, absA, adv, e, e1, e3]

/-- told one by one, or batch by batch: the same -/
theorem coming_ref : ∀ (fuel f : Nat) (l : List Al) (T : Nat), f ≤ fuel → (∀ a ∈ l, a.1 = true → 1 ≤ a.2.1) → refRun f (l.map (absA T)) = (comingL fuel l T).take f
  | 0, f, l, T, hf, _ => by
    obtain rfl : f = 0 := by omega
    rfl
  | fuel + 1, f, l, T, hf, hl => by
    rw [comingL]
    cases hs : soon l with
    | none =>
      have hn := (soon_spec l).1 hs
      simp only [List.take_nil]
      have : am (l.map (absA T)) = none := am_no (fun b hb => by
        obtain ⟨a, ha, rfl⟩ := List.mem_map.1 hb
        unfold absA; rw [hn a ha]; rfl)
      cases f with
      | zero => rfl
      | succ f => rw [refRun, this]
    | some n =>
      have hsn := (soon_spec l).2 n hs
      have hb := batch (T + n) (l.map (absA T)) [] f (by simp) (fun b hb hbs => by
        obtain ⟨a, ha, rfl⟩ := List.mem_map.1 hb
        unfold absA at hbs ⊢
        cases has : a.1 with
        | false => simp [has] at hbs
        | true => have := hsn.2 a ha has; simp; omega)
      simp only [List.nil_append, List.length_nil] at hb
      have hmap : (l.map (absA T)).map (fireA (T + n)) = (l.map (adv n)).map (absA (T + n)) := by
        rw [List.map_map, List.map_map]
        exact List.map_congr_left (fun a ha => fire_abs n T a (hsn.2 a ha))
      rw [hb, outs_abs n T l 0 hsn.2, hmap]
      simp only
      have hpos := outs_pos n (T + n) l 0 hsn
      split
      · rename_i h
        rw [List.take_append_of_le_length h]
      · rename_i h
        rw [coming_ref fuel _ _ _ (by omega) (fun b hb hbs => ?_), List.take_append, List.take_of_length_le (l := outs n (T + n) l 0) (by omega)]
        obtain ⟨a, ha, rfl⟩ := List.mem_map.1 hb
        unfold adv at hbs ⊢
        cases has : a.1 with
        | false => simp [has] at hbs
        | true =>
          simp only [has, if_true] at hbs ⊢
          split
          · rename_i h0
            rw [if_pos h0] at hbs
            split
            · rename_i h1; rw [if_pos h1] at hbs; cases hbs
            · simp only; omega
          · simp only; omega

end Go.Com
