/- NO TICK IS LOST: the numbers. No program is in sight here but the clock's lists. -/
import Derived.Test.YtemhfonneggneaaBdH
import Derived.Test.YtemhfonneggneaaArgC
namespace Go.Proofs.Ytemhfonneggneaa.BD
open Go.RowKit Go.Fr Go.Tb Go.Proofs.Ytemhfonneggneaa.CK

/-- the alarm behind t ticks, where it is due at the due-th -/
def al (t due cy : Nat) : Bool × Nat × Nat := if due = 0 then (false, 0, 0) else (true, due - t, cy)
def wantB (t due : Nat) : Bool := decide (due ≠ 0 ∧ due = t + 1)
def dueN (t due cy : Nat) : Nat := if due = t + 1 then (if cy = 0 then 0 else t + 1 + cy) else due
theorem al_tick {t due cy : Nat} (h : due = 0 ∨ t < due) : tick1 (al t due cy) = al (t + 1) (dueN t due cy) cy ∧ fires (al t due cy) = wantB t due := by
  unfold al dueN wantB tick1 fires
  by_cases h0 : due = 0
  · subst h0
    simp
  · have ht : t < due := by omega
    by_cases h1 : due = t + 1
    · subst h1
      have : t + 1 - t - 1 = 0 := by omega
      by_cases hc : cy = 0
      · subst hc
        simp [this]
      · have h2 : t + 1 + cy - (t + 1) = cy := by omega
        simp [this, hc, h2]
    · have h2 : ¬ (due - t - 1 = 0) := by omega
      have h3 : due - t - 1 = due - (t + 1) := by omega
      have h4 : ¬ (due - (t + 1) = 0) := by omega
      simp [h0, h1, h4, h3]
theorem due_next {t due cy m : Nat} (h : due = 0 ∨ (t < due ∧ due - t ≤ 2147483648)) (hc : cy ≤ 2147483647) : dueN t due cy = 0 ∨ (t + 1 < dueN t due cy ∧ dueN t due cy - (t + 1) ≤ 2147483648) := by
  unfold dueN
  split
  · split <;> omega
  · omega
theorem putL_one (a0 a1 : Bool × Nat × Nat) (F : Bool) (lf cy : Nat) : ∃ c, (putL [a0, a1] ((1 : Nat) : Int) F lf cy).1 = [a0, c] := by
  have : putL [a0, a1] ((1 : Nat) : Int) F lf cy = if a1.1 then ([a0, a1], 7) else if F then ([a0, (true, lf, cy)], 0) else ([a0, a1], 8) := rfl
  rw [this]
  split
  · exact ⟨_, rfl⟩
  · split <;> exact ⟨_, rfl⟩
theorem cancelL_one (a0 a1 : Bool × Nat × Nat) : ∃ c, (cancelL [a0, a1] ((1 : Nat) : Int)).1 = [a0, c] := by
  have : cancelL [a0, a1] ((1 : Nat) : Int) = if a1.1 then ([a0, (false, 0, 0)], 0) else ([a0, a1], 5) := rfl
  rw [this]
  split <;> exact ⟨_, rfl⟩
theorem put_l0 (F : Bool) (lf cy : Nat) : putL l0 ((0 : Nat) : Int) F lf cy = if F then ([(true, lf, cy), (false, 0, 0)], 0) else (l0, 8) := by
  cases F <;> rfl
theorem after_one {g n : Nat} : after g (n % (g + 1)) 1 = (n + 1) % (g + 1) := by
  have h := Nat.mod_lt n (show 0 < g + 1 by omega)
  unfold after
  rw [Nat.min_eq_left (by omega), Nat.add_mod_mod, Nat.mod_add_mod]
theorem until_law {g n v q r : Nat} (hn : n ≤ g) (hv : v ≤ g) (hq : v + g - n = q) (hr : q % (g + 1) = r) : until' g n v = r + 1 := by
  unfold until'
  rw [Nat.min_eq_left hn, Nat.min_eq_left hv]
  subst hq hr
  split
  · rename_i h
    rw [show v + g - n = (v - n - 1) + (g + 1) by omega, Nat.add_mod_right, Nat.mod_eq_of_lt (by omega)]; omega
  · rename_i h
    rw [Nat.mod_eq_of_lt (by omega)]; omega

section
variable {w w' : World} {b : Nat} {M : Bm} {T : Tb} {m x t due cy : Nat} {a1 : Bool × Nat × Nat} {R : List Bool}
/-- the law's board under way -/
def Bx (w : World) (b : Nat) (M : Bm) (T : Tb) (m t due cy : Nat) : Prop := ∃ x a1 R, B1 w b M T m x [al t due cy, a1] R
theorem x_tick (h : Bx w b M T m t due cy) (hd : due = 0 ∨ t < due) : Calls Try.prog 9 #[.pointer (some ⟨b, 0, none⟩), .int .i64 0] w fun e w' =>
    ∃ ao n cc, e = .returned (.tuple #[.slice ao n cc, .int .i64 0]) ∧ ((n = 0 ∧ wantB t due = false) ∨ (∃ g z, ao = some ⟨g, 0, none⟩ ∧ 0 < n ∧ w'.cell? ⟨g, 0, none⟩ = some (.int .i64 z) ∧ (z == 0) = wantB t due)) ∧ Bx w' b M T m (t + 1) (dueN t due cy) cy ∧ Kept (bfoot b M) w w' := by
  obtain ⟨x, a1, R, hb⟩ := h
  refine (b1_tick hb rfl).mono ?_
  rintro e w' ⟨ao, cc, rfl, ho, hb', k⟩
  obtain ⟨e1, e2⟩ := al_tick (cy := cy) hd
  have e3 : [al t due cy, a1].map tick1 = [al (t + 1) (dueN t due cy) cy, tick1 a1] := by
    rw [List.map_cons, e1]; rfl
  rw [e3] at hb'
  refine ⟨ao, _, cc, rfl, ?_, ⟨_, _, _, hb'⟩, k⟩
  have e4 : fired [al t due cy, a1] 0 = (if wantB t due then [0] else []) ++ (if fires a1 then [1] else []) := by
    rw [fired, fired, fired, e2]
    simp
  rw [e4] at ho ⊢
  have hrow := ho.row
  cases hw : wantB t due <;> cases hf : fires a1 <;> rw [hw, hf] at hrow
  · exact Or.inl ⟨by simp, rfl⟩
  all_goals
    right
    rcases row_forms hrow with ⟨_, h0⟩ | ⟨gf, cf, hv, _⟩
    · simp at h0
    simp only [Value.slice.injEq] at hv
    obtain ⟨rfl, _, _⟩ := hv
    have f0 := row_cell hrow 0 rfl
    exact ⟨gf, _, rfl, by simp, f0, rfl⟩
theorem x_left (h : Bx w b M T m t due cy) (hd : due = 0 ∨ (t < due ∧ due - t ≤ 2147483648)) : Calls Try.prog 15 #[.pointer (some ⟨b, 0, none⟩), .int .i64 0] w fun e w' =>
    e = .returned (.tuple #[.int .u32 ((al t due cy).2.1 : Nat), .int .i64 (if due = 0 then 5 else 0)]) ∧ Kept (fun _ => False) w w' := by
  obtain ⟨x, a1, R, hb⟩ := h
  refine (b1_left (i := 0) (by omega) hb).mono ?_
  rintro e w' ⟨rfl, k⟩
  refine ⟨?_, k⟩
  have e1 : ofA [al t due cy, a1] ((0 : Nat) : Int) = al t due cy := by
    unfold al
    by_cases h0 : due = 0 <;> simp [ofA, h0]
  have e2 : ofS [al t due cy, a1] ((0 : Nat) : Int) = if (al t due cy).1 then 0 else 5 := by simp [ofS]
  have e3 : (al t due cy).1 = true ↔ due ≠ 0 := by
    unfold al
    by_cases h0 : due = 0 <;> simp [h0]
  have e4 : IntKind.u32.wrap (((al t due cy).2.1 : Nat) : Int) = (((al t due cy).2.1 : Nat) : Int) := by
    apply IntWalk.u32_in
    unfold al
    by_cases h0 : due = 0
    · simp [h0]
    · simp only [h0, if_false]; omega
  rw [e1, e2, e4]
  by_cases h0 : due = 0
  · rw [if_neg (by rw [e3]; simp [h0]), if_pos h0]
  · rw [if_pos (e3.2 h0), if_neg h0]
theorem x_rel {u c : Nat} (h : Bx w b M T m t due cy) (hu : u ≤ 4294967295) : Calls Try.prog 11 #[.pointer (some ⟨b, 0, none⟩), .int .i64 1, .int .u32 u, .int .u32 c] w fun e w' =>
    ∃ v, e = .returned (.int .i64 v) ∧ Bx w' b M T m t due cy ∧ Kept (bfoot b M) w w' := by
  obtain ⟨x, a1, R, hb⟩ := h
  refine (b1_rel (i := 1) (by omega) hb hu).mono ?_
  rintro e w' ⟨rfl, hb', k⟩
  obtain ⟨d, hd⟩ := putL_one (al t due cy) a1 (decide (1 ≤ u) && decide (u ≤ m) && cycB 1 m c) u c
  rw [hd] at hb'
  exact ⟨_, rfl, ⟨_, _, _, hb'⟩, k⟩
theorem x_abs {u c : Nat} (h : Bx w b M T m t due cy) (hu : u ≤ 4294967295) : Calls Try.prog 10 #[.pointer (some ⟨b, 0, none⟩), .int .i64 1, .int .u32 u, .int .u32 c] w fun e w' =>
    ∃ v, e = .returned (.int .i64 v) ∧ Bx w' b M T m t due cy ∧ Kept (bfoot b M) w w' := by
  obtain ⟨x, a1, R, hb⟩ := h
  refine (b1_abs (i := 1) (by omega) hb hu).mono ?_
  rintro e w' ⟨rfl, hb', k⟩
  obtain ⟨d, hd⟩ := putL_one (al t due cy) a1 (decide (u ≤ m) && cycB 1 m c) (until' m x u) c
  rw [hd] at hb'
  exact ⟨_, rfl, ⟨_, _, _, hb'⟩, k⟩
theorem x_cancel (h : Bx w b M T m t due cy) : Calls Try.prog 12 #[.pointer (some ⟨b, 0, none⟩), .int .i64 1] w fun e w' =>
    ∃ v, e = .returned (.int .i64 v) ∧ Bx w' b M T m t due cy ∧ Kept (bfoot b M) w w' := by
  obtain ⟨x, a1, R, hb⟩ := h
  refine (b1_cancel (i := 1) (by omega) hb).mono ?_
  rintro e w' ⟨rfl, hb', k⟩
  obtain ⟨d, hd⟩ := cancelL_one (al t due cy) a1
  rw [hd] at hb'
  exact ⟨_, rfl, ⟨_, _, _, hb'⟩, k⟩
theorem x_request {i : Int} (h : Bx w b M T m t due cy) : Calls Try.prog 13 #[.pointer (some ⟨b, 0, none⟩), .int .i64 i] w fun e w' =>
    ∃ v, e = .returned (.int .i64 v) ∧ Bx w' b M T m t due cy ∧ Kept (bfoot b M) w w' := by
  obtain ⟨x, a1, R, hb⟩ := h
  refine (b1_request (i := i) hb).mono ?_
  rintro e w' ⟨R', rfl, hb', _, k⟩
  exact ⟨_, rfl, ⟨_, _, _, hb'⟩, k⟩
theorem x_serve {i : Int} (h : Bx w b M T m t due cy) : Calls Try.prog 14 #[.pointer (some ⟨b, 0, none⟩), .int .i64 i] w fun e w' =>
    ∃ v, e = .returned (.int .i64 v) ∧ Bx w' b M T m t due cy ∧ Kept (bfoot b M) w w' := by
  obtain ⟨x, a1, R, hb⟩ := h
  refine (b1_serve (i := i) hb).mono ?_
  rintro e w' ⟨v, R', rfl, hb', k⟩
  exact ⟨v, rfl, ⟨_, _, _, hb'⟩, k⟩
theorem Bx.same (h : Bx w b M T m t due cy) (k : Kept (fun _ => False) w w') : Bx w' b M T m t due cy := by
  obtain ⟨x, a1, R, hb⟩ := h
  exact ⟨x, a1, R, hb.same k⟩
end
end Go.Proofs.Ytemhfonneggneaa.BD
