/- Both tables of events: each call in one form; a table and the document's side by side. -/
import Derived.Test.YtmljnhhjjaibbaaEvrN
namespace Go.Proofs.Ytmljnhhjjaibbaa.EA
open Go.RowKit Go.Fr Go.Proofs.Ytmljnhhjjaibbaa.EV

/-- a call that asks for a task first -/
def opP {R : Type} (no : Int → R) (f : Ev → Ev × R) (l : List Ev) (i : Int) : List Ev × R :=
  if 0 ≤ i then (match l[i.toNat]? with | none => (l, no 3) | some a => if a.1 = 0 then (l, no 1) else (l.set i.toNat (f a).1, (f a).2)) else (l, no 3)
section
variable {R : Type} (no : Int → R) (f : Ev → Ev × R) {l : List Ev}
theorem opP_id {i : Int} (h : has l.length i = false) : opP no f l i = (l, no 3) := by
  unfold opP has at *
  by_cases h0 : 0 ≤ i
  · have h1 : l.length ≤ i.toNat := by simp [h0] at h; omega
    rw [if_pos h0, List.getElem?_eq_none h1]
  · rw [if_neg h0]
theorem opP_acc {k : Nat} {a : Ev} (hx : l[k]? = some a) (h : a.1 = 0) : opP no f l k = (l, no 1) := by
  unfold opP; rw [if_pos (Int.natCast_nonneg _), Int.toNat_natCast, hx]; simp only; rw [if_pos h]
theorem opP_at {k : Nat} {a : Ev} (hx : l[k]? = some a) (h : ¬ a.1 = 0) : opP no f l k = (l.set k (f a).1, (f a).2) := by
  unfold opP; rw [if_pos (Int.natCast_nonneg _), Int.toNat_natCast, hx]; simp only; rw [if_neg h]
theorem opP_length (l : List Ev) (i : Int) : (opP no f l i).1.length = l.length := by
  unfold opP; repeat' split
  all_goals simp
theorem has_at {i : Int} (h : has l.length i = true) : ∃ (k : Nat) (m s t : Int) (g : Bool), i = k ∧ k < l.length ∧ l[k]? = some (m, s, t, g) := by
  unfold has at h; simp at h
  obtain ⟨k, rfl⟩ := Int.eq_ofNat_of_zero_le h.1
  exact ⟨k, _, _, _, _, rfl, by omega, List.getElem?_eq_getElem (by omega)⟩
/-- a task that has no events has nothing -/
def Okl (l : List Ev) : Prop := ∀ a ∈ l, a.1 = 0 → a = (0, 0, 0, false)
theorem opP_okl (hf : ∀ a, (f a).1.1 = a.1) (h : Okl l) (i : Int) : Okl (opP no f l i).1 := by
  unfold opP; repeat' split
  · exact h
  · exact h
  · rename_i a hx hm
    intro b hb hz
    rcases List.mem_or_eq_of_mem_set hb with h1 | rfl
    · exact h b h1 hz
    · rw [hf] at hz; exact absurd hz hm
  · exact h
end
def fSet (x : Int) (a : Ev) : Ev × Bool × Int := if a.2.2.2 && !(bits BinOp.and IntKind.u32 (bits BinOp.or IntKind.u32 a.2.1 x) a.2.2.1 == 0) then ((a.1, bits BinOp.or IntKind.u32 a.2.1 x, 0, false), true, 0) else ((a.1, bits BinOp.or IntKind.u32 a.2.1 x, a.2.2.1, a.2.2.2), false, 0)
def fClear (x : Int) (a : Ev) : Ev × Int := ((a.1, bits BinOp.andNot IntKind.u32 a.2.1 x, a.2.2.1, a.2.2.2), 0)
def fWait (x : Int) (a : Ev) : Ev × Bool × Int := if a.2.2.2 then (a, false, 7) else if bits BinOp.and IntKind.u32 a.2.1 x == 0 then ((a.1, a.2.1, x, true), true, 0) else (a, false, 0)
def fFresh (a : Ev) : Ev × Int := ((a.1, 0, 0, false), 0)
def fGet (a : Ev) : Ev × Int × Int := (a, a.2.1, 0)
def fWaits (a : Ev) : Ev × Int := (a, a.2.2.1)
def setP (l : List Ev) (i x : Int) := opP (fun c => (false, c)) (fSet x) l i
def clearP (l : List Ev) (i x : Int) := opP (fun c => c) (fClear x) l i
def waitP (l : List Ev) (i x : Int) := opP (fun c => (false, c)) (fWait x) l i
def freshP (l : List Ev) (i : Int) := opP (fun c => c) fFresh l i
def getP (l : List Ev) (i : Int) := opP (fun c => (0, c)) fGet l i
def waitsP (l : List Ev) (i : Int) := opP (fun _ => (0 : Int)) fWaits l i
theorem fSet_m (x : Int) (a : Ev) : (fSet x a).1.1 = a.1 := by unfold fSet; split <;> rfl
theorem fWait_m (x : Int) (a : Ev) : (fWait x a).1.1 = a.1 := by unfold fWait; repeat' split
                                                                 all_goals rfl
namespace E
section
variable {w : World} {b n : Nat} {l : List Ev}
theorem set_all (i : Int) (x : Int) (hs : IsEvt w b n l) : Calls Try.prog 8 #[.pointer (some ⟨b, 0, none⟩), .int .i64 i, .int .u32 x] w fun e w' =>
    e = .returned (.tuple #[.bool (setP l i x).2.1, .int .i64 (setP l i x).2.2]) ∧ IsEvt w' b n ((setP l i x).1) ∧ Kept (fun i => i = b) w w' := by
  obtain rfl := hs.len
  cases hh : has l.length i with
  | false =>
    rw [show setP l i x = _ from opP_id (fun c => (false, c)) (fSet x) hh]
    exact (EV.set_id i x hs hh).mono fun e w' ⟨he, hw⟩ => by subst hw; exact ⟨he, hs, Kept.refl _ w⟩
  | true =>
    obtain ⟨k, m, s, t, g, rfl, hk, hx⟩ := has_at hh
    by_cases hm : m = 0
    · rw [show setP l k x = _ from opP_acc (fun c => (false, c)) (fSet x) hx hm]
      exact (EV.set_acc x hs hk hx hm).mono fun e w' ⟨he, hw⟩ => by subst hw; exact ⟨he, hs, Kept.refl _ w⟩
    · rw [show setP l k x = _ from opP_at (fun c => (false, c)) (fSet x) hx hm]
      have hm' : (m == 0) = false := by simpa using hm
      unfold fSet
      cases g with
      | false => simpa using EV.set_off x hs hk hx hm' rfl
      | true =>
        cases hb : (bits BinOp.and IntKind.u32 (bits BinOp.or IntKind.u32 s x) t == 0) with
        | true => simpa [hb] using EV.set_not x hs hk hx hm' rfl hb
        | false => simpa [hb] using EV.set_wake x hs hk hx hm' rfl hb
theorem clear_all (i : Int) (x : Int) (hs : IsEvt w b n l) : Calls Try.prog 9 #[.pointer (some ⟨b, 0, none⟩), .int .i64 i, .int .u32 x] w fun e w' =>
    e = .returned (.int .i64 (clearP l i x).2) ∧ IsEvt w' b n ((clearP l i x).1) ∧ Kept (fun i => i = b) w w' := by
  obtain rfl := hs.len
  cases hh : has l.length i with
  | false =>
    rw [show clearP l i x = _ from opP_id (fun c => c) (fClear x) hh]
    exact (EV.clear_id i x hs hh).mono fun e w' ⟨he, hw⟩ => by subst hw; exact ⟨he, hs, Kept.refl _ w⟩
  | true =>
    obtain ⟨k, m, s, t, g, rfl, hk, hx⟩ := has_at hh
    by_cases hm : m = 0
    · rw [show clearP l k x = _ from opP_acc (fun c => c) (fClear x) hx hm]
      exact (EV.clear_acc x hs hk hx hm).mono fun e w' ⟨he, hw⟩ => by subst hw; exact ⟨he, hs, Kept.refl _ w⟩
    · rw [show clearP l k x = _ from opP_at (fun c => c) (fClear x) hx hm]
      have hm' : (m == 0) = false := by simpa using hm
      exact EV.clear_ok x hs hk hx hm'
theorem wait_all (i : Int) (x : Int) (hs : IsEvt w b n l) : Calls Try.prog 10 #[.pointer (some ⟨b, 0, none⟩), .int .i64 i, .int .u32 x] w fun e w' =>
    e = .returned (.tuple #[.bool (waitP l i x).2.1, .int .i64 (waitP l i x).2.2]) ∧ IsEvt w' b n ((waitP l i x).1) ∧ Kept (fun i => i = b) w w' := by
  obtain rfl := hs.len
  cases hh : has l.length i with
  | false =>
    rw [show waitP l i x = _ from opP_id (fun c => (false, c)) (fWait x) hh]
    exact (EV.wait_id i x hs hh).mono fun e w' ⟨he, hw⟩ => by subst hw; exact ⟨he, hs, Kept.refl _ w⟩
  | true =>
    obtain ⟨k, m, s, t, g, rfl, hk, hx⟩ := has_at hh
    by_cases hm : m = 0
    · rw [show waitP l k x = _ from opP_acc (fun c => (false, c)) (fWait x) hx hm]
      exact (EV.wait_acc x hs hk hx hm).mono fun e w' ⟨he, hw⟩ => by subst hw; exact ⟨he, hs, Kept.refl _ w⟩
    · rw [show waitP l k x = _ from opP_at (fun c => (false, c)) (fWait x) hx hm]
      have hm' : (m == 0) = false := by simpa using hm
      unfold fWait
      cases hg : g with
      | true =>
        simp only [hg, if_true]
        rw [set_same (a := (m, s, t, true)) (by rw [hx, hg])]
        exact (EV.wait_state x hs hk hx hm' hg).mono fun e w' ⟨he, hw⟩ => by subst hw; exact ⟨he, hs, Kept.refl _ w⟩
      | false =>
        cases hb : (bits BinOp.and IntKind.u32 s x == 0) with
        | true => simpa [hg, hb] using EV.wait_yes x hs hk hx hm' hg hb
        | false =>
          simp only [hg, hb, Bool.false_eq_true, if_false]
          rw [set_same (a := (m, s, t, false)) (by rw [hx, hg])]
          exact (EV.wait_no x hs hk hx hm' hg hb).mono fun e w' ⟨he, hw⟩ => by subst hw; exact ⟨he, hs, Kept.refl _ w⟩
theorem fresh_all (i : Int) (hs : IsEvt w b n l) : Calls Try.prog 11 #[.pointer (some ⟨b, 0, none⟩), .int .i64 i] w fun e w' =>
    e = .returned (.int .i64 (freshP l i).2) ∧ IsEvt w' b n ((freshP l i).1) ∧ Kept (fun i => i = b) w w' := by
  obtain rfl := hs.len
  cases hh : has l.length i with
  | false =>
    rw [show freshP l i = _ from opP_id (fun c => c) fFresh hh]
    exact (EV.fresh_id i hs hh).mono fun e w' ⟨he, q, hw⟩ => by subst hw; exact ⟨he, hs.drewN q, (Kept.refl _ w).drewN q⟩
  | true =>
    obtain ⟨k, m, s, t, g, rfl, hk, hx⟩ := has_at hh
    by_cases hm : m = 0
    · rw [show freshP l k = _ from opP_acc (fun c => c) fFresh hx hm]
      exact (EV.fresh_acc hs hk hx hm).mono fun e w' ⟨he, q, hw⟩ => by subst hw; exact ⟨he, hs.drewN q, (Kept.refl _ w).drewN q⟩
    · rw [show freshP l k = _ from opP_at (fun c => c) fFresh hx hm]
      have hm' : (m == 0) = false := by simpa using hm
      exact EV.fresh_ok hs hk hx hm'
theorem get_all (i : Int) (hs : IsEvt w b n l) : Calls Try.prog 12 #[.pointer (some ⟨b, 0, none⟩), .int .i64 i] w fun e w' => e = .returned (.tuple #[.int .u32 (getP l i).2.1, .int .i64 (getP l i).2.2]) ∧ w = w' := by
  obtain rfl := hs.len
  cases hh : has l.length i with
  | false =>
    rw [show getP l i = _ from opP_id (fun c => (0, c)) fGet hh]
    exact EV.get_id i hs hh
  | true =>
    obtain ⟨k, m, s, t, g, rfl, hk, hx⟩ := has_at hh
    by_cases hm : m = 0
    · rw [show getP l k = _ from opP_acc (fun c => (0, c)) fGet hx hm]
      exact EV.get_acc hs hk hx hm
    · rw [show getP l k = _ from opP_at (fun c => (0, c)) fGet hx hm]
      have hm' : (m == 0) = false := by simpa using hm
      exact EV.get_ok hs hk hx hm'
theorem waits_all (i : Int) (hs : IsEvt w b n l) : Calls Try.prog 13 #[.pointer (some ⟨b, 0, none⟩), .int .i64 i] w fun e w' => e = .returned (.int .u32 (waitsP l i).2) ∧ w = w' := by
  obtain rfl := hs.len
  cases hh : has l.length i with
  | false =>
    rw [show waitsP l i = _ from opP_id (fun _ => (0 : Int)) fWaits hh]
    exact EV.waits_id i hs hh
  | true =>
    obtain ⟨k, m, s, t, g, rfl, hk, hx⟩ := has_at hh
    by_cases hm : m = 0
    · rw [show waitsP l k = _ from opP_acc (fun _ => (0 : Int)) fWaits hx hm]
      exact EV.waits_acc hs hk hx hm
    · rw [show waitsP l k = _ from opP_at (fun _ => (0 : Int)) fWaits hx hm]
      have hm' : (m == 0) = false := by simpa using hm
      exact EV.waits_ok hs hk hx hm'
end
end E
namespace R
section
variable {w : World} {b : Nat} {vm vo vw vs : Value} {l : List Ev}
theorem set_all (i : Int) (x : Int) (hs : ER.IsRef w b vm vo vw vs l) : Calls Try.prog 15 #[.pointer (some ⟨b, 0, none⟩), .int .i64 i, .int .u32 x] w fun e w' =>
    e = .returned (.tuple #[.bool (setP l i x).2.1, .int .i64 (setP l i x).2.2]) ∧ ER.IsRef w' b vm vo vw vs ((setP l i x).1) ∧ Kept (ER.foot b vm vo vw vs) w w' := by
  cases hh : has l.length i with
  | false =>
    rw [show setP l i x = _ from opP_id (fun c => (false, c)) (fSet x) hh]
    exact (ER.set_id i x hs hh).mono fun e w' ⟨he, hw⟩ => by subst hw; exact ⟨he, hs, Kept.refl _ w⟩
  | true =>
    obtain ⟨k, m, s, t, g, rfl, hk, hx⟩ := has_at hh
    by_cases hm : m = 0
    · rw [show setP l k x = _ from opP_acc (fun c => (false, c)) (fSet x) hx hm]
      exact (ER.set_acc x hs hx hm).mono fun e w' ⟨he, hw⟩ => by subst hw; exact ⟨he, hs, Kept.refl _ w⟩
    · rw [show setP l k x = _ from opP_at (fun c => (false, c)) (fSet x) hx hm]
      have hm' : (m == 0) = false := by simpa using hm
      unfold fSet
      cases g with
      | false => simpa using ER.set_off x hs hx hm' rfl
      | true =>
        cases hb : (bits BinOp.and IntKind.u32 (bits BinOp.or IntKind.u32 s x) t == 0) with
        | true => simpa [hb] using ER.set_not x hs hx hm' rfl hb
        | false => simpa [hb] using ER.set_wake x hs hx hm' rfl hb
theorem clear_all (i : Int) (x : Int) (hs : ER.IsRef w b vm vo vw vs l) : Calls Try.prog 16 #[.pointer (some ⟨b, 0, none⟩), .int .i64 i, .int .u32 x] w fun e w' =>
    e = .returned (.int .i64 (clearP l i x).2) ∧ ER.IsRef w' b vm vo vw vs ((clearP l i x).1) ∧ Kept (ER.foot b vm vo vw vs) w w' := by
  cases hh : has l.length i with
  | false =>
    rw [show clearP l i x = _ from opP_id (fun c => c) (fClear x) hh]
    exact (ER.clear_id i x hs hh).mono fun e w' ⟨he, hw⟩ => by subst hw; exact ⟨he, hs, Kept.refl _ w⟩
  | true =>
    obtain ⟨k, m, s, t, g, rfl, hk, hx⟩ := has_at hh
    by_cases hm : m = 0
    · rw [show clearP l k x = _ from opP_acc (fun c => c) (fClear x) hx hm]
      exact (ER.clear_acc x hs hx hm).mono fun e w' ⟨he, hw⟩ => by subst hw; exact ⟨he, hs, Kept.refl _ w⟩
    · rw [show clearP l k x = _ from opP_at (fun c => c) (fClear x) hx hm]
      have hm' : (m == 0) = false := by simpa using hm
      exact ER.clear_ok x hs hx hm'
theorem wait_all (i : Int) (x : Int) (hs : ER.IsRef w b vm vo vw vs l) : Calls Try.prog 18 #[.pointer (some ⟨b, 0, none⟩), .int .i64 i, .int .u32 x] w fun e w' =>
    e = .returned (.tuple #[.bool (waitP l i x).2.1, .int .i64 (waitP l i x).2.2]) ∧ ER.IsRef w' b vm vo vw vs ((waitP l i x).1) ∧ Kept (ER.foot b vm vo vw vs) w w' := by
  cases hh : has l.length i with
  | false =>
    rw [show waitP l i x = _ from opP_id (fun c => (false, c)) (fWait x) hh]
    exact (ER.wait_id i x hs hh).mono fun e w' ⟨he, hw⟩ => by subst hw; exact ⟨he, hs, Kept.refl _ w⟩
  | true =>
    obtain ⟨k, m, s, t, g, rfl, hk, hx⟩ := has_at hh
    by_cases hm : m = 0
    · rw [show waitP l k x = _ from opP_acc (fun c => (false, c)) (fWait x) hx hm]
      exact (ER.wait_acc x hs hx hm).mono fun e w' ⟨he, hw⟩ => by subst hw; exact ⟨he, hs, Kept.refl _ w⟩
    · rw [show waitP l k x = _ from opP_at (fun c => (false, c)) (fWait x) hx hm]
      have hm' : (m == 0) = false := by simpa using hm
      unfold fWait
      cases hg : g with
      | true =>
        simp only [hg, if_true]
        rw [set_same (a := (m, s, t, true)) (by rw [hx, hg])]
        exact (ER.wait_state x hs hx hm' hg).mono fun e w' ⟨he, hw⟩ => by subst hw; exact ⟨he, hs, Kept.refl _ w⟩
      | false =>
        cases hb : (bits BinOp.and IntKind.u32 s x == 0) with
        | true => simpa [hg, hb] using ER.wait_yes x hs hx hm' hg hb
        | false =>
          simp only [hg, hb, Bool.false_eq_true, if_false]
          rw [set_same (a := (m, s, t, false)) (by rw [hx, hg])]
          exact (ER.wait_no x hs hx hm' hg hb).mono fun e w' ⟨he, hw⟩ => by subst hw; exact ⟨he, hs, Kept.refl _ w⟩
theorem fresh_all (i : Int) (hs : ER.IsRef w b vm vo vw vs l) : Calls Try.prog 20 #[.pointer (some ⟨b, 0, none⟩), .int .i64 i] w fun e w' =>
    e = .returned (.int .i64 (freshP l i).2) ∧ ER.IsRef w' b vm vo vw vs ((freshP l i).1) ∧ Kept (ER.foot b vm vo vw vs) w w' := by
  cases hh : has l.length i with
  | false =>
    rw [show freshP l i = _ from opP_id (fun c => c) fFresh hh]
    exact (ER.fresh_id i hs hh).mono fun e w' ⟨he, hw⟩ => by subst hw; exact ⟨he, hs, Kept.refl _ w⟩
  | true =>
    obtain ⟨k, m, s, t, g, rfl, hk, hx⟩ := has_at hh
    by_cases hm : m = 0
    · rw [show freshP l k = _ from opP_acc (fun c => c) fFresh hx hm]
      exact (ER.fresh_acc hs hx hm).mono fun e w' ⟨he, hw⟩ => by subst hw; exact ⟨he, hs, Kept.refl _ w⟩
    · rw [show freshP l k = _ from opP_at (fun c => c) fFresh hx hm]
      have hm' : (m == 0) = false := by simpa using hm
      exact ER.fresh_ok hs hx hm'
theorem get_all (i : Int) (hs : ER.IsRef w b vm vo vw vs l) : Calls Try.prog 17 #[.pointer (some ⟨b, 0, none⟩), .int .i64 i] w fun e w' => e = .returned (.tuple #[.int .u32 (getP l i).2.1, .int .i64 (getP l i).2.2]) ∧ w = w' := by
  cases hh : has l.length i with
  | false =>
    rw [show getP l i = _ from opP_id (fun c => (0, c)) fGet hh]
    exact ER.get_id i hs hh
  | true =>
    obtain ⟨k, m, s, t, g, rfl, hk, hx⟩ := has_at hh
    by_cases hm : m = 0
    · rw [show getP l k = _ from opP_acc (fun c => (0, c)) fGet hx hm]
      exact ER.get_acc hs hx hm
    · rw [show getP l k = _ from opP_at (fun c => (0, c)) fGet hx hm]
      have hm' : (m == 0) = false := by simpa using hm
      exact ER.get_ok hs hx hm'
theorem waits_all (i : Int) (hs : ER.IsRef w b vm vo vw vs l) : Calls Try.prog 19 #[.pointer (some ⟨b, 0, none⟩), .int .i64 i] w fun e w' => e = .returned (.int .u32 (waitsP l i).2) ∧ w = w' := by
  cases hh : has l.length i with
  | false =>
    rw [show waitsP l i = _ from opP_id (fun _ => (0 : Int)) fWaits hh]
    exact ER.waits_id i hs hh
  | true =>
    obtain ⟨k, m, s, t, g, rfl, hk, hx⟩ := has_at hh
    by_cases hm : m = 0
    · rw [show waitsP l k = _ from opP_acc (fun _ => (0 : Int)) fWaits hx hm]
      exact ER.waits_acc hs hx hm
    · rw [show waitsP l k = _ from opP_at (fun _ => (0 : Int)) fWaits hx hm]
      have hm' : (m == 0) = false := by simpa using hm
      exact ER.waits_ok hs hx hm'
end
end R
end Go.Proofs.Ytmljnhhjjaibbaa.EA
