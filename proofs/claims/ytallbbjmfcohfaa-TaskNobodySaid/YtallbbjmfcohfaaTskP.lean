/- Package task in plain Lean: the calls on lists, and what always holds. -/
import Derived.Test.YtallbbjmfcohfaaTskN
namespace Go.Proofs.Ytallbbjmfcohfaa.TK
open Go.RowKit Go.Fr

def thoseP (l : List Tk) (s : Int) (j : Nat) : Bool := match l[j]? with | some x => x.2.2.1 == s | none => false
def those (l : List Tk) (s : Int) (k : Nat) : List Int := ((List.range k).filter (thoseP l s)).map Int.ofNat
theorem those_zero (l : List Tk) (s : Int) : those l s 0 = [] := rfl
theorem those_hit {l : List Tk} {s : Int} {k : Nat} {lm st ac : Int} {ex : Bool} (hx : l[k]? = some (lm, ex, st, ac)) (h : (st == s) = true) : those l s (k + 1) = those l s k ++ [(k : Int)] := by
  have hp : thoseP l s k = true := by simp only [thoseP, hx]; exact h
  simp [those, List.range_succ, List.filter_append, hp]
theorem those_miss {l : List Tk} {s : Int} {k : Nat} {lm st ac : Int} {ex : Bool} (hx : l[k]? = some (lm, ex, st, ac)) (h : (st == s) = false) : those l s (k + 1) = those l s k := by
  have hp : thoseP l s k = false := by simp only [thoseP, hx]; exact h
  simp [those, List.range_succ, List.filter_append, hp]
theorem those_len (l : List Tk) (s : Int) (k : Nat) : (those l s k).length ≤ k := by
  unfold those
  rw [List.length_map]
  exact Nat.le_trans (List.length_filter_le _ _) (by simp)
theorem those_at {l : List Tk} {s : Int} {k j : Nat} {i : Int} (h : (those l s k)[j]? = some i) : ∃ n : Nat, i = n ∧ n < k := by
  have h1 := List.mem_of_getElem? h
  simp only [those, List.mem_map, List.mem_filter, List.mem_range] at h1
  obtain ⟨n, ⟨h2, _⟩, rfl⟩ := h1
  exact ⟨n, rfl, h2⟩

structure Ok (run : Int) (l : List Tk) : Prop where
  el : ∀ (k : Nat) (lm : Int) (ex : Bool) (st ac : Int), l[k]? = some (lm, ex, st, ac) → 0 ≤ st ∧ st ≤ 3 ∧ 0 ≤ ac ∧ ac ≤ lm ∧ lm ≤ 255 ∧ (ac = 0 ↔ st = 3) ∧ (st = 1 → ex = true) ∧ (st = 0 ↔ run = k)
  rn : run = -1 ∨ ∃ (k : Nat) (lm : Int) (ex : Bool) (ac : Int), run = k ∧ l[k]? = some (lm, ex, 0, ac)

theorem Ok.set {run run' : Int} {l : List Tk} {k : Nat} {lm st ac st' ac' : Int} {ex : Bool} (h : Ok run l) (hx : l[k]? = some (lm, ex, st, ac))
    (h1 : 0 ≤ st' ∧ st' ≤ 3 ∧ 0 ≤ ac' ∧ ac' ≤ lm ∧ (ac' = 0 ↔ st' = 3) ∧ (st' = 1 → ex = true) ∧ (st' = 0 ↔ run' = k))
    (h2 : ∀ j : Nat, j ≠ k → (run' = j ↔ run = j)) (h3 : run' = -1 ∨ 0 ≤ run') : Ok run' (l.set k (lm, ex, st', ac')) := by
  have hk := (List.getElem?_eq_some_iff.1 hx).1
  obtain ⟨e1, e2, e3, e4, e5, e6, e7, e8⟩ := h.el _ _ _ _ _ hx
  obtain ⟨f1, f2, f3, f4, f5, f6, f7⟩ := h1
  constructor
  · intro j lm2 ex2 st2 ac2 hj
    by_cases hjk : j = k
    · subst hjk
      rw [List.getElem?_set_self hk] at hj
      cases hj
      exact ⟨f1, f2, f3, f4, e5, f5, f6, f7⟩
    · rw [List.getElem?_set_ne (Ne.symm hjk)] at hj
      obtain ⟨g1, g2, g3, g4, g5, g6, g7, g8⟩ := h.el _ _ _ _ _ hj
      exact ⟨g1, g2, g3, g4, g5, g6, g7, g8.trans (h2 j hjk).symm⟩
  · rcases h3 with h3 | h3
    · exact Or.inl h3
    · right
      obtain ⟨n, rfl⟩ : ∃ n : Nat, run' = n := ⟨run'.toNat, by omega⟩
      by_cases hnk : n = k
      · subst hnk
        have := f7.2 rfl
        subst this
        exact ⟨n, lm, ex, ac', rfl, List.getElem?_set_self hk⟩
      · have hr := (h2 n hnk).1 rfl
        rcases h.rn with hn | ⟨k2, lm2, ex2, ac2, hk2, hx2⟩
        · omega
        · have : k2 = n := by omega
          subst this
          exact ⟨k2, lm2, ex2, ac2, rfl, by rw [List.getElem?_set_ne (Ne.symm hnk)]; exact hx2⟩

def at? (l : List Tk) (i : Int) : Option Tk := if 0 ≤ i then l[i.toNat]? else none
theorem at_nat (l : List Tk) (k : Nat) : at? l k = l[k]? := by simp [at?]
theorem at_none {l : List Tk} {i : Int} (h : hasT l i = false) : at? l i = none := by
  unfold at?
  split
  · rw [List.getElem?_eq_none]
    simp [hasT] at h
    have := h (by assumption)
    omega
  · rfl

def actP (l : List Tk) (i : Int) : Bool × Int × List Tk :=
  match at? l i with
  | some (lm, ex, st, ac) => if lm ≤ ac then (false, 4, l) else (decide (st = 3), 0, l.set i.toNat (lm, ex, (if st = 3 then 2 else st), ac + 1))
  | none => (false, 3, l)
def startP (run : Int) (l : List Tk) (i : Int) : Int × Int × List Tk :=
  match at? l i with
  | some (lm, ex, st, ac) => if 0 ≤ run then (181, run, l) else if st = 2 then (0, i, l.set i.toNat (lm, ex, 0, ac)) else (180, run, l)
  | none => (2, run, l)
def relP (l : List Tk) (i : Int) : Int × List Tk :=
  match at? l i with
  | some (lm, ex, st, ac) => if st = 1 then (0, l.set i.toNat (lm, ex, 2, ac)) else (180, l)
  | none => (2, l)
def preP (run : Int) (l : List Tk) : Int × Int × Int × List Tk :=
  match at? l run with
  | some (lm, ex, _, ac) => (run, 0, -1, l.set run.toNat (lm, ex, 2, ac))
  | none => (-1, 180, run, l)
def waitP (run : Int) (l : List Tk) : Int × Int × Int × List Tk :=
  match at? l run with
  | some (lm, true, _, ac) => (run, 0, -1, l.set run.toNat (lm, true, 1, ac))
  | some (_, false, _, _) => (-1, 180, run, l)
  | none => (-1, 180, run, l)
def endP (run : Int) (l : List Tk) : Int × Int × Int × Int × List Tk :=
  match at? l run with
  | some (lm, ex, _, ac) => if ac = 1 then (run, 3, 0, -1, l.set run.toNat (lm, ex, 3, 0)) else (run, 2, 0, -1, l.set run.toNat (lm, ex, 2, ac - 1))
  | none => (-1, 0, 180, run, l)

theorem Ok.at {run : Int} {l : List Tk} (h : Ok run l) : (run = -1 ∧ at? l run = none) ∨ ∃ (k : Nat) (lm : Int) (ex : Bool) (ac : Int), run = k ∧ l[k]? = some (lm, ex, 0, ac) ∧ at? l run = some (lm, ex, 0, ac) ∧ 1 ≤ ac ∧ ac ≤ lm ∧ lm ≤ 255 := by
  rcases h.rn with rfl | ⟨k, lm, ex, ac, rfl, hx⟩
  · exact Or.inl ⟨rfl, rfl⟩
  · right
    obtain ⟨g1, g2, g3, g4, g5, g6, g7, g8⟩ := h.el _ _ _ _ _ hx
    exact ⟨k, lm, ex, ac, rfl, hx, by rw [at_nat]; exact hx, by omega, g4, g5⟩

theorem Ok.act {run : Int} {l : List Tk} (h : Ok run l) (i : Int) : Ok run (actP l i).2.2 := by
  unfold actP
  by_cases h0 : 0 ≤ i
  · obtain ⟨k, rfl⟩ : ∃ k : Nat, i = k := ⟨i.toNat, by omega⟩
    rw [at_nat]
    cases hx : l[k]? with
    | none => exact h
    | some x =>
      obtain ⟨lm, ex, st, ac⟩ := x
      obtain ⟨g1, g2, g3, g4, g5, g6, g7, g8⟩ := h.el _ _ _ _ _ hx
      dsimp only
      split
      · exact h
      · have hk : (k : Int).toNat = k := rfl
        dsimp only
        rw [hk]
        by_cases hs : st = 3
        · rw [if_pos hs]
          refine h.set hx ⟨by omega, by omega, by omega, by omega, by omega, by omega, by omega⟩ (fun j _ => Iff.rfl) ?_
          rcases h.rn with hr | ⟨a, b, c, d, hr, _⟩ <;> omega
        · rw [if_neg hs]
          refine h.set hx ⟨by omega, by omega, by omega, by omega, by omega, g7, by omega⟩ (fun j _ => Iff.rfl) ?_
          rcases h.rn with hr | ⟨a, b, c, d, hr, _⟩ <;> omega
  · rw [show at? l i = none from if_neg h0]
    exact h

theorem Ok.start {run : Int} {l : List Tk} (h : Ok run l) (i : Int) : Ok (startP run l i).2.1 (startP run l i).2.2 := by
  unfold startP
  by_cases h0 : 0 ≤ i
  · obtain ⟨k, rfl⟩ : ∃ k : Nat, i = k := ⟨i.toNat, by omega⟩
    rw [at_nat]
    cases hx : l[k]? with
    | none => exact h
    | some x =>
      obtain ⟨lm, ex, st, ac⟩ := x
      obtain ⟨g1, g2, g3, g4, g5, g6, g7, g8⟩ := h.el _ _ _ _ _ hx
      dsimp only
      split
      · exact h
      · split
        · have hr : run = -1 := by rcases h.rn with hr | ⟨a, b, c, d, hr, _⟩ <;> omega
          exact h.set (run' := (k : Int)) hx ⟨by omega, by omega, by omega, by omega, by omega, by omega, by omega⟩ (fun j hj => by omega) (by omega)
        · exact h
  · rw [show at? l i = none from if_neg h0]
    exact h

theorem Ok.rel {run : Int} {l : List Tk} (h : Ok run l) (i : Int) : Ok run (relP l i).2 := by
  unfold relP
  by_cases h0 : 0 ≤ i
  · obtain ⟨k, rfl⟩ : ∃ k : Nat, i = k := ⟨i.toNat, by omega⟩
    rw [at_nat]
    cases hx : l[k]? with
    | none => exact h
    | some x =>
      obtain ⟨lm, ex, st, ac⟩ := x
      obtain ⟨g1, g2, g3, g4, g5, g6, g7, g8⟩ := h.el _ _ _ _ _ hx
      dsimp only
      split
      · refine h.set hx ⟨by omega, by omega, by omega, by omega, by omega, by omega, by omega⟩ (fun j _ => Iff.rfl) ?_
        rcases h.rn with hr | ⟨a, b, c, d, hr, _⟩ <;> omega
      · exact h
  · rw [show at? l i = none from if_neg h0]
    exact h

theorem Ok.pre {run : Int} {l : List Tk} (h : Ok run l) : Ok (preP run l).2.2.1 (preP run l).2.2.2 := by
  unfold preP
  rcases h.at with ⟨_, e⟩ | ⟨k, lm, ex, ac, rfl, hx, e, h1, h2, h3⟩
  · rw [e]; exact h
  · rw [e]
    obtain ⟨g1, g2, g3, g4, g5, g6, g7, g8⟩ := h.el _ _ _ _ _ hx
    exact h.set (run' := -1) hx ⟨by omega, by omega, by omega, by omega, by omega, by omega, by omega⟩ (fun j hj => by omega) (by omega)

theorem Ok.wait {run : Int} {l : List Tk} (h : Ok run l) : Ok (waitP run l).2.2.1 (waitP run l).2.2.2 := by
  unfold waitP
  rcases h.at with ⟨_, e⟩ | ⟨k, lm, ex, ac, rfl, hx, e, h1, h2, h3⟩
  · rw [e]; exact h
  · rw [e]
    obtain ⟨g1, g2, g3, g4, g5, g6, g7, g8⟩ := h.el _ _ _ _ _ hx
    cases ex with
    | false => exact h
    | true => exact h.set (run' := -1) hx ⟨by omega, by omega, by omega, by omega, by omega, fun _ => rfl, by omega⟩ (fun j hj => by omega) (by omega)

theorem Ok.fin {run : Int} {l : List Tk} (h : Ok run l) : Ok (endP run l).2.2.2.1 (endP run l).2.2.2.2 := by
  unfold endP
  rcases h.at with ⟨_, e⟩ | ⟨k, lm, ex, ac, rfl, hx, e, h1, h2, h3⟩
  · rw [e]; exact h
  · rw [e]
    obtain ⟨g1, g2, g3, g4, g5, g6, g7, g8⟩ := h.el _ _ _ _ _ hx
    dsimp only
    split
    · exact h.set (run' := -1) hx ⟨by omega, by omega, by omega, by omega, by omega, by omega, by omega⟩ (fun j hj => by omega) (by omega)
    · exact h.set (run' := -1) hx ⟨by omega, by omega, by omega, by omega, by omega, by omega, by omega⟩ (fun j hj => by omega) (by omega)

theorem Ok.new (rs : List (Int × Bool)) (h : ∀ (j : Nat) (r : Int × Bool), j < rs.length → rs[j]? = some r → goodR r = true) : Ok (-1) (rs.map mkT) := by
  refine ⟨?_, Or.inl rfl⟩
  intro k lm ex st ac hx
  rw [List.getElem?_map] at hx
  cases hr : rs[k]? with
  | none => rw [hr] at hx; cases hx
  | some r =>
    rw [hr] at hx
    have hg := h k r (List.getElem?_eq_some_iff.1 hr).1 hr
    simp only [Option.map_some, mkT, Option.some.injEq, Prod.mk.injEq] at hx
    obtain ⟨rfl, rfl, rfl, rfl⟩ := hx
    simp only [goodR, Bool.and_eq_true, decide_eq_true_eq] at hg
    exact ⟨by omega, by omega, by omega, by omega, hg.1.2, by omega, by omega, by omega⟩

theorem filter_one (p : Nat → Bool) (r : Nat) (h : ∀ j, p j = true → j = r) (k : Nat) : ((List.range k).filter p).length ≤ 1 := by
  induction k with
  | zero => simp
  | succ k ih =>
    rw [List.range_succ, List.filter_append, List.length_append]
    by_cases hp : p k = true
    · have hk := h k hp
      have : (List.range k).filter p = [] := by
        rw [List.filter_eq_nil_iff]
        intro j hj hpj
        have := h j hpj
        have := List.mem_range.1 hj
        omega
      rw [this]
      simp [hp]
    · simp [hp]
      exact ih

theorem Ok.one {run : Int} {l : List Tk} (h : Ok run l) (k : Nat) : (those l 0 k).length ≤ 1 := by
  unfold those
  rw [List.length_map]
  refine filter_one _ run.toNat (fun j hj => ?_) k
  unfold thoseP at hj
  cases hx : l[j]? with
  | none => rw [hx] at hj; cases hj
  | some x =>
    rw [hx] at hj
    obtain ⟨lm, ex, st, ac⟩ := x
    have h0 : st = 0 := by simpa using hj
    have := (h.el _ _ _ _ _ hx).2.2.2.2.2.2.2.1 h0
    omega

/-- what the rows say stays -/
def sh (x : Tk) : Int × Bool := (x.1, x.2.1)
theorem sh_set {l : List Tk} {k : Nat} {a b : Tk} (hx : l[k]? = some a) (h : sh b = sh a) : (l.set k b).map sh = l.map sh := by
  rw [List.map_set, h]
  refine List.ext_getElem? (fun j => ?_)
  by_cases hj : j = k
  · subst hj
    rw [List.getElem?_set_self (by rw [List.length_map]; exact (List.getElem?_eq_some_iff.1 hx).1), List.getElem?_map, hx]; rfl
  · rw [List.getElem?_set_ne (Ne.symm hj)]
end Go.Proofs.Ytallbbjmfcohfaa.TK
