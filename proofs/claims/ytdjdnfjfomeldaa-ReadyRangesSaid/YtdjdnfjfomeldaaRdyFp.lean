/- What is put into a queue behind all others comes out by falling priority, and of one priority as it came. No program is in sight here. -/
import Derived.Test.YtdjdnfjfomeldaaRdyP
namespace Go.Rq

/-- the ids of the rows below a priority -/
def low (st : List En) (q : Nat) : List (Int × Int) := allQ (below st q)
theorem low_zero (st : List En) : low st 0 = [] := by unfold low; rw [below_zero]; rfl
theorem low_all {st : List En} (hF : Falls st) : low st 64 = allQ st := by unfold low; rw [below_all hF.lt]
theorem low_succ {st : List En} (hF : Falls st) (q : Nat) : low st (q + 1) = (idsAt st q).map (fun x => ((q : Int), x)) ++ low st q := by
  unfold low idsAt
  cases h : idx st (q : Int) with
  | none => rw [below_none h]; simp
  | some i =>
    obtain ⟨e, he, hp, _⟩ := idx_some h
    rw [below_some hF h he]
    simp [allQ, he, hp]

/-- what was put in, by falling priority below one, and of one priority as it came -/
def rest (ins : List (Int × Int)) : Nat → List (Int × Int)
  | 0 => []
  | q + 1 => ins.filter (fun x => decide (x.1 = (q : Int))) ++ rest ins q
/-- the ids are what was put in -/
def Holds (st : List En) (ins : List (Int × Int)) : Prop := ∀ r : Int, (idsAt st r).map (fun x => (r, x)) = ins.filter (fun x => decide (x.1 = r))
theorem holds_rest {st : List En} {ins : List (Int × Int)} (hF : Falls st) (h : Holds st ins) : allQ st = rest ins 64 := by
  have key : ∀ q, low st q = rest ins q := by
    intro q
    induction q with
    | zero => rw [low_zero]; rfl
    | succ q ih => rw [low_succ hF, ih, h q]; rfl
  rw [← low_all hF, key]

theorem idsAt_set {st : List En} {i : Nat} {e e' : En} {p : Int} (hF : Falls st) (hi : idx st p = some i) (he : st[i]? = some e) (h1 : e'.1 = e.1) (r : Int) : idsAt (st.set i e') r = if r = p then e'.2.2.2 else idsAt st r := by
  unfold idsAt
  rw [idx_set he h1]
  obtain ⟨a, ha, hap, _⟩ := idx_some hi
  rw [he] at ha; cases ha
  have hil := (List.getElem?_eq_some_iff.1 he).1
  by_cases hr : r = p
  · subst hr
    rw [if_pos rfl, hi]
    simp [hil]
  · rw [if_neg hr]
    cases hj : idx st r with
    | none => rfl
    | some j =>
      obtain ⟨c, hc, hcp, _⟩ := idx_some hj
      have hij : i ≠ j := by rintro rfl; rw [he] at hc; cases hc; exact hr (by rw [← hcp, hap])
      simp [List.getElem?_set, hij]

theorem idx_uniq {st : List En} (hF : Falls st) {i : Nat} {e : En} (he : st[i]? = some e) : idx st (e.1 : Int) = some i := by
  cases h : idx st (e.1 : Int) with
  | none => exact absurd rfl (idx_none h e (List.mem_of_getElem? he))
  | some j =>
    obtain ⟨c, hc, hcp, _⟩ := idx_some h
    obtain ⟨h1, h2⟩ := List.getElem?_eq_some_iff.1 he
    obtain ⟨h3, h4⟩ := List.getElem?_eq_some_iff.1 hc
    have hpw := List.pairwise_iff_getElem.1 hF.falls
    rcases Nat.lt_trichotomy i j with h5 | h5 | h5
    · have := hpw i j h1 h3 h5; rw [h2, h4] at this; omega
    · rw [h5]
    · have := hpw j i h3 h1 h5; rw [h2, h4] at this; omega

theorem holds_put {st : List En} {ins : List (Int × Int)} {p x : Int} (hF : Falls st) (h : Holds st ins) (h0 : (putQ st p x false).2 = 0) : Holds (putQ st p x false).1 (ins ++ [(p, x)]) := by
  unfold putQ at h0 ⊢
  cases hi : idx st p with
  | none => rw [hi] at h0; simp at h0
  | some i =>
    obtain ⟨e, he, _, _⟩ := idx_some hi
    rw [hi] at h0
    simp only [he] at h0 ⊢
    by_cases hf : e.2.1 ≤ e.2.2.2.length
    · rw [if_pos hf] at h0; simp at h0
    · rw [if_neg hf]
      intro r
      simp only [Bool.false_eq_true, if_false]
      have hset := idsAt_set (e' := (e.1, e.2.1, Fr.mxi e.2.2.1 ((e.2.2.2.length : Int) + 1), e.2.2.2 ++ [x])) hF hi he rfl r
      rw [hset, List.filter_append, ← h r]
      by_cases hr : r = p
      · subst hr
        have : idsAt st r = e.2.2.2 := by unfold idsAt; rw [hi]; simp [he]
        simp [this]
      · simp [hr, show ¬ p = r from fun h => hr h.symm]
theorem holds_no {st : List En} {p x : Int} (h0 : ¬ (putQ st p x false).2 = 0) : (putQ st p x false).1 = st := by
  unfold putQ at h0 ⊢
  cases hi : idx st p with
  | none => rfl
  | some i =>
    obtain ⟨e, he, _, _⟩ := idx_some hi
    rw [hi] at h0
    simp only [he] at h0 ⊢
    by_cases hf : e.2.1 ≤ e.2.2.2.length
    · rw [if_pos hf]
    · rw [if_neg hf] at h0; simp at h0
theorem holds_new (rs : List (Int × Int)) : Holds (rs.map mkE) [] := by
  intro r
  have : idsAt (rs.map mkE) r = [] := by
    unfold idsAt
    cases hi : idx (rs.map mkE) r with
    | none => rfl
    | some i =>
      obtain ⟨e, he, _, _⟩ := idx_some hi
      obtain ⟨x, _, rfl⟩ := List.mem_map.1 (List.mem_of_getElem? he)
      rw [Option.bind_some, he]; rfl
  rw [this]; rfl

theorem allQ_cons (e : En) (st : List En) : allQ (e :: st) = e.2.2.2.map (fun x => ((e.1 : Int), x)) ++ allQ st := rfl
theorem allQ_set : ∀ {st : List En} {i : Nat} {e e' : En}, st[i]? = some e → e'.1 = e.1 → e'.2.2.2 = e.2.2.2 → allQ (st.set i e') = allQ st
  | [], i, e, e', h, _, _ => by simp at h
  | a :: st, 0, e, e', h, h1, h2 => by simp at h; subst h; rw [List.set_cons_zero, allQ_cons, allQ_cons, h1, h2]
  | a :: st, i + 1, e, e', h, h1, h2 => by rw [List.set_cons_succ, allQ_cons, allQ_cons, allQ_set (by simpa using h) h1 h2]
theorem allQ_empty {st : List En} (h : top st = none) : allQ st = [] := by
  unfold allQ
  rw [List.flatMap_eq_nil_iff]
  intro e he
  have := top_none h e he
  unfold ne at this
  cases hl : e.2.2.2 with
  | nil => rfl
  | cons a l => rw [hl] at this; simp at this
theorem allQ_top : ∀ {st : List En} {i : Nat} {e : En} {x : Int} {l : List Int} (_ : top st = some i) (_ : st[i]? = some e) (_ : e.2.2.2 = x :: l), allQ st = ((e.1 : Int), x) :: allQ (st.set i (e.1, e.2.1, e.2.2.1, l))
  | [], i, e, x, l, h, _, _ => by cases h
  | a :: st, i, e, x, l, h, he, hl => by
    rw [top] at h
    split at h
    · simp at h; subst h
      simp at he; subst he
      rw [List.set_cons_zero, allQ_cons, allQ_cons, hl]; rfl
    · rename_i hn
      obtain ⟨k, hk, rfl⟩ := Option.map_eq_some_iff.1 h
      have hz : a.2.2.2 = [] := by
        unfold ne at hn
        cases h2 : a.2.2.2 with
        | nil => rfl
        | cons b m => rw [h2] at hn; simp at hn
      rw [List.set_cons_succ, allQ_cons, allQ_cons, hz, allQ_top hk (by simpa using he) hl]
      rfl

/-- Take: the first of all; its Head puts it back -/
theorem take_all (st : List En) : (allQ st = [] ∧ takeQ st = (st, (0, 0), 132)) ∨ ∃ x xs, allQ st = x :: xs ∧ (takeQ st).2 = (x, 0) ∧ allQ (takeQ st).1 = xs := by
  cases h : top st with
  | none => exact Or.inl ⟨allQ_empty h, takeQ_none h⟩
  | some i =>
    obtain ⟨e, he, hn, _⟩ := top_some h
    obtain ⟨p, c, hi, l0⟩ := e
    cases l0 with
    | nil => simp [ne] at hn
    | cons x l =>
      refine Or.inr ⟨((p : Int), x), allQ (st.set i (p, c, hi, l)), allQ_top h he rfl, ?_, ?_⟩
      · rw [takeQ_some h he]
      · rw [takeQ_some h he]
theorem take_head {st : List En} (hF : Falls st) {x : Int × Int} {xs : List (Int × Int)} (h0 : allQ st = x :: xs) : (putQ (takeQ st).1 x.1 x.2 true).2 = 0 ∧ allQ (putQ (takeQ st).1 x.1 x.2 true).1 = allQ st := by
  cases h : top st with
  | none => rw [allQ_empty h] at h0; cases h0
  | some i =>
    obtain ⟨e, he, hn, _⟩ := top_some h
    have hil := (List.getElem?_eq_some_iff.1 he).1
    have hlen := hF.len e (List.mem_of_getElem? he)
    have hid := idx_uniq hF he
    obtain ⟨p, c, hi, l0⟩ := e
    cases l0 with
    | nil => simp [ne] at hn
    | cons y l =>
      have h1 := allQ_top h he rfl
      rw [h0] at h1
      simp only [List.cons.injEq] at h1
      obtain ⟨rfl, _⟩ := h1
      rw [takeQ_some h he]
      simp only [List.length_cons] at hlen hid
      unfold putQ
      dsimp only
      have hx2 : (st.set i (p, c, hi, l))[i]? = some (p, c, hi, l) := by rw [List.getElem?_set_self hil]
      rw [idx_set (e' := (p, c, hi, l)) he rfl, hid]
      simp only [hx2]
      rw [if_neg (by omega)]
      refine ⟨rfl, ?_⟩
      simp only [if_true]
      rw [List.set_set]
      exact allQ_set he rfl rfl
theorem allQ_nil_bits {st : List En} (h : allQ st = []) : bitsN st = 0 := by
  refine bits_zero fun e he => ?_
  unfold allQ at h
  rw [List.flatMap_eq_nil_iff] at h
  have := h e he
  rw [List.map_eq_nil_iff] at this
  unfold ne; rw [this]; rfl
end Go.Rq
