/- The lock: who holds what, as a list of takes. No program is in sight here. -/
import Derived.Test.YtnfpiocjdhipcaaTab
import Derived.Test.YtnfpiocjdhipcaaMap
namespace Go.Proofs.Ytnfpiocjdhipcaa.LK
open Go.Tb Go.Fr

/-- an owner: an ISR?, its number -/
abbrev Ow := Bool × Int
/-- a take: who, what -/
abbrev Take := Ow × Int
/-- an owner's row -/
structure RowR where
  pr : Int
  own : List Int
  inl : Int
  cat : Int
def rowT (T : Tb) (o : Ow) : Option RowR :=
  if o.2 < 0 then none else if o.1 then (T.isrs[o.2.toNat]?).map (fun x => ⟨x.pr, x.own, -1, x.cat⟩) else (T.tasks[o.2.toNat]?).map (fun x => ⟨x.pr, x.own, x.inl, 0⟩)
/-- is there such a resource that may be named? -/
def resT (T : Tb) (r : Int) : Bool := decide (0 ≤ r) && (match T.ress[r.toNat]? with | some x => !x.1 | none => false)
def knownT (T : Tb) (o : Ow) (r : Int) : Bool := (rowT T o).isSome && resT T r
def ceilT (T : Tb) (r : Int) : Int := ((T.ress[r.toNat]?).map (·.2)).getD 0
def heldL (L : List Take) (o : Ow) : List Int := (L.filter (fun t => decide (t.1 = o))).map (·.2)
def holdL : List Take → Int → Option Ow
  | [], _ => none
  | t :: L, r => if t.2 = r then some t.1 else holdL L r
def mayL (T : Tb) (L : List Take) (o : Ow) (r : Int) : Bool :=
  match rowT T o with
  | none => false
  | some x => decide (r ∈ x.own) && (holdL L r).isNone && decide (x.pr ≤ ceilT T r)
/-- Get: the status; the takes behind it -/
def getL (T : Tb) (L : List Take) (o : Ow) (r : Int) : Int × List Take :=
  if knownT T o r then (if mayL T L o r then (0, L ++ [(o, r)]) else (1, L)) else (3, L)
def unL (L : List Take) (r : Int) : List Take := L.filter (fun t => !decide (t.2 = r))
def relL (T : Tb) (L : List Take) (o : Ow) (r : Int) : Int × List Take :=
  if knownT T o r then (if (heldL L o).getLast? = some r then (0, unL L r) else (5, L)) else (3, L)
def dropL (L : List Take) (o : Ow) : List Take := L.filter (fun t => !decide (t.1 = o))
/-- the ceilings of what is held -/
def topL (T : Tb) (p : Int) (l : List Int) : Int := l.foldl (fun p r => max p (ceilT T r)) p
def prioL (T : Tb) (L : List Take) (In : List Bool) (o : Ow) : Int :=
  match rowT T o with
  | none => -1
  | some x => if o.1 = false ∧ In[o.2.toNat]? = some true then max (topL T x.pr (heldL L o)) x.inl else topL T x.pr (heldL L o)

/-- what is true of all takes -/
structure LInv (T : Tb) (L : List Take) : Prop where
  nd : (L.map (·.2)).Nodup
  own : ∀ t ∈ L, ∃ x, rowT T t.1 = some x ∧ t.2 ∈ x.own ∧ resT T t.2 = true ∧ x.pr ≤ ceilT T t.2

section
variable {T : Tb} {L : List Take} {o o' : Ow} {r r' : Int}
theorem inv_nil (T : Tb) : LInv T [] := ⟨by simp, fun t ht => by cases ht⟩
theorem holdL_mem : ∀ {L : List Take}, holdL L r = some o → (o, r) ∈ L
  | [], h => by cases h
  | t :: L, h => by
    unfold holdL at h
    split at h
    · rename_i e; cases h; subst e; simp
    · exact List.mem_cons_of_mem _ (holdL_mem h)
theorem holdL_none : ∀ {L : List Take}, holdL L r = none ↔ ∀ t ∈ L, t.2 ≠ r
  | [] => by simp [holdL]
  | t :: L => by
    unfold holdL
    by_cases e : t.2 = r
    · rw [if_pos e]
      constructor
      · intro h; cases h
      · intro h; exact absurd e (h t (by simp))
    · rw [if_neg e, holdL_none]
      constructor
      · intro h x hx
        rcases List.mem_cons.1 hx with rfl | hx
        · exact e
        · exact h x hx
      · intro h x hx; exact h x (by simp [hx])
theorem holdL_of (h : (L.map (·.2)).Nodup) (hm : (o, r) ∈ L) : holdL L r = some o := by
  induction L with
  | nil => cases hm
  | cons t L ih =>
    obtain ⟨h1, h2⟩ := List.nodup_cons.1 (show (t.2 :: L.map (·.2)).Nodup from h)
    unfold holdL
    rcases List.mem_cons.1 hm with e | hm
    · subst e; rw [if_pos rfl]
    · rw [if_neg (fun e => h1 (by rw [e]; exact List.mem_map.2 ⟨_, hm, rfl⟩))]
      exact ih h2 hm
theorem holdL_app (h : holdL L r = none) : holdL (L ++ [(o, r)]) r' = if r = r' then some o else holdL L r' := by
  induction L with
  | nil => simp [holdL]
  | cons t L ih =>
    unfold holdL at h
    split at h
    · cases h
    · rename_i e
      rw [List.cons_append]
      unfold holdL
      rw [ih h]
      by_cases e1 : t.2 = r'
      · rw [if_pos e1, if_pos e1, if_neg (fun e2 => e (by rw [e1, e2]))]
      · rw [if_neg e1, if_neg e1]
theorem holdL_un : holdL (unL L r) r' = if r = r' then none else holdL L r' := by
  induction L with
  | nil => simp [unL, holdL]
  | cons t L ih =>
    unfold unL at ih ⊢
    rw [List.filter_cons]
    by_cases e : t.2 = r
    · simp only [e, decide_true, Bool.not_true, Bool.false_eq_true, if_false]
      rw [ih]
      by_cases e1 : r = r'
      · simp [e1]
      · simp only [e1, if_false, holdL]
        rw [if_neg (fun e2 => e1 (e.symm.trans e2))]
    · simp only [e, decide_false, Bool.not_false, if_true]
      by_cases e1 : r = r'
      · subst e1
        rw [if_pos rfl] at ih ⊢
        simp only [holdL, e, if_false]
        exact ih
      · rw [if_neg e1] at ih ⊢
        simp only [holdL]
        rw [ih]
theorem holdL_drop (h : (L.map (·.2)).Nodup) : holdL (dropL L o) r = if (holdL L r) = some o then none else holdL L r := by
  by_cases e : holdL L r = some o
  · rw [if_pos e, holdL_none]
    intro t ht e2
    obtain ⟨h1, h2⟩ := List.mem_filter.1 ht
    have h3 : holdL L r = some t.1 := holdL_of h (by rw [← e2]; exact h1)
    rw [e] at h3
    cases h3
    simp at h2
  · rw [if_neg e]
    cases h2 : holdL L r with
    | none =>
      rw [holdL_none] at h2 ⊢
      exact fun t ht => h2 t (List.mem_filter.1 ht).1
    | some p =>
      have h3 := holdL_mem h2
      have h4 : (p, r) ∈ dropL L o := List.mem_filter.2 ⟨h3, by
        have : p ≠ o := fun e3 => e (by rw [h2, e3])
        simpa using this⟩
      exact holdL_of (List.Nodup.sublist (List.Sublist.map _ List.filter_sublist) h) h4
theorem held_mem : r ∈ heldL L o ↔ (o, r) ∈ L := by
  unfold heldL
  constructor
  · intro h
    obtain ⟨t, ht, e⟩ := List.mem_map.1 h
    obtain ⟨h1, h2⟩ := List.mem_filter.1 ht
    simp only [decide_eq_true_eq] at h2
    obtain ⟨a, c⟩ := t
    simp only at e h2
    subst e h2
    exact h1
  · intro h
    exact List.mem_map.2 ⟨_, List.mem_filter.2 ⟨h, by simp⟩, rfl⟩
theorem held_app : heldL (L ++ [(o, r)]) o' = if o = o' then heldL L o' ++ [r] else heldL L o' := by
  unfold heldL
  rw [List.filter_append, List.map_append]
  by_cases e : o = o'
  · simp [e]
  · simp [e]
theorem held_drop : heldL (dropL L o) o' = if o = o' then [] else heldL L o' := by
  unfold heldL dropL
  rw [List.filter_filter]
  by_cases e : o = o'
  · subst e
    rw [if_pos rfl]
    have : L.filter (fun t => decide (t.1 = o) && !decide (t.1 = o)) = [] := by
      rw [List.filter_eq_nil_iff]
      intro t _
      cases decide (t.1 = o) <;> simp
    rw [this]
    rfl
  · rw [if_neg e]
    congr 1
    apply List.filter_congr
    intro t _
    by_cases e1 : t.1 = o'
    · have : ¬ t.1 = o := fun e2 => e (e2.symm.trans e1)
      simp [e1]
      exact fun e2 => e e2.symm
    · simp [e1]
theorem held_nd (h : (L.map (·.2)).Nodup) : (heldL L o).Nodup := List.Nodup.sublist (List.Sublist.map _ List.filter_sublist) h
theorem filter_last {l : List Int} {x : Int} (h : l.Nodup) (e : l.getLast? = some x) : l.filter (fun y => !decide (y = x)) = l.dropLast := by
  obtain ⟨m, rfl⟩ : ∃ m, l = m ++ [x] := by
    rcases List.eq_nil_or_concat l with rfl | ⟨m, y, rfl⟩
    · cases e
    · simp at e; subst e; exact ⟨m, by simp⟩
  rw [List.filter_append, List.dropLast_concat]
  have h1 : m.filter (fun y => !decide (y = x)) = m := List.filter_eq_self.2 (fun y hy => by
    have := (List.nodup_append.1 h).2.2 y hy x (by simp)
    simpa using this)
  rw [h1]
  simp
theorem held_un (h : (L.map (·.2)).Nodup) (hl : (heldL L o).getLast? = some r) : heldL (unL L r) o' = if o = o' then (heldL L o').dropLast else heldL L o' := by
  have e1 : ∀ p : Ow, heldL (unL L r) p = (heldL L p).filter (fun y => !decide (y = r)) := by
    intro p
    unfold heldL unL
    rw [List.filter_filter, List.filter_map, List.filter_filter]
    congr 1
    apply List.filter_congr
    intro t _
    simp only [Function.comp]
    cases decide (t.1 = p) <;> cases decide (t.2 = r) <;> rfl
  rw [e1]
  by_cases e : o = o'
  · subst e
    rw [if_pos rfl]
    exact filter_last (held_nd h) hl
  · rw [if_neg e]
    refine List.filter_eq_self.2 (fun y hy => ?_)
    have m1 : (o, r) ∈ L := held_mem.1 (List.mem_of_getLast? hl)
    have m2 : (o', y) ∈ L := held_mem.1 hy
    have : y ≠ r := by
      rintro rfl
      have := (holdL_of h m1).symm.trans (holdL_of h m2)
      cases this
      exact e rfl
    simpa using this
theorem len_sub : ∀ {l m : List Int}, l.Nodup → (∀ x ∈ l, x ∈ m) → l.length ≤ m.length
  | [], _, _, _ => Nat.zero_le _
  | a :: l, m, h, hs => by
    obtain ⟨h1, h2⟩ := List.nodup_cons.1 h
    have ha : a ∈ m := hs a (by simp)
    have := len_sub (l := l) (m := m.erase a) h2 (fun x hx => (List.mem_erase_of_ne (fun e => h1 (by rw [← e]; exact hx))).2 (hs x (by simp [hx])))
    rw [List.length_erase_of_mem ha] at this
    have hm : 0 < m.length := List.length_pos_of_mem ha
    simp only [List.length_cons]
    omega
theorem held_len (h : LInv T L) {x : RowR} (hx : rowT T o = some x) : (heldL L o).length ≤ x.own.length :=
  len_sub (held_nd h.nd) (fun y hy => by
    obtain ⟨x', hx', hm, _⟩ := h.own _ (held_mem.1 hy)
    rw [hx] at hx'
    cases hx'
    exact hm)
theorem held_lt (h : LInv T L) {x : RowR} (hx : rowT T o = some x) (hr : r ∈ x.own) (hn : holdL L r = none) : (heldL L o).length < x.own.length := by
  have := len_sub (l := r :: heldL L o) (m := x.own) (List.nodup_cons.2 ⟨fun hm => by
    have := holdL_none.1 hn _ (held_mem.1 hm)
    exact this rfl, held_nd h.nd⟩) (fun y hy => by
    rcases List.mem_cons.1 hy with rfl | hy
    · exact hr
    · obtain ⟨x', hx', hm, _⟩ := h.own _ (held_mem.1 hy)
      rw [hx] at hx'
      cases hx'
      exact hm)
  rw [List.length_cons] at this
  omega
theorem held_none (h : LInv T L) (hx : rowT T o = none) : heldL L o = [] := by
  rw [List.eq_nil_iff_forall_not_mem]
  intro y hy
  obtain ⟨x', hx', _⟩ := h.own _ (held_mem.1 hy)
  rw [hx] at hx'
  cases hx'
theorem inv_filter (h : LInv T L) (f : Take → Bool) : LInv T (L.filter f) :=
  ⟨List.Nodup.sublist (List.Sublist.map _ List.filter_sublist) h.nd, fun t ht => h.own t (List.mem_filter.1 ht).1⟩
theorem inv_get (h : LInv T L) : LInv T (getL T L o r).2 := by
  unfold getL
  split
  · rename_i hk
    split
    · rename_i hm
      unfold mayL at hm
      cases hx : rowT T o with
      | none => rw [hx] at hm; cases hm
      | some x =>
        rw [hx] at hm
        simp only [Bool.and_eq_true, decide_eq_true_eq, Option.isNone_iff_eq_none] at hm
        obtain ⟨⟨h1, h2⟩, h3⟩ := hm
        unfold knownT at hk
        simp only [Bool.and_eq_true] at hk
        refine ⟨?_, fun t ht => ?_⟩
        · rw [List.map_append, List.nodup_append]
          refine ⟨h.nd, by simp, fun a ha c hc => ?_⟩
          obtain ⟨t, ht, rfl⟩ := List.mem_map.1 ha
          simp only [List.map_cons, List.map_nil, List.mem_singleton] at hc
          subst hc
          exact holdL_none.1 h2 t ht
        · rcases List.mem_append.1 ht with ht | ht
          · exact h.own t ht
          · simp only [List.mem_singleton] at ht
            subst ht
            exact ⟨x, hx, h1, hk.2, h3⟩
    · exact h
  · exact h
theorem inv_rel (h : LInv T L) : LInv T (relL T L o r).2 := by
  unfold relL
  split
  · split
    · exact inv_filter h _
    · exact h
  · exact h
theorem inv_drop (h : LInv T L) : LInv T (dropL L o) := inv_filter h _
end
end Go.Proofs.Ytnfpiocjdhipcaa.LK
