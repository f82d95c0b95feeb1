/- Maps that a call itself has made: an association list says what they hold. No program is in sight here. -/
import Derived.Test.YtnfpiocjdhipcaaFrame
import Derived.Maps.RangeWalk
namespace Go.Fr
open Go.ChangeMaps Go.MapKept Go.WideShapes
open Go.Maps (Keyed)

section
variable {κ ν : Type} [DecidableEq κ]
def getA : List (κ × ν) → κ → Option ν
  | [], _ => none
  | (a, v) :: r, x => if a = x then some v else getA r x
def putA : List (κ × ν) → κ → ν → List (κ × ν)
  | [], x, v => [(x, v)]
  | (a, u) :: r, x, v => if a = x then (a, v) :: r else (a, u) :: putA r x v
def delA (l : List (κ × ν)) (x : κ) : List (κ × ν) := l.filter (fun p => !decide (p.1 = x))
/-- no key twice -/
def Apart (l : List (κ × ν)) : Prop := l.Pairwise (fun p q => p.1 ≠ q.1)
theorem getA_none {l : List (κ × ν)} {x : κ} : (∀ p ∈ l, p.1 ≠ x) → getA l x = none := by
  induction l with
  | nil => intro _; rfl
  | cons p r ih =>
    intro h
    obtain ⟨a, v⟩ := p
    unfold getA
    rw [if_neg (h (a, v) (by simp))]
    exact ih (fun p hp => h p (by simp [hp]))
theorem getA_mem {l : List (κ × ν)} {x : κ} {v : ν} : Apart l → (x, v) ∈ l → getA l x = some v := by
  induction l with
  | nil => intro _ h; cases h
  | cons p r ih =>
    intro hd h
    obtain ⟨a, u⟩ := p
    obtain ⟨h1, h2⟩ := List.pairwise_cons.1 hd
    unfold getA
    rcases List.mem_cons.1 h with e | h
    · cases e; rw [if_pos rfl]
    · rw [if_neg (h1 (x, v) h)]; exact ih h2 h
theorem mem_getA {l : List (κ × ν)} {x : κ} {v : ν} : getA l x = some v → (x, v) ∈ l := by
  induction l with
  | nil => intro h; cases h
  | cons p r ih =>
    intro h
    obtain ⟨a, u⟩ := p
    unfold getA at h
    split at h
    · rename_i e; cases h; subst e; simp
    · simp [ih h]
theorem getA_put {l : List (κ × ν)} {x y : κ} {v : ν} : getA (putA l x v) y = if x = y then some v else getA l y := by
  induction l with
  | nil => simp [putA, getA]
  | cons p r ih =>
    obtain ⟨a, u⟩ := p
    unfold putA
    by_cases e : a = x
    · subst e
      rw [if_pos rfl]
      by_cases e2 : a = y
      · subst e2; simp [getA]
      · simp [getA, e2]
    · rw [if_neg e]
      by_cases e2 : a = y
      · subst e2
        rw [if_neg (fun h => e h.symm)]
        simp [getA]
      · simp [getA, e2, ih]
theorem getA_del {l : List (κ × ν)} {x y : κ} : getA (delA l x) y = if x = y then none else getA l y := by
  induction l with
  | nil => simp [delA, getA]
  | cons p r ih =>
    obtain ⟨a, u⟩ := p
    unfold delA at ih ⊢
    rw [List.filter_cons]
    by_cases e : a = x
    · subst e
      simp only [decide_true, Bool.not_true, Bool.false_eq_true, if_false]
      rw [ih]
      by_cases e2 : a = y
      · simp [e2]
      · simp [e2, getA]
    · simp only [e, decide_false, Bool.not_false, if_true]
      by_cases e2 : a = y
      · subst e2
        rw [if_neg (fun h => e h.symm)]
        simp [getA]
      · simp only [getA, e2, if_false]
        exact ih
theorem mem_put {l : List (κ × ν)} {x : κ} {v : ν} {p : κ × ν} : p ∈ putA l x v → p = (x, v) ∨ (p ∈ l) := by
  induction l with
  | nil => intro h; simp [putA] at h; exact Or.inl h
  | cons q r ih =>
    intro h
    obtain ⟨a, u⟩ := q
    unfold putA at h
    split at h
    · rename_i e
      rcases List.mem_cons.1 h with rfl | h
      · exact Or.inl (by rw [e])
      · exact Or.inr (by simp [h])
    · rcases List.mem_cons.1 h with rfl | h
      · exact Or.inr (by simp)
      · rcases ih h with h | h
        · exact Or.inl h
        · exact Or.inr (by simp [h])
theorem Apart.put {l : List (κ × ν)} (x : κ) (v : ν) : Apart l → Apart (putA l x v) := by
  induction l with
  | nil => intro _; simp [putA, Apart]
  | cons q r ih =>
    intro h
    obtain ⟨a, u⟩ := q
    obtain ⟨h1, h2⟩ := List.pairwise_cons.1 h
    unfold putA
    split
    · exact List.pairwise_cons.2 ⟨h1, h2⟩
    · rename_i e
      refine List.pairwise_cons.2 ⟨fun p hp => ?_, ih h2⟩
      rcases mem_put hp with rfl | hp
      · exact e
      · exact h1 p hp
theorem Apart.del {l : List (κ × ν)} (x : κ) (h : Apart l) : Apart (delA l x) := h.filter _
theorem put_new {l : List (κ × ν)} {x : κ} {v : ν} : (∀ p ∈ l, p.1 ≠ x) → putA l x v = l ++ [(x, v)] := by
  induction l with
  | nil => intro _; rfl
  | cons q r ih =>
    intro h
    obtain ⟨a, u⟩ := q
    unfold putA
    rw [if_neg (h (a, u) (by simp)), ih (fun p hp => h p (by simp [hp]))]
    rfl
theorem put_set {x : κ} {v u : ν} : ∀ {l : List (κ × ν)} {j : Nat}, Apart l → l[j]? = some (x, u) → putA l x v = l.set j (x, v)
  | [], _, _, h => by simp at h
  | (a, u') :: r, 0, _, h => by
    simp at h
    obtain ⟨rfl, rfl⟩ := h
    simp [putA]
  | (a, u') :: r, j + 1, hd, h => by
    simp at h
    obtain ⟨h1, h2⟩ := List.pairwise_cons.1 hd
    unfold putA
    rw [if_neg (h1 (x, u) (List.mem_of_getElem? h)), put_set h2 h]
    rfl
theorem del_none {l : List (κ × ν)} {x : κ} (h : ∀ p ∈ l, p.1 ≠ x) : delA l x = l := List.filter_eq_self.2 (fun p hp => by simpa using h p hp)
theorem del_erase {x : κ} {u : ν} : ∀ {l : List (κ × ν)} {j : Nat}, Apart l → l[j]? = some (x, u) → delA l x = l.eraseIdx j
  | [], _, _, h => by simp at h
  | (a, u') :: r, 0, hd, h => by
    simp at h
    obtain ⟨rfl, rfl⟩ := h
    obtain ⟨h1, h2⟩ := List.pairwise_cons.1 hd
    have := del_none (l := r) (x := a) (fun p hp => (h1 p hp).symm)
    unfold delA at this ⊢
    simp [this]
  | (a, u') :: r, j + 1, hd, h => by
    simp at h
    obtain ⟨h1, h2⟩ := List.pairwise_cons.1 hd
    have ih := del_erase h2 h
    unfold delA at ih ⊢
    rw [List.filter_cons, if_pos (by simpa using h1 (x, u) (List.mem_of_getElem? h)), ih]
    rfl
end

/-- block b is a map whose entries are l's pairs -/
def IsMap {κ ν : Type} (w : World) (ek : κ → Value) (ev : ν → Value) (b : Nat) (l : List (κ × ν)) : Prop :=
  ∃ es clock, w.heap[b]? = some (.map es clock) ∧ Stamped es clock ∧ es.toList.map (fun e => (e.key, e.val)) = l.map (fun p => (ek p.1, ev p.2))
/-- every key of κ is a key of type k, and no two are one -/
structure KeyOk (κ : Type) (P : Program) (k : TypeId) (ek : κ → Value) (ok : κ → Prop) : Prop where
  law : Keyed P k
  key : ∀ x, ok x → ∃ l, keyOf P k (ek x) = some l
  inj : ∀ x y, ek x = ek y → x = y
section
variable {κ ν : Type} {P : Program} {k e t : TypeId} {ek : κ → Value} {ev : ν → Value} {ok : κ → Prop} {w w' : World} {b : Nat} {l : List (κ × ν)} {S : Nat → Prop}
theorem IsMap.lt (h : IsMap w ek ev b l) : b < w.heap.size := by
  obtain ⟨es, clock, hb, _⟩ := h
  exact (Array.getElem?_eq_some_iff.1 hb).1
theorem IsMap.kept (h : IsMap w ek ev b l) (k : Kept S w w') (hn : ¬ S b) : IsMap w' ek ev b l := by
  have hlt := h.lt
  obtain ⟨es, clock, hb, r⟩ := h
  exact ⟨es, clock, (k.block b hlt hn).trans hb, r⟩
theorem IsMap.made (w : World) (ek : κ → Value) (ev : ν → Value) : IsMap (w.alloc (.map #[] 0)) ek ev w.heap.size [] :=
  ⟨#[], 0, (MapKept.heap_alloc w _).1, stamped_empty 0, rfl⟩
theorem pair_at {es : Array MapEntry} {l : List (κ × ν)} (h : es.toList.map (fun e => (e.key, e.val)) = l.map (fun p => (ek p.1, ev p.2))) {j : Nat} {x : MapEntry} (hx : es.toList[j]? = some x) : ∃ p, l[j]? = some p ∧ x.key = ek p.1 ∧ x.val = ev p.2 := by
  have h1 := congrArg (fun z => z[j]?) h
  simp only [List.getElem?_map, hx, Option.map_some] at h1
  cases hl : l[j]? with
  | none => rw [hl] at h1; cases h1
  | some p =>
    rw [hl] at h1
    simp only [Option.map_some, Option.some.injEq, Prod.mk.injEq] at h1
    exact ⟨p, rfl, h1.1, h1.2⟩
theorem pair_mem {es : Array MapEntry} {l : List (κ × ν)} (h : es.toList.map (fun e => (e.key, e.val)) = l.map (fun p => (ek p.1, ev p.2))) {p : κ × ν} (hp : p ∈ l) : ∃ x ∈ es.toList, x.key = ek p.1 := by
  have h1 : (ek p.1, ev p.2) ∈ es.toList.map (fun e => (e.key, e.val)) := by
    rw [h]
    exact List.mem_map.2 ⟨p, hp, rfl⟩
  obtain ⟨x, hx, he⟩ := List.mem_map.1 h1
  exact ⟨x, hx, by have := congrArg Prod.fst he; exact this⟩
theorem IsMap.apart (h : IsMap w ek ev b l) : Apart l := by
  obtain ⟨es, clock, _, hs, he⟩ := h
  have h1 : (es.toList.map (fun e => (e.key, e.val))).Pairwise (fun p q => p.1 ≠ q.1) := by
    rw [List.pairwise_map]
    exact ((stamped_iff es clock).1 hs).2.2
  rw [he, List.pairwise_map] at h1
  exact h1.imp (fun hne e => hne (congrArg ek e))
/-- what a key is found to be -/
theorem IsMap.find (K : KeyOk κ P k ek ok) (hok : ∀ p ∈ l, ok p.1) {x : κ} (hx : ok x) {es : Array MapEntry} {clock : Nat} (_ : Stamped es clock) (he : es.toList.map (fun e => (e.key, e.val)) = l.map (fun p => (ek p.1, ev p.2))) (w : World) :
    ((Instr.findKey k (ek x) es.toList).run P w = .ok none w ∧ (∀ p ∈ l, p.1 ≠ x) ∧ ∀ y ∈ es.toList, y.key ≠ ek x) ∨
    ∃ j y v, (Instr.findKey k (ek x) es.toList).run P w = .ok (some (j, ev v)) w ∧ es.toList[j]? = some y ∧ y.key = ek x ∧ y.val = ev v ∧ l[j]? = some (x, v) := by
  obtain ⟨lx, hlx⟩ := K.key x hx
  have hks : ∀ y ∈ es.toList, ∃ z, keyOf P k y.key = some z := fun y hy => by
    obtain ⟨j, hj⟩ := List.mem_iff_getElem?.1 hy
    obtain ⟨p, hp, h1, _⟩ := pair_at he hj
    obtain ⟨z, hz⟩ := K.key p.1 (hok p (List.mem_of_getElem? hp))
    exact ⟨z, by rw [h1]; exact hz⟩
  rcases K.law.find w hlx es.toList hks with ⟨h1, h2⟩ | ⟨j, y, h1, h2, h3⟩
  · refine Or.inl ⟨h1, fun p hp e => ?_, h2⟩
    obtain ⟨y, hy, hk⟩ := pair_mem he hp
    exact h2 y hy (by rw [hk, e])
  · obtain ⟨p, hp, e1, e2⟩ := pair_at he h2
    have hpx : p.1 = x := K.inj _ _ (e1.symm.trans h3)
    refine Or.inr ⟨j, y, p.2, by rw [h1, e2], h2, h3, e2, ?_⟩
    rw [hp, ← hpx]
end
section
variable {κ ν : Type} [DecidableEq κ] {P : Program} {k e t : TypeId} {ek : κ → Value} {ev : ν → Value} {ok : κ → Prop} {w w' : World} {b : Nat} {l : List (κ × ν)} {S : Nat → Prop}
/-- 'm[k]' -/
theorem IsMap.look (h : IsMap w ek ev b l) (K : KeyOk κ P k ek ok) (hok : ∀ p ∈ l, ok p.1) (ht : P.underlying t = some (.map k e)) {x : κ} (hx : ok x) {z : Value} (hz : (zeroValue e).run P w = .ok z w) (c : Bool) :
    (Instr.lookup t (.map (some b)) (ek x) c).run P w = .ok (if c then .tuple #[((getA l x).map ev).getD z, .bool (getA l x).isSome] else ((getA l x).map ev).getD z) w := by
  have ha := h.apart
  obtain ⟨es, clock, hb, hs, he⟩ := h
  obtain ⟨lx, hlx⟩ := K.key x hx
  rcases IsMap.find K hok hx hs he w with ⟨h1, h2, _⟩ | ⟨j, y, v, h1, _, _, _, h5⟩
  · rw [getA_none h2]
    cases c <;> simp [Instr.lookup, run_underlying ht, MapKept.run_getObj_map hb, K.law.check w _ hlx, h1, hz, Result.andThen]
  · rw [getA_mem ha (List.mem_of_getElem? h5)]
    cases c <;> simp [Instr.lookup, run_underlying ht, MapKept.run_getObj_map hb, K.law.check w _ hlx, h1, Result.andThen]
theorem kept_setBlock {es : Array MapEntry} {clock : Nat} (hb : w.heap[b]? = some (.map es clock)) (o : Obj) : Kept (fun g => g = b) w (setBlock w b o) :=
  ⟨rfl, rfl, rfl, by simp [setBlock], fun g _ hg => heap_setBlock_other hb _ hg⟩
/-- 'm[k] = v' -/
theorem IsMap.store (h : IsMap w ek ev b l) (K : KeyOk κ P k ek ok) (hok : ∀ p ∈ l, ok p.1) (ht : P.underlying t = some (.map k e)) {x : κ} (hx : ok x) (v : ν) :
    ∃ w', (Instr.mapUpdate t (.map (some b)) (ek x) (ev v)).run P w = .ok () w' ∧ IsMap w' ek ev b (putA l x v) ∧ Kept (fun g => g = b) w w' ∧ w'.heap.size = w.heap.size := by
  have ha := h.apart
  obtain ⟨es, clock, hb, hs, he⟩ := h
  obtain ⟨lx, hlx⟩ := K.key x hx
  rcases IsMap.find K hok hx hs he w with ⟨h1, h2, h3⟩ | ⟨j, y, u, h1, h3, h4, h5, h6⟩
  · refine ⟨setBlock w b (.map (es.push ⟨ek x, ev v, clock⟩) (clock + 1)), ?_, ⟨_, _, heap_setBlock_same hb _, stamped_push hs h3, ?_⟩, kept_setBlock hb _, by simp [setBlock]⟩
    · simp [Instr.mapUpdate, run_underlying ht, MapKept.run_getObj_map hb, K.law.check w false hlx, h1, MapKept.run_setObj_map _ hb, Result.andThen, setBlock]
    · rw [put_new h2, Array.toList_push, List.map_append, he, List.map_append]
      rfl
  · have hj : es[j]? = some y := by simpa using h3
    have hkeyf : ∀ e', es[j]? = some e' → ({ e' with key := ek x, val := ev v } : MapEntry).key = e'.key := fun e' he' => by rw [hj] at he'; cases he'; exact h4.symm
    have hlist : (es.modify j (fun e' => { e' with key := ek x, val := ev v })).toList = es.toList.set j { y with key := ek x, val := ev v } := by rw [Array.toList_modify, modify_eq_set _ _ _ _ h3]
    refine ⟨setBlock w b (.map (es.modify j (fun e' => { e' with key := ek x, val := ev v })) clock), ?_, ⟨_, _, heap_setBlock_same hb _, stamped_modify hs _ _ (fun _ _ => rfl) (fun e' _ he' => hkeyf e' he'), ?_⟩, kept_setBlock hb _, by simp [setBlock]⟩
    · simp [Instr.mapUpdate, run_underlying ht, MapKept.run_getObj_map hb, K.law.check w false hlx, h1, hj, h4, K.law.stays w hlx, MapKept.run_setObj_map _ hb, Result.andThen, setBlock]
    · rw [hlist, put_set ha h6, List.map_set, he, List.map_set]
/-- 'delete(m, k)' -/
theorem IsMap.drop (h : IsMap w ek ev b l) (K : KeyOk κ P k ek ok) (hok : ∀ p ∈ l, ok p.1) (ht : P.underlying t = some (.map k e)) {x : κ} (hx : ok x) (ty : TypeId) :
    ∃ w', (Builtin.delete_ #[t, k] ty #[.map (some b), ek x]).run P w = .ok (.tuple #[]) w' ∧ IsMap w' ek ev b (delA l x) ∧ Kept (fun g => g = b) w w' ∧ w'.heap.size = w.heap.size := by
  have ha := h.apart
  obtain ⟨es, clock, hb, hs, he⟩ := h
  obtain ⟨lx, hlx⟩ := K.key x hx
  rcases IsMap.find K hok hx hs he w with ⟨h1, h2, h3⟩ | ⟨j, y, u, h1, h3, h4, h5, h6⟩
  · refine ⟨setBlock w b (.map es clock), ?_, ⟨_, _, heap_setBlock_same hb _, hs, by rw [del_none h2]; exact he⟩, kept_setBlock hb _, by simp [setBlock]⟩
    simp [Builtin.delete_, run_underlying ht, MapKept.run_getObj_map hb, K.law.check w _ hlx, h1, MapKept.run_setObj_map _ hb, Result.andThen, setBlock]
  · have hjl : j < es.toList.length := (List.getElem?_eq_some_iff.1 h3).1
    have hjs : j < es.size := by simpa using hjl
    have hsub : (es.eraseIdxIfInBounds j).toList = es.toList.eraseIdx j := by
      unfold Array.eraseIdxIfInBounds
      rw [dif_pos hjs]
      simp
    refine ⟨setBlock w b (.map (es.eraseIdxIfInBounds j) clock), ?_, ⟨_, _, heap_setBlock_same hb _, stamped_erase hs j, ?_⟩, kept_setBlock hb _, by simp [setBlock]⟩
    · simp [Builtin.delete_, run_underlying ht, MapKept.run_getObj_map hb, K.law.check w _ hlx, h1, MapKept.run_setObj_map _ hb, Result.andThen, setBlock]
    · rw [hsub, map_eraseIdx, he, del_erase ha h6, map_eraseIdx]
end

/-! ### at the operation -/
section
variable {κ ν : Type} [DecidableEq κ] {P : Program} {k e t : TypeId} {ek : κ → Value} {ev : ν → Value} {ok : κ → Prop} {b : Nat} {l : List (κ × ν)} (w : World) {ops : Array Oper} {rest : List Oper} {o : Oper} {a : Act} {Q : Exit → Act → World → Prop}
theorem wpList_look (hg : o.guard = none) (m y : Operand) (t : TypeId) (hop : o.op = Op.lookup t m y false) (h : IsMap w ek ev b l) (K : KeyOk κ P k ek ok) (hok : ∀ p ∈ l, ok p.1) (ht : P.underlying t = some (.map k e)) (hm : a.eval m = .map (some b)) (x : κ) (hy : a.eval y = ek x) (hx : ok x)
    {z : Value} (hz : (zeroValue e).run P w = .ok z w) (val : Value) (hv : ((getA l x).map ev).getD z = val) (hK : wpList P ops Q rest (a.put o.dst val) w) : wpList P ops Q (o :: rest) a w := by
  refine wpList_plain hg fun K' hK' => ?_
  have hrun := h.look K hok ht hx hz false
  unfold Oper.wp
  simp [execOp, hop, hm, hy, hrun, hv, Result.andThen]
  exact hK' _ _ hK
theorem wpList_look_ok (hg : o.guard = none) (m y : Operand) (t : TypeId) (hop : o.op = Op.lookup t m y true) (h : IsMap w ek ev b l) (K : KeyOk κ P k ek ok) (hok : ∀ p ∈ l, ok p.1) (ht : P.underlying t = some (.map k e)) (hm : a.eval m = .map (some b)) (x : κ) (hy : a.eval y = ek x) (hx : ok x)
    {z : Value} (hz : (zeroValue e).run P w = .ok z w) (val : Value) (c : Bool) (hv : ((getA l x).map ev).getD z = val) (hc : (getA l x).isSome = c) (hK : wpList P ops Q rest (a.put o.dst (.tuple #[val, .bool c])) w) : wpList P ops Q (o :: rest) a w := by
  refine wpList_plain hg fun K' hK' => ?_
  have hrun := h.look K hok ht hx hz true
  unfold Oper.wp
  simp [execOp, hop, hm, hy, hrun, hv, hc, Result.andThen]
  exact hK' _ _ hK
theorem wpList_store (hg : o.guard = none) (m y u : Operand) (t : TypeId) (hop : o.op = Op.mapUpdate t m y u) (h : IsMap w ek ev b l) (K : KeyOk κ P k ek ok) (hok : ∀ p ∈ l, ok p.1) (ht : P.underlying t = some (.map k e)) (hm : a.eval m = .map (some b)) (x : κ) (hy : a.eval y = ek x) (hx : ok x) (v : ν) (hu : a.eval u = ev v)
    (hK : ∀ w', IsMap w' ek ev b (putA l x v) → Kept (fun g => g = b) w w' → w'.heap.size = w.heap.size → wpList P ops Q rest (a.put o.dst undef) w') : wpList P ops Q (o :: rest) a w := by
  refine wpList_plain hg fun K' hK' => ?_
  obtain ⟨w', hrun, r1, r2, r3⟩ := h.store K hok ht hx v
  unfold Oper.wp
  simp [execOp, hop, hm, hy, hu, hrun, Result.andThen]
  exact hK' _ _ (hK w' r1 r2 r3)
theorem wpList_drop (hg : o.guard = none) (m y : Operand) (t k : TypeId) (hop : o.op = Op.call { callee := Callee.builtin Builtin.delete, args := #[m, y], argTypes := #[t, k] }) (h : IsMap w ek ev b l) (K : KeyOk κ P k ek ok) (hok : ∀ p ∈ l, ok p.1) (ht : P.underlying t = some (.map k e)) (hm : a.eval m = .map (some b)) (x : κ) (hy : a.eval y = ek x) (hx : ok x)
    (hK : ∀ w', IsMap w' ek ev b (delA l x) → Kept (fun g => g = b) w w' → w'.heap.size = w.heap.size → wpList P ops Q rest (a.put o.dst (.tuple #[])) w') : wpList P ops Q (o :: rest) a w := by
  refine wpList_plain hg fun K' hK' => ?_
  obtain ⟨w', hrun, r1, r2, r3⟩ := h.drop K hok ht hx o.type
  unfold Oper.wp
  simp [execOp, hop, resolve, invoke, builtin, hm, hy, hrun, Result.andThen]
  exact hK' _ _ (hK w' r1 r2 r3)
end

/-! ### a range under way -/
def Rng {κ ν : Type} (w : World) (ek : κ → Value) (ev : ν → Value) (b r : Nat) (l left : List (κ × ν)) : Prop :=
  ∃ es clock since seen c0, w.heap[b]? = some (.map es clock) ∧ Stamped es clock ∧ es.toList.map (fun e => (e.key, e.val)) = l.map (fun p => (ek p.1, ev p.2)) ∧ w.heap[r]? = some (.mapIter (some b) since seen c0) ∧ (∀ x ∈ es.toList, x.born < since) ∧ since ≤ c0 ∧ since ≤ clock ∧
    (leftOf es seen).toList.map (fun e => (e.key, e.val)) = left.map (fun p => (ek p.1, ev p.2))
section
variable {κ ν : Type} {P : Program} {k e t : TypeId} {ek : κ → Value} {ev : ν → Value} {w w' : World} {b r : Nat} {l left : List (κ × ν)} {S : Nat → Prop}
theorem Rng.map (h : Rng w ek ev b r l left) : IsMap w ek ev b l := by
  obtain ⟨es, clock, _, _, _, hb, hs, he, _⟩ := h
  exact ⟨es, clock, hb, hs, he⟩
theorem Rng.lt (h : Rng w ek ev b r l left) : r < w.heap.size := by
  obtain ⟨es, clock, _, _, _, _, _, _, hr, _⟩ := h
  exact (Array.getElem?_eq_some_iff.1 hr).1
theorem Rng.ne (h : Rng w ek ev b r l left) : r ≠ b := by
  obtain ⟨es, clock, _, _, _, hb, _, _, hr, _⟩ := h
  rintro rfl
  rw [hb] at hr
  cases hr
theorem Rng.kept (h : Rng w ek ev b r l left) (k : Kept S w w') (hb : ¬ S b) (hr : ¬ S r) : Rng w' ek ev b r l left := by
  have h1 := h.map.lt
  have h2 := h.lt
  obtain ⟨es, clock, since, seen, c0, q1, q2, q3, q4, q5⟩ := h
  exact ⟨es, clock, since, seen, c0, (k.block b h1 hb).trans q1, q2, q3, (k.block r h2 hr).trans q4, q5⟩
theorem left_erase {es : Array MapEntry} {seen : Array Nat} {x : MapEntry} (hn : (es.toList.map (·.born)).Nodup) {j : Nat} (hj : (leftOf es seen).toList[j]? = some x) : (leftOf es (seen.push x.born)).toList = (leftOf es seen).toList.eraseIdx j := by
  have e1 : ∀ s : Array Nat, (leftOf es s).toList = es.toList.filter (fun e => !s.contains e.born) := fun s => by unfold leftOf; rw [Array.toList_filter]
  have hn2 : ((es.toList.filter (fun e => !seen.contains e.born)).map (·.born)).Nodup := List.Nodup.sublist (List.Sublist.map _ List.filter_sublist) hn
  rw [e1] at hj
  rw [e1, e1]
  have e2 : es.toList.filter (fun e => !(seen.push x.born).contains e.born) = (es.toList.filter (fun e => !seen.contains e.born)).filter (fun e => !(e.born == x.born)) := by
    rw [List.filter_filter]
    apply List.filter_congr
    intro y _
    rw [contains_push]
    cases seen.contains y.born <;> cases (y.born == x.born) <;> rfl
  rw [e2]
  generalize es.toList.filter (fun e => !seen.contains e.born) = L at hj hn2
  have key : ∀ (L : List MapEntry) (j : Nat), (L.map (·.born)).Nodup → L[j]? = some x → L.filter (fun e => !(e.born == x.born)) = L.eraseIdx j := by
    intro L
    induction L with
    | nil => intro j _ h; simp at h
    | cons a r ih =>
      intro j hn h
      obtain ⟨n1, n2⟩ := List.nodup_cons.1 (show ((a :: r).map (·.born)).Nodup from hn)
      cases j with
      | zero =>
        simp at h
        subst h
        rw [List.filter_cons, if_neg (by simp), List.eraseIdx_cons_zero]
        exact List.filter_eq_self.2 (fun y hy => by
          have : y.born ≠ a.born := fun e => n1 (List.mem_map.2 ⟨y, hy, e⟩)
          simpa using this)
      | succ j =>
        simp at h
        have : a.born ≠ x.born := fun e => n1 (List.mem_map.2 ⟨x, List.mem_of_getElem? h, e.symm⟩)
        rw [List.filter_cons, if_pos (by simpa using this), List.eraseIdx_cons_succ, ih j n2 h]
  exact key L j hn2 hj
/-- 'range m' -/
theorem IsMap.range (h : IsMap w ek ev b l) (ht : P.underlying t = some (.map k e)) :
    ∃ w', (Instr.range t (.map (some b))).run P w = .ok (.pointer (some ⟨w.heap.size, 0, none⟩)) w' ∧ Rng w' ek ev b w.heap.size l l ∧ Kept (fun _ => False) w w' ∧ w'.heap.size = w.heap.size + 1 := by
  have hlt := h.lt
  obtain ⟨es, clock, hb, hs, he⟩ := h
  refine ⟨_, run_range_map w t k e b es clock ht hb, ⟨es, clock, clock, #[], clock, ((MapKept.heap_alloc w _).2 b hlt).trans hb, hs, he, (MapKept.heap_alloc w _).1, hs.1, Nat.le_refl _, Nat.le_refl _, ?_⟩, (Kept.refl _ _).alloc _, by simp⟩
  have : leftOf es #[] = es := by
    unfold leftOf
    simp
  rw [this]
  exact he
/-- a step -/
theorem Rng.next (h : Rng w ek ev b r l left) (ty : TypeId) :
    (left = [] ∧ (Instr.next (.pointer (some ⟨r, 0, none⟩)) false ty).run P w = .ok (.tuple #[.bool false]) w) ∨
    ∃ j p w', left[j]? = some p ∧ (Instr.next (.pointer (some ⟨r, 0, none⟩)) false ty).run P w = .ok (.tuple #[.bool true, ek p.1, ev p.2]) w' ∧ Rng w' ek ev b r l (left.eraseIdx j) ∧ Kept (fun g => g = r) w w' ∧ w'.heap.size = w.heap.size ∧ (Instr.entry (.pointer (some ⟨r, 0, none⟩))).run P w' = .ok (.tuple #[ek p.1, ev p.2]) w' := by
  have hne := h.ne
  obtain ⟨es, clock, since, seen, c0, hb, hs, he, hr, hold, hsc, hsk, hl⟩ := h
  rcases run_next_at (P := P) w ty r b since c0 seen es clock hr hb hold hsc with ⟨h0, hrun⟩ | ⟨x, hx, w1, hal, hrun⟩
  · refine Or.inl ⟨?_, hrun⟩
    have : (leftOf es seen).toList = [] := by
      rw [Array.eq_empty_of_size_eq_zero h0]
    rw [this] at hl
    exact List.map_eq_nil_iff.1 hl.symm
  · obtain ⟨j, hj⟩ := List.mem_iff_getElem?.1 hx
    obtain ⟨p, hp, h1, h2⟩ := pair_at hl hj
    obtain ⟨hem, _⟩ := mem_left hx
    have hn := ((stamped_iff es clock).1 hs).2.1
    have hr1 : w1.heap[r]? = some (.mapIter (some b) since seen c0) := by rcases hal with rfl | rfl <;> exact hr
    have hb1 : w1.heap[b]? = some (.map es clock) := by rcases hal with rfl | rfl <;> exact hb
    have hset := heap_set (o' := .mapIter (some b) since (seen.push x.born) clock) hr1
    have hb' : (setBlock w1 r (.mapIter (some b) since (seen.push x.born) clock)).heap[b]? = some (.map es clock) := (hset.2 b (fun e1 => hne e1.symm)).trans hb1
    refine Or.inr ⟨j, p, _, hp, by rw [hrun, h1, h2], ⟨es, clock, since, seen.push x.born, clock, hb', hs, he, hset.1, hold, hsk, hsk, ?_⟩, ?_, ?_, ?_⟩
    · rw [left_erase hn hj, map_eraseIdx, hl, map_eraseIdx]
    · rcases hal with rfl | rfl <;> exact ⟨rfl, rfl, rfl, by simp [setBlock], fun i _ hi => hset.2 i hi⟩
    · rcases hal with rfl | rfl <;> simp [setBlock]
    · rw [← h1, ← h2]
      exact run_entry_at _ r b since seen es clock x hset.1 hb' hem hn
variable (w0 : World) {ops : Array Oper} {rest : List Oper} {o : Oper} {a : Act} {Q : Exit → Act → World → Prop}
theorem wpList_range (hg : o.guard = none) (m : Operand) (t : TypeId) (hop : o.op = Op.range t m) (h : IsMap w0 ek ev b l) (ht : P.underlying t = some (.map k e)) (hm : a.eval m = .map (some b))
    (hK : ∀ w', Rng w' ek ev b w0.heap.size l l → Kept (fun _ => False) w0 w' → w'.heap.size = w0.heap.size + 1 → wpList P ops Q rest (a.put o.dst (.pointer (some ⟨w0.heap.size, 0, none⟩))) w') : wpList P ops Q (o :: rest) a w0 := by
  refine wpList_plain hg fun K' hK' => ?_
  obtain ⟨w', hrun, r1, r2, r3⟩ := h.range (P := P) (t := t) ht
  unfold Oper.wp
  simp [execOp, hop, hm, hrun, Result.andThen]
  exact hK' _ _ (hK w' r1 r2 r3)
theorem wpList_next (hg : o.guard = none) (it : Operand) (hop : o.op = Op.next it false) (hit : a.eval it = .pointer (some ⟨r, 0, none⟩)) (h : Rng w0 ek ev b r l left)
    (hDone : left = [] → wpList P ops Q rest (a.put o.dst (.tuple #[.bool false])) w0)
    (hMore : ∀ j p w', left[j]? = some p → Rng w' ek ev b r l (left.eraseIdx j) → Kept (fun g => g = r) w0 w' → w'.heap.size = w0.heap.size → (Instr.entry (.pointer (some ⟨r, 0, none⟩))).run P w' = .ok (.tuple #[ek p.1, ev p.2]) w' → wpList P ops Q rest (a.put o.dst (.tuple #[.bool true, ek p.1, ev p.2])) w') : wpList P ops Q (o :: rest) a w0 := by
  refine wpList_plain hg fun K' hK' => ?_
  unfold Oper.wp
  rcases h.next (P := P) o.type with ⟨h0, hrun⟩ | ⟨j, p, w', hj, hrun, r1, r2, r3, r4⟩
  · simp [execOp, hop, hit, hrun, Result.andThen]
    exact hK' _ _ (hDone h0)
  · simp [execOp, hop, hit, hrun, Result.andThen]
    exact hK' _ _ (hMore j p w' hj r1 r2 r3 r4)
end
end Go.Fr
