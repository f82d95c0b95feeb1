/- clear and copy on a row that a slice owns, whatever the size of its elements. No program is in sight here. -/
import Derived.Test.YtnfpiocjdhipcaaTri
import Derived.Laws.IdiomCopy
namespace Go.Fr
open Go.RowKit

theorem put_take {A vs : List Value} {o N : Nat} (h : o + vs.length ≤ N) (hA : N ≤ A.length) :
    (A.take o ++ vs ++ A.drop (o + vs.length)).take N = (A.take N).take o ++ vs ++ (A.take N).drop (o + vs.length) := by
  rw [List.take_take, Nat.min_eq_left (by omega), List.drop_take, List.take_append, List.take_of_length_le (by simp; omega)]
  congr 2
  simp; omega

/-- cells are stored into a row -/
theorem run_store_row {P : Program} {w : World} {e : TypeId} {sz n g c : Nat} {xs : List Value} (h : Row w e sz (.slice (some ⟨g, 0, none⟩) n c) n xs) (vs : List Value) (o : Nat) (hl : o + vs.length ≤ n * sz) (h1 : ∀ u ∈ vs, u.oneCell' = true) :
    ∃ w', (storeCells ⟨g, o, none⟩ vs 0).run P w = .ok () w' ∧ Row w' e sz (.slice (some ⟨g, 0, none⟩) n c) n (xs.take o ++ vs ++ xs.drop (o + vs.length)) ∧ Kept (fun k => k = g) w w' := by
  have hlen := h.1
  rcases h.2 with ⟨h2, _⟩ | ⟨g', cap, cur, hv, hb, hh, hc, hm, hs, ht⟩
  · cases h2
  · simp only [Value.slice.injEq, Option.some.injEq, Addr.mk.injEq, and_true] at hv
    obtain ⟨rfl, _, rfl⟩ := hv
    have hcur : n * sz ≤ cur.toList.length := by
      have : (cur.toList.take (n * sz)).length = n * sz := by rw [ht, hlen]
      rw [List.length_take] at this; omega
    have hcs : n * sz ≤ cur.size := by simpa using hcur
    refine ⟨_, run_storeCells_at P g o e vs 0 cur w hh (by omega) h1, ⟨?_, Or.inr ⟨g, c, _, rfl, Nat.zero_le _, setRow_heap w g _ _ e _ hh, hc, hm, ?_, ?_⟩⟩, ⟨rfl, rfl, rfl, by simp [World.setRow], fun k _ hn => setRow_other w g k _ hn⟩⟩
    · simp [hlen]; omega
    · have : c * sz = cur.size := by first | exact hs.symm | exact hs
      simp at *; omega
    · simp only [Nat.add_zero]
      rw [put_take hl hcur, ht]

/-- clear of a row -/
theorem run_clear_row {P : Program} {α : Type} {enc : α → List Value} {w : World} {t e ty : TypeId} {sz n c : Nat} {ao : Option Addr} {xs : List Value} (he : ∀ x, (enc x).length = sz) (h0 : 0 < sz) (a : α) (z : Value) (ht : P.underlying t = some (.slice e)) (hz : ∀ w, (zeroValue e).run P w = .ok z w) (hc : z.cells = (enc a).toArray) (h1 : ∀ u ∈ enc a, u.oneCell' = true)
    (h : Row w e sz (.slice ao n c) n xs) :
    ∃ w', (Builtin.clear_ #[t] ty #[.slice ao n c]).run P w = .ok (.tuple #[]) w' ∧ Row w' e sz (.slice ao n c) n ((List.replicate n a).flatMap enc) ∧ Kept (fun k => (Value.slice ao n c).ownBlock = some k) w w' := by
  rcases Nat.eq_zero_or_pos n with rfl | hpos
  · refine ⟨w, ?_, ?_, Kept.refl _ _⟩
    · cases ao <;> simp [Builtin.clear_, run_underlying ht]
    · have hx : xs = [] := List.eq_nil_of_length_eq_zero (by simpa using h.1)
      subst hx; simpa using h
  · obtain ⟨m, rfl⟩ : ∃ m, n = m + 1 := ⟨n - 1, by omega⟩
    obtain ⟨g, cap, hv, _⟩ := row_form h
    cases hv
    have hlen : ((List.replicate (m + 1) a).flatMap enc).length = (m + 1) * sz := by rw [flat_length he]; simp
    obtain ⟨w', hr, hrow, hk⟩ := run_store_row (P := P) h ((List.replicate (m + 1) a).flatMap enc) 0 (by omega) (fun u hu => by
      obtain ⟨x, hx, hux⟩ := List.mem_flatMap.1 hu
      rw [List.eq_of_mem_replicate hx] at hux
      exact h1 u hux)
    have hzc : (Builtin.zeroCells z.cells (m + 1)).toList = (List.replicate (m + 1) a).flatMap enc := by
      have := made_flat he h0 a (m + 1)
      rw [hc]
      have h2 : Builtin.zeroCells (enc a).toArray (m + 1) = madeCells (enc a).toArray ((m + 1) * sz) := by
        unfold Builtin.zeroCells madeCells; simp [he]
      rw [h2, this]
    refine ⟨w', ?_, ?_, hk.mono (fun i _ hi => by rw [hi]; rfl)⟩
    · simp [Builtin.clear_, run_underlying ht, hz, hzc, hr]
    · have hx : xs.drop (0 + ((List.replicate (m + 1) a).flatMap enc).length) = [] := by rw [List.drop_eq_nil_iff]; have := h.1; omega
      rw [hx] at hrow
      simpa using hrow

theorem run_lenOf_slice {P : Program} (w : World) (ao : Option Addr) (n c : Nat) : (Builtin.lenOf (.slice ao n c)).run P w = .ok n w := rfl

/-- copy of as many elements as the destination has, or fewer -/
theorem run_copy_flat {P : Program} {w : World} {dT sT e ty : TypeId} {i : TypeInfo} {sz n c m sc : Nat} {ao so : Option Addr} {xs news : List Value} (ht : P.underlying dT = some (.slice e)) (hi : P.info? e = some i) (hs : i.size = sz)
    (h : Row w e sz (.slice ao n c) n xs) (hsrc : Shows w sz so m news) (hm : m ≤ n) (h1 : ∀ u ∈ news, u.oneCell' = true) :
    ∃ w', (Builtin.copy_ #[dT, sT] ty #[.slice ao n c, .slice so m sc]).run P w = .ok (goInt m) w' ∧ Row w' e sz (.slice ao n c) n (news ++ xs.drop (m * sz)) ∧ Kept (fun k => (Value.slice ao n c).ownBlock = some k) w w' := by
  obtain ⟨hl, hno, hcell⟩ := hsrc
  subst hs
  have hmin : Nat.min m n = m := Nat.min_eq_left hm
  rcases Nat.eq_zero_or_pos m with rfl | hpos
  · have hx : news = [] := List.eq_nil_of_length_eq_zero (by simpa using hl)
    subst hx
    have hld : ∀ (x : Addr), (loadCells x 0).run P w = .ok #[] w := fun x => by simpa using run_loadCells_list (P := P) w x [] (by simp)
    refine ⟨w, ?_, by simpa using h, Kept.refl _ _⟩
    cases ao <;> cases so <;> simp [Builtin.copy_, run_underlying ht, Builtin.lenOf, Builtin.firstCells, sizeOf, typeInfo, hi, storeCells, hld]
  · obtain ⟨k, rfl⟩ : ∃ k, n = k + 1 := ⟨n - 1, by omega⟩
    obtain ⟨g, cap, hv, _⟩ := row_form h
    cases hv
    cases so with
    | none => exact absurd (hno rfl) (by omega)
    | some ad =>
      have hle : m * i.size ≤ (k + 1) * i.size := Nat.mul_le_mul_right _ hm
      obtain ⟨w', hr, hrow, hk⟩ := run_store_row (P := P) h news 0 (by omega) h1
      have hld := run_loadCells_list (P := P) w ad news (hcell ad rfl)
      rw [hl] at hld
      refine ⟨w', ?_, ?_, hk.mono (fun i _ hi => by rw [hi]; rfl)⟩
      · simp [Builtin.copy_, run_underlying ht, Builtin.lenOf, Builtin.firstCells, sizeOf, typeInfo, hi, hmin, hld, hr]
      · simpa [hl] using hrow

theorem step_copy_flat {P : Program} {ops : Array Oper} {o : Oper} {a : Act} {w : World} {K : Act → World → Prop} {Q : Exit → Act → World → Prop} {E : Prop}
    (hg : o.guard = none) (d s : Operand) (dT sT : TypeId) (hop : o.op = Op.call { callee := Callee.builtin Builtin.copy, args := #[d, s], argTypes := #[dT, sT] })
    (e : TypeId) (i : TypeInfo) (sz : Nat) (ht : P.underlying dT = some (.slice e)) (hi : P.info? e = some i) (hs : i.size = sz)
    (ao : Option Addr) (n c : Nat) (xs : List Value) (hd : a.eval d = .slice ao n c) (h : Row w e sz (.slice ao n c) n xs)
    (so : Option Addr) (m sc : Nat) (news : List Value) (hx : a.eval s = .slice so m sc) (hsrc : Shows w sz so m news) (hm : m ≤ n) (h1 : ∀ u ∈ news, u.oneCell' = true)
    (hK : ∀ w', Row w' e sz (.slice ao n c) n (news ++ xs.drop (m * sz)) → Kept (fun k => (Value.slice ao n c).ownBlock = some k) w w' → K (a.put o.dst (goInt m)) w') :
    if Region.wanted o (yielded ops a.tmps) = true then Oper.wp P o a w K Q else E := by
  have hw : Region.wanted o (yielded ops a.tmps) = true := by simp [Region.wanted, hg]
  rw [if_pos hw]
  obtain ⟨w', hrun, r1, r2⟩ := run_copy_flat (P := P) (sT := sT) (ty := o.type) (sc := sc) ht hi hs h hsrc hm h1
  unfold Oper.wp
  simp [execOp, hop, resolve, invoke, builtin, hd, hx, hrun, Result.andThen]
  exact hK w' r1 r2

theorem wpList_copy_flat {P : Program} {ops : Array Oper} {rest : List Oper} {o : Oper} {a : Act} {w : World} {Q : Exit → Act → World → Prop}
    (hg : o.guard = none) (d s : Operand) (dT sT : TypeId) (hop : o.op = Op.call { callee := Callee.builtin Builtin.copy, args := #[d, s], argTypes := #[dT, sT] })
    (e : TypeId) (i : TypeInfo) (sz : Nat) (ht : P.underlying dT = some (.slice e)) (hi : P.info? e = some i) (hs : i.size = sz)
    (ao : Option Addr) (n c : Nat) (xs : List Value) (hd : a.eval d = .slice ao n c) (h : Row w e sz (.slice ao n c) n xs)
    (so : Option Addr) (m sc : Nat) (news : List Value) (hx : a.eval s = .slice so m sc) (hsrc : Shows w sz so m news) (hm : m ≤ n) (h1 : ∀ u ∈ news, u.oneCell' = true)
    (hK : ∀ w', Row w' e sz (.slice ao n c) n (news ++ xs.drop (m * sz)) → Kept (fun k => (Value.slice ao n c).ownBlock = some k) w w' → wpList P ops Q rest (a.put o.dst (goInt m)) w') :
    wpList P ops Q (o :: rest) a w := by
  refine wpList_plain hg fun K hK' => ?_
  obtain ⟨w', hrun, r1, r2⟩ := run_copy_flat (P := P) (sT := sT) (ty := o.type) (sc := sc) ht hi hs h hsrc hm h1
  unfold Oper.wp
  simp [execOp, hop, resolve, invoke, builtin, hd, hx, hrun, Result.andThen]
  exact hK' _ _ (hK w' r1 r2)

theorem wpList_clear_row {P : Program} {α : Type} {enc : α → List Value} {ops : Array Oper} {rest : List Oper} {o : Oper} {a : Act} {w : World} {Q : Exit → Act → World → Prop}
    (hg : o.guard = none) (d : Operand) (t : TypeId) (hop : o.op = Op.call { callee := Callee.builtin Builtin.clear, args := #[d], argTypes := #[t] })
    (e : TypeId) (sz : Nat) (he : ∀ x, (enc x).length = sz) (h0 : 0 < sz) (z0 : α) (z : Value) (ht : P.underlying t = some (.slice e)) (hz : ∀ w, (zeroValue e).run P w = .ok z w) (hc : z.cells = (enc z0).toArray) (h1 : ∀ u ∈ enc z0, u.oneCell' = true)
    (ao : Option Addr) (n c : Nat) (xs : List Value) (hd : a.eval d = .slice ao n c) (h : Row w e sz (.slice ao n c) n xs)
    (hK : ∀ w', Row w' e sz (.slice ao n c) n ((List.replicate n z0).flatMap enc) → Kept (fun k => (Value.slice ao n c).ownBlock = some k) w w' → wpList P ops Q rest (a.put o.dst (.tuple #[])) w') :
    wpList P ops Q (o :: rest) a w := by
  refine wpList_plain hg fun K hK' => ?_
  obtain ⟨w', hrun, r1, r2⟩ := run_clear_row (P := P) (ty := o.type) he h0 z0 z ht hz hc h1 h
  unfold Oper.wp
  simp [execOp, hop, resolve, invoke, builtin, hd, hrun, Result.andThen]
  exact hK' _ _ (hK w' r1 r2)

end Go.Fr
