/- Rows of structs: a list of things, each of sz cells. -/
import Derived.Test.YtnfpiocjdhipcaaFrame
import Derived.Laws.MakeOwn
import Derived.Laws.Entries
namespace Go.Fr
open Go.RowKit

theorem flat_get {α : Type} {enc : α → List Value} {sz : Nat} (he : ∀ x, (enc x).length = sz) : ∀ (l : List α) (k i : Nat) (x : α), l[k]? = some x → i < sz → (l.flatMap enc)[k * sz + i]? = (enc x)[i]?
  | [], k, i, x, h, _ => by simp at h
  | a :: l, 0, i, x, h, hi => by
    simp at h; subst h
    rw [List.flatMap_cons, List.getElem?_append_left (by rw [he]; omega)]
    simp
  | a :: l, k + 1, i, x, h, hi => by
    rw [List.flatMap_cons, List.getElem?_append_right (by rw [he, Nat.succ_mul]; omega), he, show (k + 1) * sz + i - sz = k * sz + i by rw [Nat.succ_mul]; omega]
    exact flat_get he l k i x (by simpa using h) hi

theorem flat_set {α : Type} {enc : α → List Value} {sz : Nat} (he : ∀ x, (enc x).length = sz) : ∀ (l : List α) (k i : Nat) (x' : α) (u : Value) (x : α), l[k]? = some x → i < sz → enc x' = (enc x).set i u → (l.flatMap enc).set (k * sz + i) u = (l.set k x').flatMap enc
  | [], k, i, x', u, x, h, _, _ => by simp at h
  | a :: l, 0, i, x', u, x, h, hi, e => by
    simp at h; subst h
    rw [List.flatMap_cons, List.set_append_left _ _ (by rw [he]; omega)]
    simp [e]
  | a :: l, k + 1, i, x', u, x, h, hi, e => by
    rw [List.flatMap_cons, List.set_append_right _ _ (by rw [he, Nat.succ_mul]; omega), he, show (k + 1) * sz + i - sz = k * sz + i by rw [Nat.succ_mul]; omega, flat_set he l k i x' u x (by simpa using h) hi e]
    simp

theorem flat_length {α : Type} {enc : α → List Value} {sz : Nat} (he : ∀ x, (enc x).length = sz) (l : List α) : (l.flatMap enc).length = l.length * sz := by
  induction l with
  | nil => simp
  | cons a l ih => rw [List.flatMap_cons, List.length_append, he, ih, List.length_cons, Nat.succ_mul]; omega

/-- the cell i of the thing k -/
theorem rows_cell {α : Type} {enc : α → List Value} {w : World} {e : TypeId} {sz n g c : Nat} {l : List α} (he : ∀ x, (enc x).length = sz) (h : Row w e sz (.slice (some ⟨g, 0, none⟩) n c) n (l.flatMap enc)) {k i : Nat} {x : α} {u : Value} (hx : l[k]? = some x) (hu : (enc x)[i]? = some u) :
    w.cell? ⟨g, k * sz + i, none⟩ = some u := by
  have hi : i < sz := by rw [← he x]; exact (List.getElem?_eq_some_iff.1 hu).1
  exact row_cell h _ ((flat_get he l k i x hx hi).trans hu)

/-- one cell of the thing k is written -/
theorem rows_set {α : Type} {enc : α → List Value} {w : World} {e : TypeId} {sz n g c : Nat} {l : List α} (he : ∀ x, (enc x).length = sz) (h : Row w e sz (.slice (some ⟨g, 0, none⟩) n c) n (l.flatMap enc)) {k i : Nat} {x : α} (x' : α) {u : Value} (hx : l[k]? = some x) (hi : i < sz) (e' : enc x' = (enc x).set i u) :
    Row (w.setCell ⟨g, k * sz + i, none⟩ u) e sz (.slice (some ⟨g, 0, none⟩) n c) n ((l.set k x').flatMap enc) := by
  rw [← flat_set he l k i x' u x hx hi e']
  exact row_set h _ u

theorem made_flat {α : Type} {enc : α → List Value} {sz : Nat} (he : ∀ x, (enc x).length = sz) (h0 : 0 < sz) (a : α) (n : Nat) : madeCells (enc a).toArray (n * sz) = ((List.replicate n a).flatMap enc).toArray := by
  apply Array.ext
  · rw [size_madeCells]; simp [flat_length he]
  · intro i h1 h2
    rw [size_madeCells] at h1
    have hk : i / sz < n := (Nat.div_lt_iff_lt_mul h0).2 h1
    have hi : i % sz < sz := Nat.mod_lt _ h0
    have hd : i / sz * sz + i % sz = i := by rw [Nat.mul_comm]; exact Nat.div_add_mod i sz
    have hg := flat_get he (List.replicate n a) (i / sz) (i % sz) a (by simp [hk]) hi
    rw [hd] at hg
    have hsz : i % sz < (enc a).length := by rw [he]; exact hi
    rw [List.getElem?_eq_getElem hsz] at hg
    simp only [madeCells, Array.getElem_map, Array.getElem_range, List.getElem_toArray]
    rw [(List.getElem?_eq_some_iff.1 hg).2]
    simp only [List.size_toArray, he, getElem!_def, List.getElem?_toArray]
    rw [List.getElem?_eq_getElem hsz]

/-- a fresh row -/
theorem row_new (w : World) (e : TypeId) (sz n : Nat) (xs : List Value) (hx : xs.length = n * sz) (hn : n ≤ maxLen) : Row (w.alloc (.cells xs.toArray e)) e sz (.slice (some ⟨w.heap.size, 0, none⟩) n n) n xs :=
  ⟨hx, Or.inr ⟨w.heap.size, n, xs.toArray, rfl, Nat.zero_le _, heap_alloc_new w _, Nat.le_refl _, hn, by simpa using hx, by simp [← hx]⟩⟩

/-- make of a row of structs -/
theorem run_make_flat {P : Program} {α : Type} {enc : α → List Value} {sz : Nat} (he : ∀ x, (enc x).length = sz) (h0 : 0 < sz) (a : α) (t e : TypeId) (i : TypeInfo) (z : Value) (ht : P.underlying t = some (.slice e)) (hi : P.info? e = some i) (hz : i.zero = some z) (hs : i.size = sz) (hc : z.cells = (enc a).toArray)
    (kl kc : IntKind) (n : Nat) (hbytes : i.bytes * n ≤ 281474976710656) (h63 : n ≤ 9223372036854775807) (w : World) :
    (Instr.makeSlice t (.int kl (n : Int)) (.int kc (n : Int))).run P w = .ok (.slice (some ⟨w.heap.size, 0, none⟩) n n) (w.alloc (.cells ((List.replicate n a).flatMap enc).toArray e)) := by
  have hb : (i.bytes : Int) * (n : Int) ≤ 281474976710656 := by
    have h : ((i.bytes * n : Nat) : Int) ≤ 281474976710656 := by omega
    rwa [Int.natCast_mul] at h
  have hr := run_make (P := P) w t e i z ht hi hz kl kc n n (by omega) (by omega) hb (by omega)
  simp only [Int.toNat_natCast] at hr
  rw [hr, hs, hc, made_flat he h0]
end Go.Fr
