/- What comes in: a slice of whatever elements, said cell by cell. No program is in sight here. -/
import Derived.Test.YtnfpiocjdhipcaaFrame
import Derived.ProofKit
import Derived.OpenShut
import Derived.ShutString
import Derived.ChangeOld
import Derived.Deep.Slices
import Derived.Deep.Strs
import Derived.Lib.SmallJoins
import Derived.SizedLaws
namespace Go.Fr
open Go.RowKit Go.ChangeShapes Go.WideShapes Go.Deep

/-- A slice of len elements of sz cells each that lies in memory: element i holds the cells f i. -/
def Came (w : World) (sz : Nat) (ao : Option Addr) (len : Nat) (f : Nat → List Value) : Prop :=
  0 < len → ∃ b off, ao = some ⟨b, off, none⟩ ∧ b < w.heap.size ∧ ∀ i, i < len → (f i).length = sz ∧ ∀ (j : Nat) (v : Value), (f i)[j]? = some v → w.cell? ⟨b, off + i * sz + j, none⟩ = some v

theorem Came.below {w w' : World} {B sz len : Nat} {ao : Option Addr} {f : Nat → List Value} (h : Came w sz ao len f) (k : Below B w w') (hB : w.heap.size ≤ B) : Came w' sz ao len f := by
  intro hl
  obtain ⟨b, off, rfl, hb, hc⟩ := h hl
  refine ⟨b, off, rfl, Nat.lt_of_lt_of_le hb k.size, fun i hi => ⟨(hc i hi).1, fun j v hv => ?_⟩⟩
  rw [k.cell (by show b < B; omega)]
  exact (hc i hi).2 j v hv

theorem came_of {H : Type} {enc : TypeId × Value → H} {P : Program} {w : World} {base : Nat} {spare : Nat → Bool} {held : Bool} {t e : TypeId} {fuel sz : Nat} {ao : Option Addr} {len cap : Nat} {x : DataW H × List MemPlace}
    (ht : P.underlying t = some (.slice e)) (hsz : P.cellsOf e = sz) (h0 : 0 < sz) (h : DataW.trod enc P w base spare held fuel t [.slice ao len cap] = some x)
    (R : List Value → Prop) (helem : ∀ n cs y, DataW.trod enc P w base spare held n e cs = some y → R cs) :
    (∃ f, Came w sz ao len f ∧ ∀ i, i < len → R (f i)) ∧ len ≤ cap ∧ cap ≤ maxLen := by
  subst hsz
  rcases open_slice ht h with ⟨hcs, _⟩ | ⟨a, len', cap', m, n, D, Pl, hcs, hb, hl, hm, hmm, rfl, hx⟩
  · simp only [List.cons.injEq, Value.slice.injEq, and_true] at hcs
    obtain ⟨rfl, rfl, rfl⟩ := hcs
    exact ⟨⟨fun _ => [], fun h => absurd h (by omega), fun i hi => by omega⟩, Nat.le_refl _, by unfold maxLen; omega⟩
  · simp only [List.cons.injEq, Value.slice.injEq, and_true] at hcs
    obtain ⟨rfl, rfl, rfl⟩ := hcs
    have hlm : len ≤ m := by rw [hmm]; split <;> omega
    obtain ⟨f, hf⟩ := choose_lt (α := List Value) (n := len) (p := fun i cs => w.cells? base (a.add (i * P.cellsOf e)) (P.cellsOf e) = some cs ∧ R cs) (fun i hi => by
      obtain ⟨cs', h1, h2⟩ := hx i (by omega)
      exact ⟨cs', h1, helem _ _ _ h2⟩)
    refine ⟨⟨f, fun hpos => ?_, fun i hi => (hf i hi).2⟩, hl, hm⟩
    have key : ∀ i, i < len → (f i).length = P.cellsOf e ∧ ∀ (j : Nat) (v : Value), (f i)[j]? = some v → w.cell? ((a.add (i * P.cellsOf e)).add j) = some v := by
      intro i hi
      obtain ⟨_, g1, g2⟩ := World.cells?_some (hf i hi).1
      refine ⟨g1, fun j v hv => ?_⟩
      have hj : j < P.cellsOf e := by rw [← g1]; exact (List.getElem?_eq_some_iff.1 hv).1
      rw [g2 j hj]; exact hv
    have hsp : a.spot = none := by
      obtain ⟨g1, g2⟩ := key 0 hpos
      obtain ⟨u, hu⟩ : ∃ u, (f 0)[0]? = some u := ⟨_, List.getElem?_eq_getElem (by omega)⟩
      have := g2 0 u hu
      simp [Addr.add] at this
      exact World.cell?_spot this
    obtain ⟨b, off, spot⟩ := a
    simp only at hsp
    subst hsp
    refine ⟨b, off, rfl, ?_, fun i hi => ⟨(key i hi).1, fun j v hv => ?_⟩⟩
    · obtain ⟨g1, g2⟩ := key 0 hpos
      obtain ⟨u, hu⟩ : ∃ u, (f 0)[0]? = some u := ⟨_, List.getElem?_eq_getElem (by omega)⟩
      have := g2 0 u hu
      rw [Addr.add_lit, Addr.add_lit] at this
      exact World.block_lt_of_cell? w _ this
    · have := (key i hi).2 j v hv
      rwa [Addr.add_lit, Addr.add_lit] at this

/-- the form's own reach: a slice that is read before the call -/
theorem came_reach {H : Type} {enc : TypeId × Value → H} {P : Program} {w : World} {base : Nat} {spare : Nat → Bool} {held : Bool} {t e : TypeId} {fuel : Nat} {ao : Option Addr} {len cap : Nat} {d : DataW H} {p : List MemPlace}
    (ht : P.underlying t = some (.slice e)) (h : DataW.trod enc P w base spare held fuel t [.slice ao len cap] = some (d, p))
    {ts : List TypeId} {ds : List (DataW H)} (hs : (DataW.weightsEach P ts ds).all (· ≤ reachBytes) = true) {j : Nat} (h1 : ts[j]? = some t) (h2 : ds[j]? = some d) : len * P.bytesOf e ≤ 140737488351232 := by
  rcases open_slice ht h with ⟨hcs, _⟩ | ⟨a, len', cap', m, n, D, Pl, hcs, hb, hl, hm, hmm, hx, _⟩
  · simp only [List.cons.injEq, Value.slice.injEq, and_true] at hcs
    obtain ⟨_, rfl, _⟩ := hcs
    simp
  · simp only [List.cons.injEq, Value.slice.injEq, and_true] at hcs
    obtain ⟨rfl, rfl, rfl⟩ := hcs
    simp only [Prod.mk.injEq] at hx
    rw [hx.1] at h2
    have := sized_slice hs h1 h2 ht
    simp only [List.length_map, List.length_range] at this
    have h3 : len * P.bytesOf e ≤ (len + (m - len)) * P.bytesOf e := Nat.mul_le_mul_right _ (by omega)
    have h4 : reachBytes = 140737488351232 := rfl
    omega

/-- A slice that lies in memory, said as a list; enc x: the cells of the element x. -/
def CameL {α : Type} (w : World) (sz : Nat) (enc : α → List Value) (ao : Option Addr) (l : List α) : Prop :=
  l ≠ [] → ∃ b off, ao = some ⟨b, off, none⟩ ∧ b < w.heap.size ∧ ∀ (i : Nat) (x : α), l[i]? = some x → ∀ (j : Nat) (v : Value), (enc x)[j]? = some v → w.cell? ⟨b, off + i * sz + j, none⟩ = some v

theorem Came.list {α : Type} {w : World} {sz len : Nat} {ao : Option Addr} {f : Nat → List Value} (enc : α → List Value) (Pr : α → Prop) (h : Came w sz ao len f) (hr : ∀ i, i < len → ∃ x, f i = enc x ∧ Pr x) :
    ∃ l : List α, l.length = len ∧ CameL w sz enc ao l ∧ ∀ x ∈ l, Pr x := by
  have mk : ∀ n, n ≤ len → ∃ l : List α, l.length = n ∧ (∀ (i : Nat) (x : α), l[i]? = some x → f i = enc x) ∧ ∀ x ∈ l, Pr x := by
    intro n
    induction n with
    | zero => intro _; exact ⟨[], rfl, by simp, by simp⟩
    | succ n ih =>
      intro hn
      obtain ⟨l, h1, h2, h3⟩ := ih (by omega)
      obtain ⟨x, hx, hp⟩ := hr n (by omega)
      refine ⟨l ++ [x], by simp [h1], fun i y hy => ?_, fun y hy => ?_⟩
      · rcases Nat.lt_or_ge i n with hi | hi
        · rw [List.getElem?_append_left (by omega)] at hy
          exact h2 i y hy
        · have hlt := (List.getElem?_eq_some_iff.1 hy).1
          simp at hlt
          obtain rfl : i = n := by omega
          rw [List.getElem?_append_right (by omega), h1] at hy
          simp at hy
          rw [hx, hy]
      · rcases List.mem_append.1 hy with hy | hy
        · exact h3 y hy
        · simp at hy; rw [hy]; exact hp
  obtain ⟨l, h1, h2, h3⟩ := mk len (Nat.le_refl _)
  refine ⟨l, h1, fun hne => ?_, h3⟩
  have hpos : 0 < len := by rw [← h1]; exact List.length_pos_iff.2 hne
  obtain ⟨b, off, ha, hb, hc⟩ := h hpos
  refine ⟨b, off, ha, hb, fun i x hx j v hv => ?_⟩
  have hi : i < len := by rw [← h1]; exact (List.getElem?_eq_some_iff.1 hx).1
  exact (hc i hi).2 j v (by rw [h2 i x hx]; exact hv)

theorem CameL.below {α : Type} {w w' : World} {B sz : Nat} {enc : α → List Value} {ao : Option Addr} {l : List α} (h : CameL w sz enc ao l) (k : Below B w w') (hB : w.heap.size ≤ B) : CameL w' sz enc ao l := by
  intro hl
  obtain ⟨b, off, rfl, hb, hc⟩ := h hl
  refine ⟨b, off, rfl, Nat.lt_of_lt_of_le hb k.size, fun i x hx j v hv => ?_⟩
  rw [k.cell (by show b < B; omega)]
  exact hc i x hx j v hv

/-- the cells of an int; of a bool; of structs of these -/
def encK (k : IntKind) (x : Int) : List Value := [.int k x]
def encB (x : Bool) : List Value := [.bool x]
def encKK (k0 k1 : IntKind) (x : Int × Int) : List Value := [.int k0 x.1, .int k1 x.2]
def encKKK (k0 k1 k2 : IntKind) (x : Int × Int × Int) : List Value := [.int k0 x.1, .int k1 x.2.1, .int k2 x.2.2]
def encKKKK (k0 k1 k2 k3 : IntKind) (x : Int × Int × Int × Int) : List Value := [.int k0 x.1, .int k1 x.2.1, .int k2 x.2.2.1, .int k3 x.2.2.2]
def encKB (k0 : IntKind) (x : Int × Bool) : List Value := [.int k0 x.1, .bool x.2]
def encKS (k0 : IntKind) (x : Int × ByteArray) : List Value := [.int k0 x.1, .string x.2]
def encSK (k1 : IntKind) (x : ByteArray × Int) : List Value := [.string x.1, .int k1 x.2]

section
variable {H : Type} {enc : TypeId × Value → H} {P : Program} {w : World} {base : Nat} {spare : Nat → Bool} {held : Bool}

theorem elem_int {k : IntKind} {e : TypeId} (h1 : P.underlying e = some (.int k)) : ∀ n cs y, DataW.trod enc P w base spare held n e cs = some y → ∃ x : Int, cs = [.int k x] ∧ (Lit.int k x).wf = true := by
  intro n cs y h
  obtain ⟨x, h2, _, h3⟩ := DataW.trod_int h1 h
  exact ⟨x, h2, h3⟩

theorem elem_bool {e : TypeId} (h1 : P.underlying e = some .bool) : ∀ n cs y, DataW.trod enc P w base spare held n e cs = some y → ∃ x : Bool, cs = [.bool x] := by
  intro n cs y h
  obtain ⟨x, h2, _⟩ := DataW.trod_bool h1 h
  exact ⟨x, h2⟩

theorem two_cells {k0 k1 : Value} {cs : List Value} (hl : cs.length = 2) (h0 : (cs.drop 0).take 1 = [k0]) (h1 : (cs.drop 1).take 1 = [k1]) : cs = [k0, k1] := by
  match cs, hl with
  | [a, b], _ => simp at h0 h1; simp [h0, h1]

theorem three_cells {k0 k1 k2 : Value} {cs : List Value} (hl : cs.length = 3) (h0 : (cs.drop 0).take 1 = [k0]) (h1 : (cs.drop 1).take 1 = [k1]) (h2 : (cs.drop 2).take 1 = [k2]) : cs = [k0, k1, k2] := by
  match cs, hl with
  | [a, b, c], _ => simp at h0 h1 h2; simp [h0, h1, h2]

/-- a struct of two ints -/
theorem elem_two {e : TypeId} {f0 f1 : Field} (h1 : P.underlying e = some (.struct #[f0, f1])) (hs : P.cellsOf e = 2) (o0 : f0.offset = 0) (o1 : f1.offset = 1) (s0 : P.cellsOf f0.type = 1) (s1 : P.cellsOf f1.type = 1)
    {k0 k1 : IntKind} (u0 : P.underlying f0.type = some (.int k0)) (u1 : P.underlying f1.type = some (.int k1)) :
    ∀ n cs y, DataW.trod enc P w base spare held n e cs = some y → ∃ x : Int × Int, cs = [.int k0 x.1, .int k1 x.2] ∧ (Lit.int k0 x.1).wf = true ∧ (Lit.int k1 x.2).wf = true := by
  intro n cs y h
  obtain ⟨y0, y1, m, _, hl, g0, g1⟩ := trod_struct2 h1 h
  rw [o0, s0] at g0
  rw [o1, s1] at g1
  obtain ⟨x0, e0, _, w0⟩ := DataW.trod_int u0 g0
  obtain ⟨x1, e1, _, w1⟩ := DataW.trod_int u1 g1
  exact ⟨(x0, x1), two_cells (hl.trans hs) e0 e1, w0, w1⟩

/-- a struct of three ints -/
theorem elem_three {e : TypeId} {f0 f1 f2 : Field} (h1 : P.underlying e = some (.struct #[f0, f1, f2])) (hs : P.cellsOf e = 3) (o0 : f0.offset = 0) (o1 : f1.offset = 1) (o2 : f2.offset = 2) (s0 : P.cellsOf f0.type = 1) (s1 : P.cellsOf f1.type = 1) (s2 : P.cellsOf f2.type = 1)
    {k0 k1 k2 : IntKind} (u0 : P.underlying f0.type = some (.int k0)) (u1 : P.underlying f1.type = some (.int k1)) (u2 : P.underlying f2.type = some (.int k2)) :
    ∀ n cs y, DataW.trod enc P w base spare held n e cs = some y → ∃ x : Int × Int × Int, cs = [.int k0 x.1, .int k1 x.2.1, .int k2 x.2.2] ∧ (Lit.int k0 x.1).wf = true ∧ (Lit.int k1 x.2.1).wf = true ∧ (Lit.int k2 x.2.2).wf = true := by
  intro n cs y h
  obtain ⟨y0, y1, y2, m, _, hl, g0, g1, g2⟩ := trod_struct3 h1 h
  rw [o0, s0] at g0
  rw [o1, s1] at g1
  rw [o2, s2] at g2
  obtain ⟨x0, e0, _, w0⟩ := DataW.trod_int u0 g0
  obtain ⟨x1, e1, _, w1⟩ := DataW.trod_int u1 g1
  obtain ⟨x2, e2, _, w2⟩ := DataW.trod_int u2 g2
  exact ⟨(x0, x1, x2), three_cells (hl.trans hs) e0 e1 e2, w0, w1, w2⟩

theorem four_cells {k0 k1 k2 k3 : Value} {cs : List Value} (hl : cs.length = 4) (h0 : (cs.drop 0).take 1 = [k0]) (h1 : (cs.drop 1).take 1 = [k1]) (h2 : (cs.drop 2).take 1 = [k2]) (h3 : (cs.drop 3).take 1 = [k3]) : cs = [k0, k1, k2, k3] := by
  match cs, hl with
  | [a, b, c, d], _ => simp at h0 h1 h2 h3; simp [h0, h1, h2, h3]

/-- a struct of four ints -/
theorem elem_four {e : TypeId} {f0 f1 f2 f3 : Field} (h1 : P.underlying e = some (.struct #[f0, f1, f2, f3])) (hs : P.cellsOf e = 4) (o0 : f0.offset = 0) (o1 : f1.offset = 1) (o2 : f2.offset = 2) (o3 : f3.offset = 3) (s0 : P.cellsOf f0.type = 1) (s1 : P.cellsOf f1.type = 1) (s2 : P.cellsOf f2.type = 1) (s3 : P.cellsOf f3.type = 1)
    {k0 k1 k2 k3 : IntKind} (u0 : P.underlying f0.type = some (.int k0)) (u1 : P.underlying f1.type = some (.int k1)) (u2 : P.underlying f2.type = some (.int k2)) (u3 : P.underlying f3.type = some (.int k3)) :
    ∀ n cs y, DataW.trod enc P w base spare held n e cs = some y → ∃ x : Int × Int × Int × Int, cs = [.int k0 x.1, .int k1 x.2.1, .int k2 x.2.2.1, .int k3 x.2.2.2] ∧ (Lit.int k0 x.1).wf = true ∧ (Lit.int k1 x.2.1).wf = true ∧ (Lit.int k2 x.2.2.1).wf = true ∧ (Lit.int k3 x.2.2.2).wf = true := by
  intro n cs y h
  obtain ⟨y0, y1, y2, y3, m, _, hl, g0, g1, g2, g3⟩ := Joins.trod_struct4 h1 h
  rw [o0, s0] at g0
  rw [o1, s1] at g1
  rw [o2, s2] at g2
  rw [o3, s3] at g3
  obtain ⟨x0, e0, _, w0⟩ := DataW.trod_int u0 g0
  obtain ⟨x1, e1, _, w1⟩ := DataW.trod_int u1 g1
  obtain ⟨x2, e2, _, w2⟩ := DataW.trod_int u2 g2
  obtain ⟨x3, e3, _, w3⟩ := DataW.trod_int u3 g3
  exact ⟨(x0, x1, x2, x3), four_cells (hl.trans hs) e0 e1 e2 e3, w0, w1, w2, w3⟩

/-- a struct of an int and a bool -/
theorem elem_int_bool {e : TypeId} {f0 f1 : Field} (h1 : P.underlying e = some (.struct #[f0, f1])) (hs : P.cellsOf e = 2) (o0 : f0.offset = 0) (o1 : f1.offset = 1) (s0 : P.cellsOf f0.type = 1) (s1 : P.cellsOf f1.type = 1)
    {k0 : IntKind} (u0 : P.underlying f0.type = some (.int k0)) (u1 : P.underlying f1.type = some .bool) :
    ∀ n cs y, DataW.trod enc P w base spare held n e cs = some y → ∃ x : Int × Bool, cs = [.int k0 x.1, .bool x.2] ∧ (Lit.int k0 x.1).wf = true := by
  intro n cs y h
  obtain ⟨y0, y1, m, _, hl, g0, g1⟩ := trod_struct2 h1 h
  rw [o0, s0] at g0
  rw [o1, s1] at g1
  obtain ⟨x0, e0, _, w0⟩ := DataW.trod_int u0 g0
  obtain ⟨x1, e1, _⟩ := DataW.trod_bool u1 g1
  exact ⟨(x0, x1), two_cells (hl.trans hs) e0 e1, w0⟩

/-- a struct of an int and a string -/
theorem elem_int_string {e : TypeId} {f0 f1 : Field} (h1 : P.underlying e = some (.struct #[f0, f1])) (hs : P.cellsOf e = 2) (o0 : f0.offset = 0) (o1 : f1.offset = 1) (s0 : P.cellsOf f0.type = 1) (s1 : P.cellsOf f1.type = 1)
    {k0 : IntKind} (u0 : P.underlying f0.type = some (.int k0)) (u1 : P.underlying f1.type = some .string) :
    ∀ n cs y, DataW.trod enc P w base spare held n e cs = some y → ∃ x : Int × ByteArray, cs = [.int k0 x.1, .string x.2] ∧ (Lit.int k0 x.1).wf = true ∧ x.2.size ≤ maxLen := by
  intro n cs y h
  obtain ⟨y0, y1, m, _, hl, g0, g1⟩ := trod_struct2 h1 h
  rw [o0, s0] at g0
  rw [o1, s1] at g1
  obtain ⟨x0, e0, _, w0⟩ := DataW.trod_int u0 g0
  obtain ⟨x1, e1, _, w1⟩ := DataW.trod_string u1 g1
  exact ⟨(x0, x1), two_cells (hl.trans hs) e0 e1, w0, w1⟩
/-- a struct of a string and an int -/
theorem elem_string_int {e : TypeId} {f0 f1 : Field} (h1 : P.underlying e = some (.struct #[f0, f1])) (hs : P.cellsOf e = 2) (o0 : f0.offset = 0) (o1 : f1.offset = 1) (s0 : P.cellsOf f0.type = 1) (s1 : P.cellsOf f1.type = 1)
    {k1 : IntKind} (u0 : P.underlying f0.type = some .string) (u1 : P.underlying f1.type = some (.int k1)) :
    ∀ n cs y, DataW.trod enc P w base spare held n e cs = some y → ∃ x : ByteArray × Int, cs = [.string x.1, .int k1 x.2] ∧ x.1.size ≤ maxLen ∧ (Lit.int k1 x.2).wf = true := by
  intro n cs y h
  obtain ⟨y0, y1, m, _, hl, g0, g1⟩ := trod_struct2 h1 h
  rw [o0, s0] at g0
  rw [o1, s1] at g1
  obtain ⟨x0, e0, _, w0⟩ := DataW.trod_string u0 g0
  obtain ⟨x1, e1, _, w1⟩ := DataW.trod_int u1 g1
  exact ⟨(x0, x1), two_cells (hl.trans hs) e0 e1, w0, w1⟩
end


theorem u8_nat {a : Int} (h : (Lit.int .u8 a).wf = true) : ∃ n : Nat, a = n ∧ n ≤ 255 := by
  have hx : 0 ≤ a ∧ a ≤ 255 := by simpa [Lit.wf, IntKind.min, IntKind.max, IntKind.signed, IntKind.bits] using h
  exact ⟨a.toNat, by omega, by omega⟩

/-- two sets of blocks that share none -/
def Dis (F G : Nat → Prop) : Prop := ∀ i, F i → ¬ G i
theorem Dis.symm {F G : Nat → Prop} (h : Dis F G) : Dis G F := fun i hg hf => h i hf hg
theorem Dis.upd {F F' G : Nat → Prop} {n : Nat} (h : Dis F G) (hf : ∀ i, F' i → F i ∨ n ≤ i) (hlt : ∀ i, G i → i < n) : Dis F' G := fun i hi hg => by
  rcases hf i hi with h1 | h1
  · exact h i h1 hg
  · have := hlt i hg; omega

end Go.Fr
