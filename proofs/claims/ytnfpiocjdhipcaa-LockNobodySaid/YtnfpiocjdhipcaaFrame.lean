/- What a call leaves as it was: blocks of memory outside a set; a block known whole; a row of cells that a slice owns. Laws on them for the walks. No program is in sight here. -/
import Derived.WalkKit
import Derived.WalkSpells
import Derived.WalkLawsBesides
import Derived.Handy
import Derived.BigQuiet
import Derived.Deep.QuietTactic
import Derived.Deep.RegionLaw
import Derived.Deep.RegionLawGrows
import Derived.Deep.RegionWith
import Derived.Lib.Hide
import Derived.Deep.RegionHeld3
import Derived.Deep.DrawnRows
import Derived.Deep.DeepCutAuto
namespace Go.Fr
open Go.RowKit

/-- Blocks outside S that were there are as they were. -/
structure Kept (S : Nat → Prop) (w w' : World) : Prop where
  os : w'.os = w.os
  tape : w'.tape = w.tape
  output : w'.output = w.output
  size : w.heap.size ≤ w'.heap.size
  block : ∀ k, k < w.heap.size → ¬ S k → w'.heap[k]? = w.heap[k]?

theorem Kept.refl (S : Nat → Prop) (w : World) : Kept S w w := ⟨rfl, rfl, rfl, Nat.le_refl _, fun _ _ _ => rfl⟩

/-- Two steps; what the second may write is of the first's set, or new since. -/
theorem Kept.then {S S' : Nat → Prop} {a b c : World} (h : Kept S a b) (k : Kept S' b c) (hs : ∀ i, S' i → S i ∨ a.heap.size ≤ i) : Kept S a c :=
  ⟨k.os.trans h.os, k.tape.trans h.tape, k.output.trans h.output, Nat.le_trans h.size k.size,
   fun i hi hn => (k.block i (Nat.lt_of_lt_of_le hi h.size) (fun hi' => by rcases hs i hi' with h1 | h1; exact hn h1; omega)).trans (h.block i hi hn)⟩

theorem Kept.mono {S S' : Nat → Prop} {w w' : World} (h : Kept S w w') (hs : ∀ i, i < w.heap.size → S i → S' i) : Kept S' w w' :=
  ⟨h.os, h.tape, h.output, h.size, fun k hk hn => h.block k hk (fun hi => hn (hs k hk hi))⟩

theorem Kept.drew {S : Nat → Prop} {a w : World} (h : Kept S a w) : Kept S a w.drew := ⟨h.os, h.tape, h.output, h.size, h.block⟩
theorem Kept.drewN {S : Nat → Prop} {a w : World} (h : Kept S a w) (n : Nat) : Kept S a (w.drewN n) := ⟨h.os, h.tape, h.output, h.size, h.block⟩
theorem Kept.alloc {S : Nat → Prop} {a w : World} (h : Kept S a w) (o : Obj) : Kept S a (w.alloc o) :=
  ⟨h.os, h.tape, h.output, by have := h.size; simp; omega, fun k hk hn => by rw [Below.heap_alloc _ _ _ (Nat.lt_of_lt_of_le hk h.size)]; exact h.block k hk hn⟩
theorem Kept.setCell {S : Nat → Prop} {a w : World} (h : Kept S a w) {p : Addr} (hp : S p.block ∨ a.heap.size ≤ p.block) (u : Value) : Kept S a (w.setCell p u) :=
  ⟨h.os, h.tape, h.output, by have := h.size; simp [World.setCell]; omega, fun k hk hn => by
    rw [Below.heap_setCell _ _ _ _ (by rintro rfl; rcases hp with hp | hp; exact hn hp; omega)]; exact h.block k hk hn⟩
theorem Kept.set {S : Nat → Prop} {a w : World} (h : Kept S a w) {b : Nat} (o : Nat) (hp : S b ∨ a.heap.size ≤ b) (u : Value) : Kept S a (w.setCell ⟨b, o, none⟩ u) := h.setCell (p := ⟨b, o, none⟩) hp u
theorem Kept.grown {S : Nat → Prop} {a w w' : World} {row : Option Nat} (h : Kept S a w) (hg : w.grownBy w' row) (hr : ∀ k, row = some k → S k ∨ a.heap.size ≤ k) : Kept S a w' :=
  ⟨hg.os.trans h.os, hg.tape.trans h.tape, hg.output.trans h.output, Nat.le_trans h.size hg.size,
   fun k hk hn => (hg.block k (Nat.lt_of_lt_of_le hk h.size) (fun e => by rcases hr k e.symm with h1 | h1; exact hn h1; omega)).trans (h.block k hk hn)⟩
/-- draws turn nothing that is looked at here -/
theorem Kept.same {S : Nat → Prop} {a w w' : World} (h : Kept S a w) (e1 : w'.heap = w.heap) (e2 : w'.os = w.os) (e3 : w'.tape = w.tape) (e4 : w'.output = w.output) : Kept S a w' :=
  ⟨e2.trans h.os, e3.trans h.tape, e4.trans h.output, by rw [e1]; exact h.size, fun k hk hn => by rw [e1]; exact h.block k hk hn⟩
theorem Kept.undrew {S : Nat → Prop} {w w' : World} {n : Nat} (h : Kept S (w.drewN n) w') : Kept S w w' := ⟨h.os, h.tape, h.output, h.size, h.block⟩
theorem Kept.cell {S : Nat → Prop} {w w' : World} (h : Kept S w w') {p : Addr} (hp : p.block < w.heap.size) (hn : ¬ S p.block) : w'.cell? p = w.cell? p := World.cell?_of_block (h.block _ hp hn)
theorem Kept.frozen {S : Nat → Prop} {w w' : World} (h : Kept S w w') {p : Addr} (hp : p.block < w.heap.size) (hn : ¬ S p.block) : w'.frozen? p = w.frozen? p := World.frozen?_of_block (h.block _ hp hn)
theorem Kept.below {S : Nat → Prop} {B : Nat} {w w' : World} (h : Kept S w w') (hB : B ≤ w.heap.size) (hs : ∀ k, S k → B ≤ k) : Below B w w' :=
  ⟨h.os, h.tape, h.output, h.size, fun k hk => h.block k (Nat.lt_of_lt_of_le hk hB) (fun hi => by have := hs k hi; omega)⟩
theorem Kept.belowTrans {S : Nat → Prop} {B : Nat} {a w w' : World} (hb : Below B a w) (h : Kept S w w') (hB : B ≤ w.heap.size) (hs : ∀ k, S k → B ≤ k) : Below B a w' := hb.trans (h.below hB hs)

theorem toList_inj {a b : ByteArray} (h : a.toList = b.toList) : a = b := by
  rw [ByteArray.toList_eq, ByteArray.toList_eq] at h
  obtain ⟨⟨a⟩⟩ := a
  obtain ⟨⟨b⟩⟩ := b
  simp at h
  rw [h]

/-- a slice's length, for a measure -/
def slen : Value → Nat | .slice _ k _ => k | _ => 0

/-- Go's max of two ints -/
def mxi (h n : Int) : Int := if h < n then n else h

/-- A block known whole. -/
def Blk (w : World) (b : Nat) (cs : List Value) (t : TypeId) : Prop := w.heap[b]? = some (.cells cs.toArray t (0, 0))

section
variable {w w' : World} {b : Nat} {cs : List Value} {t : TypeId}
theorem Blk.lt (h : Blk w b cs t) : b < w.heap.size := (Array.getElem?_eq_some_iff.1 h).1
theorem Blk.cell (h : Blk w b cs t) (i : Nat) {v : Value} (hv : cs[i]? = some v) : w.cell? ⟨b, i, none⟩ = some v := by
  unfold Blk at h; simp [World.cell?, h, hv]
theorem Blk.frozen (h : Blk w b cs t) (i : Nat) : w.frozen? ⟨b, i, none⟩ = false := by
  unfold Blk at h; simp [World.frozen?, h]
theorem Blk.set (h : Blk w b cs t) (i : Nat) (v : Value) : Blk (w.setCell ⟨b, i, none⟩ v) b (cs.set i v) t := by
  unfold Blk at h ⊢
  simp [World.setCell, Array.getElem?_modify, h]
theorem Blk.other (h : Blk w b cs t) {p : Addr} (hp : p.block ≠ b) (v : Value) : Blk (w.setCell p v) b cs t := by
  unfold Blk at h ⊢; rw [Below.heap_setCell _ _ _ _ (Ne.symm hp)]; exact h
theorem Blk.alloc (h : Blk w b cs t) (o : Obj) : Blk (w.alloc o) b cs t := by
  unfold Blk at h ⊢; rw [Below.heap_alloc _ _ _ (Array.getElem?_eq_some_iff.1 h).1]; exact h
theorem Blk.drew (h : Blk w b cs t) : Blk w.drew b cs t := h
theorem Blk.drewN (h : Blk w b cs t) (n : Nat) : Blk (w.drewN n) b cs t := h
theorem Blk.new (w : World) (cs : List Value) (t : TypeId) : Blk (w.alloc (.cells cs.toArray t)) w.heap.size cs t := heap_alloc_new w _
theorem Blk.kept {S : Nat → Prop} (h : Blk w b cs t) (k : Kept S w w') (hn : ¬ S b) : Blk w' b cs t := by
  unfold Blk at h ⊢; rw [k.block b (Array.getElem?_eq_some_iff.1 h).1 hn]; exact h
theorem Blk.grown {row : Option Nat} (h : Blk w b cs t) (k : w.grownBy w' row) (hn : some b ≠ row) : Blk w' b cs t := by
  unfold Blk at h ⊢; rw [k.block b (Array.getElem?_eq_some_iff.1 h).1 hn]; exact h
theorem Blk.heap (h : Blk w b cs t) (e : w'.heap[b]? = w.heap[b]?) : Blk w' b cs t := e.trans h
end

/-- the same behind an append, where the world ahead of it has drawn -/
theorem blk_after {w0 w w' : World} {row : Option Nat} (k : w.grownBy w' row) {b : Nat} {cs : List Value} {t : TypeId} (h : Blk w0 b cs t) (e : w.heap[b]? = w0.heap[b]?) (hn : row ≠ some b) : Blk w' b cs t :=
  (h.heap e).grown k (fun x => hn x.symm)

/-- A row of n elements of sz cells each that the slice value v owns. -/
abbrev Row (w : World) (e : TypeId) (sz : Nat) (v : Value) (n : Nat) (xs : List Value) : Prop := w.ownsRow 0 e sz v n xs

section
variable {w w' : World} {e : TypeId} {sz : Nat} {v : Value} {n : Nat} {xs : List Value}
theorem row_lt (h : Row w e sz v n xs) {k : Nat} (hk : v.ownBlock = some k) : k < w.heap.size := (h.lt k hk).2
theorem row_kept {S : Nat → Prop} (h : Row w e sz v n xs) (k : Kept S w w') (hn : ∀ g, v.ownBlock = some g → ¬ S g) : Row w' e sz v n xs := by
  refine ⟨h.1, ?_⟩
  rcases h.2 with h2 | ⟨g, cap, cur, hv, hg, hh, r⟩
  · exact Or.inl h2
  · refine Or.inr ⟨g, cap, cur, hv, hg, ?_, r⟩
    rw [k.block g (Array.getElem?_eq_some_iff.1 hh).1 (hn g (by rw [hv]; rfl))]; exact hh
theorem row_heap (h : Row w e sz v n xs) (k : ∀ g, v.ownBlock = some g → w'.heap[g]? = w.heap[g]?) : Row w' e sz v n xs := by
  refine ⟨h.1, ?_⟩
  rcases h.2 with h2 | ⟨g, cap, cur, hv, hg, hh, r⟩
  · exact Or.inl h2
  · exact Or.inr ⟨g, cap, cur, hv, hg, by rw [k g (by rw [hv]; rfl)]; exact hh, r⟩
theorem row_to {n' : Nat} {xs' : List Value} (h : Row w e sz v n xs) (hn : n = n') (hx : xs = xs') (k : ∀ g, v.ownBlock = some g → w'.heap[g]? = w.heap[g]?) : Row w' e sz v n' xs' := by
  subst hn; subst hx; exact row_heap h k
theorem row_drewN (h : Row w e sz v n xs) (k : Nat) : Row (w.drewN k) e sz v n xs := h
theorem row_form (h : Row w e sz v (n + 1) xs) : ∃ g cap, v = .slice (some ⟨g, 0, none⟩) (n + 1) cap ∧ n + 1 ≤ cap ∧ cap ≤ maxLen ∧ g < w.heap.size := by
  rcases h.2 with ⟨_, h2⟩ | ⟨g, cap, cur, hv, _, hh, hc, hm, _⟩
  · omega
  · exact ⟨g, cap, hv, hc, hm, (Array.getElem?_eq_some_iff.1 hh).1⟩
theorem row_forms (h : Row w e sz v n xs) : (v = .slice none 0 0 ∧ n = 0) ∨ ∃ g cap, v = .slice (some ⟨g, 0, none⟩) n cap ∧ n ≤ cap ∧ cap ≤ maxLen ∧ g < w.heap.size := by
  rcases h.2 with h2 | ⟨g, cap, cur, hv, _, hh, hc, hm, _⟩
  · exact Or.inl h2
  · exact Or.inr ⟨g, cap, hv, hc, hm, (Array.getElem?_eq_some_iff.1 hh).1⟩
theorem row_any (h : Row w e sz v n xs) : ∃ ao c, v = .slice ao n c ∧ n ≤ c := by
  rcases row_forms h with ⟨rfl, rfl⟩ | ⟨g, c, rfl, hc, _⟩
  · exact ⟨_, _, rfl, Nat.le_refl _⟩
  · exact ⟨_, _, rfl, hc⟩
theorem row_cap {ao : Option Addr} {c : Nat} (h : Row w e sz (.slice ao n c) n xs) : n ≤ c := by
  rcases row_forms h with ⟨hv, rfl⟩ | ⟨g, c', hv, hc, _⟩
  · exact Nat.zero_le _
  · cases hv; exact hc
/-- the last elements are let go, nil or not -/
theorem row_cut' {ao : Option Addr} {c : Nat} (h : Row w e sz (.slice ao n c) n xs) (k : Nat) (hk : k ≤ n) : Row w e sz (.slice ao k c) k (xs.take (k * sz)) := by
  have hl := h.1
  have hkn : k * sz ≤ n * sz := Nat.mul_le_mul_right _ hk
  rcases h.2 with ⟨hv, rfl⟩ | ⟨g, cap, cur, hv, hb, hh, hc, hm, hs, ht⟩
  · obtain rfl : k = 0 := by omega
    cases hv
    exact ⟨by simp, Or.inl ⟨rfl, rfl⟩⟩
  · cases hv
    refine ⟨by simp; omega, Or.inr ⟨g, c, cur, rfl, Nat.zero_le _, hh, by omega, hm, hs, ?_⟩⟩
    rw [← ht, List.take_take, Nat.min_eq_left hkn]
theorem row_cell {g c : Nat} (h : Row w e sz (.slice (some ⟨g, 0, none⟩) n c) n xs) (j : Nat) {u : Value} (hu : xs[j]? = some u) : w.cell? ⟨g, j, none⟩ = some u := by
  have := h.cells (g := g) rfl j u hu
  rwa [Addr.add_lit, Nat.zero_add] at this
theorem row_frozen {g c : Nat} (h : Row w e sz (.slice (some ⟨g, 0, none⟩) n c) n xs) (j : Nat) : w.frozen? ⟨g, j, none⟩ = false := by
  rcases h.2 with ⟨h2, _⟩ | ⟨g', cap, cur, hv, _, hh, _⟩
  · cases h2
  · simp only [Value.slice.injEq, Option.some.injEq, Addr.mk.injEq, and_true] at hv
    obtain ⟨rfl, _⟩ := hv
    simp [World.frozen?, hh]
theorem row_setCell_other (h : Row w e sz v n xs) {a : Addr} (ha : v.ownBlock ≠ some a.block) (u : Value) : Row (w.setCell a u) e sz v n xs := ownsRow_setCell_other h ha u
theorem row_alloc (h : Row w e sz v n xs) (o : Obj) : Row (w.alloc o) e sz v n xs := h.alloc o
/-- one cell of the row is written -/
theorem row_set {g c : Nat} (h : Row w e sz (.slice (some ⟨g, 0, none⟩) n c) n xs) (j : Nat) (u : Value) :
    Row (w.setCell ⟨g, j, none⟩ u) e sz (.slice (some ⟨g, 0, none⟩) n c) n (xs.set j u) := by
  have hl := h.1
  rcases h.2 with ⟨h2, _⟩ | ⟨g', cap, cur, hv, hb, hh, hc, hm, hs, ht⟩
  · cases h2
  · simp only [Value.slice.injEq, Option.some.injEq, Addr.mk.injEq, and_true] at hv
    obtain ⟨rfl, _, rfl⟩ := hv
    refine ⟨by simp [hl], Or.inr ⟨g, c, cur.setIfInBounds j u, rfl, Nat.zero_le _, ?_, hc, hm, by simpa using hs, ?_⟩⟩
    · simp [World.setCell, Array.getElem?_modify, hh]
    · rw [Array.toList_setIfInBounds, ← ht, List.take_set]
/-- the last elements are let go -/
theorem row_cut {g c : Nat} (h : Row w e sz (.slice (some ⟨g, 0, none⟩) n c) n xs) (k : Nat) (hk : k ≤ n) :
    Row w e sz (.slice (some ⟨g, 0, none⟩) k c) k (xs.take (k * sz)) := by
  have hl := h.1
  have hkn : k * sz ≤ n * sz := Nat.mul_le_mul_right _ hk
  rcases h.2 with ⟨h2, _⟩ | ⟨g', cap, cur, hv, hb, hh, hc, hm, hs, ht⟩
  · cases h2
  · simp only [Value.slice.injEq, Option.some.injEq, Addr.mk.injEq, and_true] at hv
    obtain ⟨rfl, _, rfl⟩ := hv
    refine ⟨by simp; omega, Or.inr ⟨g, c, cur, rfl, Nat.zero_le _, hh, by omega, hm, hs, ?_⟩⟩
    rw [← ht, List.take_take, Nat.min_eq_left hkn]
end

theorem new_cells (w : World) (cs : List Value) (t : TypeId) {g : Nat} (hg : g = w.heap.size) : ∀ (j : Nat) (v : Value), cs[j]? = some v → (w.alloc (.cells cs.toArray t)).cell? ((⟨g, 0, none⟩ : Addr).add j) = some v := by
  intro j v hv
  subst hg
  rw [Addr.add_lit, Nat.zero_add]
  exact (Blk.new w cs t).cell j hv
theorem grown_cell {w w' : World} {row : Option Nat} {b o : Nat} {v : Value} (hg : w.grownBy w' row) (h : w.cell? ⟨b, o, none⟩ = some v) (hne : row ≠ some b) : w'.cell? ⟨b, o, none⟩ = some v :=
  hg.cell h (fun e => hne e.symm)
theorem grown_frozen {w w' : World} {row : Option Nat} {b o : Nat} {v : Value} (hg : w.grownBy w' row) (h : w.frozen? ⟨b, o, none⟩ = false) (hc : w.cell? ⟨b, o, none⟩ = some v) (hne : row ≠ some b) : w'.frozen? ⟨b, o, none⟩ = false :=
  (World.frozen?_of_block (hg.block b (World.block_lt_of_cell? w _ hc) (fun e => hne e.symm))).trans h

/-- a cell that is there is no new one's -/
theorem fz_alloc {w : World} {a : Addr} (o : Obj) (h : (w.cell? a).isSome = true) : (w.alloc o).frozen? a = w.frozen? a := by
  obtain ⟨v, hv⟩ := Option.isSome_iff_exists.1 h
  exact World.frozen?_alloc_old _ _ _ (Nat.ne_of_lt (World.block_lt_of_cell? w a hv))

/-- APPEND ONTO AN OWNED ROW: in place, or in a new block. -/
theorem run_append_row {P : Program} (w : World) (t ty e : TypeId) (i : TypeInfo) (z : Value) (size bytes : Nat) (h1 : P.underlying t = some (.slice e)) (h2 : P.info? e = some i) (h3 : i.zero = some z) (h4 : i.size = size) (h5 : i.bytes = bytes) (h6 : z.cells.size = size) (h7 : 0 < size)
    (v : Value) (n : Nat) (xs : List Value) (hown : Row w e size v n xs)
    (ad : Addr) (m c : Nat) (news : List Value) (hn : news.length = m * size) (hc : ∀ j u, news[j]? = some u → w.cell? (ad.add j) = some u) (h1c : ∀ u ∈ news, u.oneCell' = true)
    (h0 : 0 < m) (b1 : n + m ≤ maxLen) (b2 : (n + m) * bytes ≤ 140737488355328) :
    ∃ g cap w', (Builtin.append_ #[t, t] ty #[v, .slice (some ad) m c]).run P w = .ok (.slice (some ⟨g, 0, none⟩) (n + m) cap) w' ∧
      Row w' e size (.slice (some ⟨g, 0, none⟩) (n + m) cap) (n + m) (xs ++ news) ∧ w.grownBy w' v.ownBlock ∧ (v.ownBlock = some g ∨ w.heap.size ≤ g) ∧ n + m ≤ cap ∧ cap ≤ maxLen ∧ g < w'.heap.size := by
  have fresh : ∀ v' w', w'.ownsRow w.heap.size e size v' (n + m) (xs ++ news) → ∃ g cap, v' = .slice (some ⟨g, 0, none⟩) (n + m) cap ∧ w.heap.size ≤ g ∧ n + m ≤ cap ∧ cap ≤ maxLen ∧ g < w'.heap.size ∧ Row w' e size v' (n + m) (xs ++ news) := by
    rintro v' w' ⟨hl, h | ⟨g, cap, cur, rfl, hg, hh, hc, hm, hr⟩⟩
    · omega
    · exact ⟨g, cap, rfl, hg, hc, hm, (Array.getElem?_eq_some_iff.1 hh).1, hl, Or.inr ⟨g, cap, cur, rfl, Nat.zero_le _, hh, hc, hm, hr⟩⟩
  rcases row_forms hown with ⟨rfl, rfl⟩ | ⟨g, cap, rfl, hcap, hmax, hlt⟩
  · obtain rfl : xs = [] := List.eq_nil_of_length_eq_zero (by simpa using hown.1)
    obtain ⟨v', w', hrun, r1, r2, _⟩ := run_append_own (P := P) w w.heap.size t ty e i z size bytes h1 h2 h3 h4 h5 h6 h7 (.slice none 0 0) 0 [] (World.ownsRow_nil w _ e size) ad m c news hn hc h1c b1 b2 (Nat.le_refl _)
    obtain ⟨g, cap, rfl, hg, k1, k2, k3, hrow⟩ := fresh v' w' r1
    exact ⟨g, cap, w', hrun, hrow, r2, Or.inr hg, k1, k2, k3⟩
  · by_cases hroom : n + m ≤ cap
    · obtain ⟨w', hrun, r1, r2⟩ := run_append_fits (P := P) w 0 t ty e i size h1 h2 h4 g n cap xs hown ad m c news hn hc h1c hroom
      exact ⟨g, cap, w', hrun, r1, r2, Or.inl rfl, hroom, hmax, Nat.lt_of_lt_of_le hlt r2.size⟩
    · have holds : ∀ j u, xs[j]? = some u → w.cell? ((⟨g, 0, none⟩ : Addr).add j) = some u := hown.cells (g := g) rfl
      obtain ⟨v', w', hrun, r1, r2⟩ := run_append_arg_grows (P := P) w t ty e i z size bytes h1 h2 h3 h4 h5 h6 h7 ⟨g, 0, none⟩ n cap xs hown.1 holds ad m c news hn hc (by omega) b1 b2
      obtain ⟨g', cap', rfl, hg', k1, k2, k3, hrow⟩ := fresh v' w' r1
      exact ⟨g', cap', w', hrun, hrow, ⟨r2.os, r2.tape, r2.output, r2.size, fun k hk _ => r2.block k hk (by simp)⟩, Or.inr hg', k1, k2, k3⟩

theorem step_append_row {P : Program} {ops : Array Oper} {o : Oper} {a : Act} {w : World} {K : Act → World → Prop} {Q : Exit → Act → World → Prop} {E : Prop}
    (hg : o.guard = none) (s x : Operand) (t : TypeId) (hop : o.op = Op.call { callee := Callee.builtin Builtin.append, args := #[s, x], argTypes := #[t, t] })
    (e : TypeId) (i : TypeInfo) (z : Value) (size bytes : Nat) (h1 : P.underlying t = some (.slice e)) (h2 : P.info? e = some i) (h3 : i.zero = some z) (h4 : i.size = size) (h5 : i.bytes = bytes) (h6 : z.cells.size = size) (h7 : 0 < size)
    (v : Value) (n : Nat) (xs : List Value) (hs : a.eval s = v) (hown : Row w e size v n xs)
    (ad : Addr) (m c : Nat) (news : List Value) (hx : a.eval x = .slice (some ad) m c) (hn : news.length = m * size) (hc : ∀ j u, news[j]? = some u → w.cell? (ad.add j) = some u) (h1c : ∀ u ∈ news, u.oneCell' = true)
    (h0 : 0 < m) (b1 : n + m ≤ maxLen) (b2 : (n + m) * bytes ≤ 140737488355328)
    (hK : ∀ g cap w', Row w' e size (.slice (some ⟨g, 0, none⟩) (n + m) cap) (n + m) (xs ++ news) → w.grownBy w' v.ownBlock → (v.ownBlock = some g ∨ w.heap.size ≤ g) → n + m ≤ cap → cap ≤ maxLen → g < w'.heap.size → K (a.put o.dst (.slice (some ⟨g, 0, none⟩) (n + m) cap)) w') :
    if Region.wanted o (yielded ops a.tmps) = true then Oper.wp P o a w K Q else E := by
  have hw : Region.wanted o (yielded ops a.tmps) = true := by simp [Region.wanted, hg]
  rw [if_pos hw]
  obtain ⟨g, cap, w', hrun, r1, r2, r3, r4, r5, r6⟩ := run_append_row (P := P) w t o.type e i z size bytes h1 h2 h3 h4 h5 h6 h7 v n xs hown ad m c news hn hc h1c h0 b1 b2
  unfold Oper.wp
  simp [execOp, hop, resolve, invoke, builtin, hs, hx, hrun, Result.andThen]
  exact hK g cap w' r1 r2 r3 r4 r5 r6

theorem wpList_append_row {P : Program} {ops : Array Oper} {rest : List Oper} {o : Oper} {a : Act} {w : World} {Q : Exit → Act → World → Prop}
    (hg : o.guard = none) (s x : Operand) (t : TypeId) (hop : o.op = Op.call { callee := Callee.builtin Builtin.append, args := #[s, x], argTypes := #[t, t] })
    (e : TypeId) (i : TypeInfo) (z : Value) (size bytes : Nat) (h1 : P.underlying t = some (.slice e)) (h2 : P.info? e = some i) (h3 : i.zero = some z) (h4 : i.size = size) (h5 : i.bytes = bytes) (h6 : z.cells.size = size) (h7 : 0 < size)
    (v : Value) (n : Nat) (xs : List Value) (hs : a.eval s = v) (hown : Row w e size v n xs)
    (ad : Addr) (m c : Nat) (news : List Value) (hx : a.eval x = .slice (some ad) m c) (hn : news.length = m * size) (hc : ∀ j u, news[j]? = some u → w.cell? (ad.add j) = some u) (h1c : ∀ u ∈ news, u.oneCell' = true)
    (h0 : 0 < m) (b1 : n + m ≤ maxLen) (b2 : (n + m) * bytes ≤ 140737488355328)
    (hK : ∀ g cap w', Row w' e size (.slice (some ⟨g, 0, none⟩) (n + m) cap) (n + m) (xs ++ news) → w.grownBy w' v.ownBlock → (v.ownBlock = some g ∨ w.heap.size ≤ g) → n + m ≤ cap → cap ≤ maxLen → g < w'.heap.size → wpList P ops Q rest (a.put o.dst (.slice (some ⟨g, 0, none⟩) (n + m) cap)) w') :
    wpList P ops Q (o :: rest) a w := by
  refine wpList_plain hg fun K hK' => ?_
  obtain ⟨g, cap, w', hrun, r1, r2, r3, r4, r5, r6⟩ := run_append_row (P := P) w t o.type e i z size bytes h1 h2 h3 h4 h5 h6 h7 v n xs hown ad m c news hn hc h1c h0 b1 b2
  unfold Oper.wp
  simp [execOp, hop, resolve, invoke, builtin, hs, hx, hrun, Result.andThen]
  exact hK' _ _ (hK g cap w' r1 r2 r3 r4 r5 r6)

/-- the cells that a slice value shows (whatever block it lies in) -/
def Shows (w : World) (sz : Nat) (ao : Option Addr) (m : Nat) (news : List Value) : Prop :=
  news.length = m * sz ∧ (ao = none → m = 0) ∧ ∀ ad, ao = some ad → ∀ (j : Nat) (u : Value), news[j]? = some u → w.cell? (ad.add j) = some u

theorem Row.shows {w : World} {e : TypeId} {sz n c : Nat} {ao : Option Addr} {xs : List Value} (h : Row w e sz (.slice ao n c) n xs) : Shows w sz ao n xs := by
  refine ⟨h.1, ?_, ?_⟩
  · intro ha
    rcases h.2 with ⟨h2, h3⟩ | ⟨g, cap, cur, hv, _⟩
    · exact h3
    · cases ha; cases hv
  · intro ad ha j u hu
    subst ha
    rcases h.2 with ⟨h2, h3⟩ | ⟨g, cap, cur, hv, _⟩
    · cases h2
    · cases hv
      exact h.cells (g := g) rfl j u hu

theorem block_add (ad : Addr) (j : Nat) : (ad.add j).block = ad.block := by unfold Addr.add; split <;> rfl

theorem Shows.heap {w w' : World} {sz m : Nat} {ao : Option Addr} {news : List Value} (h : Shows w sz ao m news) (e : ∀ ad, ao = some ad → w'.heap[ad.block]? = w.heap[ad.block]?) : Shows w' sz ao m news := by
  refine ⟨h.1, h.2.1, fun ad ha j u hu => ?_⟩
  have hb : w'.heap[(ad.add j).block]? = w.heap[(ad.add j).block]? := by rw [block_add]; exact e ad ha
  exact (World.cell?_of_block hb).trans (h.2.2 ad ha j u hu)

/-- APPEND, WHATEVER IS APPENDED: onto an owned row, out of whatever slice. -/
theorem run_append_any {P : Program} (w : World) (t ty e : TypeId) (i : TypeInfo) (z : Value) (size bytes : Nat) (h1 : P.underlying t = some (.slice e)) (h2 : P.info? e = some i) (h3 : i.zero = some z) (h4 : i.size = size) (h5 : i.bytes = bytes) (h6 : z.cells.size = size) (h7 : 0 < size)
    (ao : Option Addr) (n c : Nat) (xs : List Value) (hown : Row w e size (.slice ao n c) n xs)
    (so : Option Addr) (m sc : Nat) (news : List Value) (hsrc : Shows w size so m news) (h1c : ∀ u ∈ news, u.oneCell' = true)
    (b1 : n + m ≤ maxLen) (b2 : (n + m) * bytes ≤ 140737488355328) :
    ∃ ao' c' w', (Builtin.append_ #[t, t] ty #[.slice ao n c, .slice so m sc]).run P w = .ok (.slice ao' (n + m) c') w' ∧
      Row w' e size (.slice ao' (n + m) c') (n + m) (xs ++ news) ∧ w.grownBy w' (Value.slice ao n c).ownBlock ∧ (∀ g, (Value.slice ao' (n + m) c').ownBlock = some g → (Value.slice ao n c).ownBlock = some g ∨ w.heap.size ≤ g) := by
  obtain ⟨hl, hno, hc⟩ := hsrc
  by_cases hm : m = 0
  · subst hm
    obtain rfl : news = [] := List.eq_nil_of_length_eq_zero (by simpa using hl)
    refine ⟨ao, c, w, ?_, by simpa using hown, World.grownBy.refl _ _, fun g hg => Or.inl hg⟩
    subst h4
    rcases row_forms hown with ⟨hv, rfl⟩ | ⟨g, cap, hv, hcap, _⟩
    · cases hv
      cases so <;> simp [Builtin.append_, run_underlying h1, sizeOf, typeInfo, h2, Builtin.lenOf, Builtin.firstCells, loadCells, loadCellsFrom]
    · cases hv
      cases so <;> simp [Builtin.append_, run_underlying h1, sizeOf, typeInfo, h2, Builtin.lenOf, Builtin.firstCells, loadCells, loadCellsFrom, hcap, storeCells]
  · cases so with
    | none => exact absurd (hno rfl) hm
    | some ad =>
      obtain ⟨g, cap, w', hrun, r1, r2, r3, r4, r5, r6⟩ := run_append_row (P := P) w t ty e i z size bytes h1 h2 h3 h4 h5 h6 h7 _ n xs hown ad m sc news hl (hc ad rfl) h1c (by omega) b1 b2
      exact ⟨_, _, w', hrun, r1, r2, fun k hk => by cases hk; exact r3⟩

theorem step_append_any {P : Program} {ops : Array Oper} {o : Oper} {a : Act} {w : World} {K : Act → World → Prop} {Q : Exit → Act → World → Prop} {E : Prop}
    (hg : o.guard = none) (s x : Operand) (t : TypeId) (hop : o.op = Op.call { callee := Callee.builtin Builtin.append, args := #[s, x], argTypes := #[t, t] })
    (e : TypeId) (i : TypeInfo) (z : Value) (size bytes : Nat) (h1 : P.underlying t = some (.slice e)) (h2 : P.info? e = some i) (h3 : i.zero = some z) (h4 : i.size = size) (h5 : i.bytes = bytes) (h6 : z.cells.size = size) (h7 : 0 < size)
    (ao : Option Addr) (n c : Nat) (xs : List Value) (hs : a.eval s = .slice ao n c) (hown : Row w e size (.slice ao n c) n xs)
    (so : Option Addr) (m sc : Nat) (news : List Value) (hx : a.eval x = .slice so m sc) (hsrc : Shows w size so m news) (h1c : ∀ u ∈ news, u.oneCell' = true)
    (b1 : n + m ≤ maxLen) (b2 : (n + m) * bytes ≤ 140737488355328)
    (hK : ∀ ao' c' w', Row w' e size (.slice ao' (n + m) c') (n + m) (xs ++ news) → w.grownBy w' (Value.slice ao n c).ownBlock → (∀ g, (Value.slice ao' (n + m) c').ownBlock = some g → (Value.slice ao n c).ownBlock = some g ∨ w.heap.size ≤ g) → K (a.put o.dst (.slice ao' (n + m) c')) w') :
    if Region.wanted o (yielded ops a.tmps) = true then Oper.wp P o a w K Q else E := by
  have hw : Region.wanted o (yielded ops a.tmps) = true := by simp [Region.wanted, hg]
  rw [if_pos hw]
  obtain ⟨ao', c', w', hrun, r1, r2, r3⟩ := run_append_any (P := P) w t o.type e i z size bytes h1 h2 h3 h4 h5 h6 h7 ao n c xs hown so m sc news hsrc h1c b1 b2
  unfold Oper.wp
  simp [execOp, hop, resolve, invoke, builtin, hs, hx, hrun, Result.andThen]
  exact hK ao' c' w' r1 r2 r3

theorem wpList_append_any {P : Program} {ops : Array Oper} {rest : List Oper} {o : Oper} {a : Act} {w : World} {Q : Exit → Act → World → Prop}
    (hg : o.guard = none) (s x : Operand) (t : TypeId) (hop : o.op = Op.call { callee := Callee.builtin Builtin.append, args := #[s, x], argTypes := #[t, t] })
    (e : TypeId) (i : TypeInfo) (z : Value) (size bytes : Nat) (h1 : P.underlying t = some (.slice e)) (h2 : P.info? e = some i) (h3 : i.zero = some z) (h4 : i.size = size) (h5 : i.bytes = bytes) (h6 : z.cells.size = size) (h7 : 0 < size)
    (ao : Option Addr) (n c : Nat) (xs : List Value) (hs : a.eval s = .slice ao n c) (hown : Row w e size (.slice ao n c) n xs)
    (so : Option Addr) (m sc : Nat) (news : List Value) (hx : a.eval x = .slice so m sc) (hsrc : Shows w size so m news) (h1c : ∀ u ∈ news, u.oneCell' = true)
    (b1 : n + m ≤ maxLen) (b2 : (n + m) * bytes ≤ 140737488355328)
    (hK : ∀ ao' c' w', Row w' e size (.slice ao' (n + m) c') (n + m) (xs ++ news) → w.grownBy w' (Value.slice ao n c).ownBlock → (∀ g, (Value.slice ao' (n + m) c').ownBlock = some g → (Value.slice ao n c).ownBlock = some g ∨ w.heap.size ≤ g) → wpList P ops Q rest (a.put o.dst (.slice ao' (n + m) c')) w') :
    wpList P ops Q (o :: rest) a w := by
  refine wpList_plain hg fun K hK' => ?_
  obtain ⟨ao', c', w', hrun, r1, r2, r3⟩ := run_append_any (P := P) w t o.type e i z size bytes h1 h2 h3 h4 h5 h6 h7 ao n c xs hown so m sc news hsrc h1c b1 b2
  unfold Oper.wp
  simp [execOp, hop, resolve, invoke, builtin, hs, hx, hrun, Result.andThen]
  exact hK' _ _ (hK ao' c' w' r1 r2 r3)

/-- a new block's cells, as a slice shows them -/
theorem shows_new (w : World) (cs : List Value) (t : TypeId) {g : Nat} (hg : g = w.heap.size) {sz m : Nat} (hl : cs.length = m * sz) : Shows (w.alloc (.cells cs.toArray t)) sz (some ⟨g, 0, none⟩) m cs :=
  ⟨hl, (fun h => by cases h), (fun ad ha => by cases ha; exact new_cells w cs t hg)⟩

end Go.Fr
