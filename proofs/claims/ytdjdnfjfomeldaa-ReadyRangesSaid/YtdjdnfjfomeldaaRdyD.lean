/- The document's queue (tappetref13): rows, their ids, the most of each: what lies where; what only reads. -/
import Derived.Test.YtdjdnfjfomeldaaRdyB
namespace Go.Proofs.Ytdjdnfjfomeldaa.DQ
open Go.RowKit Go.Fr Go.Rq Go.Shelf
open Go.Proofs.Ytdjdnfjfomeldaa.QD (encQ infoQ row_ne_blk)
attribute [local go_sem] Oper.semAt_some

abbrev encR (e : En) : List Value := [.int .i64 e.1, .int .i64 e.2.1]
abbrev encH (e : En) : Value := .int .i64 e.2.2.1
theorem encR_len (e : En) : (encR e).length = 2 := rfl

/-- a list of numbers as a slice value shows it -/
def LV (w : World) (v : Value) (l : List Int) : Prop := (v = .slice none 0 0 ∧ l = []) ∨ ∃ g o c, v = .slice (some ⟨g, o, none⟩) l.length c ∧ l.length ≤ c ∧ (∃ cs f, w.heap[g]? = some (.cells cs 3 f)) ∧ ∀ (j : Nat) (x : Int), l[j]? = some x → w.cell? ⟨g, o + j, none⟩ = some (.int .i64 x)
theorem LV.heap {w w' : World} {v : Value} {l : List Int} (h : LV w v l) (k : ∀ g, v.ownBlock = some g → w'.heap[g]? = w.heap[g]?) : LV w' v l := by
  rcases h with h | ⟨g, o, c, rfl, h1, ⟨cs, f, h2⟩, h3⟩
  · exact Or.inl h
  · exact Or.inr ⟨g, o, c, rfl, h1, ⟨cs, f, (k g rfl).trans h2⟩, fun j x hx => (World.cell?_of_block (a := ⟨g, o + j, none⟩) (k g rfl)).trans (h3 j x hx)⟩
theorem LV.lt {w : World} {v : Value} {l : List Int} (h : LV w v l) {k : Nat} (hk : v.ownBlock = some k) : ∃ cs f, w.heap[k]? = some (.cells cs 3 f) := by
  rcases h with ⟨rfl, _⟩ | ⟨g, o, c, rfl, h1, ⟨cs, f, h2⟩, h3⟩
  · simp [Value.ownBlock] at hk
  · simp [Value.ownBlock] at hk; subst hk; exact ⟨cs, f, h2⟩
theorem LV.size {w : World} {v : Value} {l : List Int} (h : LV w v l) {k : Nat} (hk : v.ownBlock = some k) : k < w.heap.size := by
  obtain ⟨cs, f, h2⟩ := h.lt hk
  exact (Array.getElem?_eq_some_iff.1 h2).1
theorem LV.kept {S : Nat → Prop} {w w' : World} {v : Value} {l : List Int} (h : LV w v l) (k : Kept S w w') (hn : ∀ g, v.ownBlock = some g → ¬ S g) : LV w' v l :=
  h.heap (fun g hg => k.block g (h.size hg) (hn g hg))
theorem LV.form {w : World} {v : Value} {l : List Int} (h : LV w v l) : ∃ ao c, v = .slice ao l.length c := by
  rcases h with ⟨rfl, rfl⟩ | ⟨g, o, c, rfl, _⟩
  · exact ⟨none, 0, rfl⟩
  · exact ⟨_, c, rfl⟩
theorem LV.shows {w : World} {ao : Option Addr} {c : Nat} {l : List Int} (h : LV w (.slice ao l.length c) l) : Shows w 1 ao l.length (l.map (Value.int .i64)) := by
  rcases h with ⟨h1, rfl⟩ | ⟨g, o, c', h0, h1, h2, h3⟩
  · exact ⟨by simp, fun _ => rfl, fun ad ha j u hu => by simp at hu⟩
  · cases h0
    refine ⟨by simp, (fun h => by cases h), fun ad ha j u hu => ?_⟩
    cases ha
    rw [List.getElem?_map, Option.map_eq_some_iff] at hu
    obtain ⟨x, hx, rfl⟩ := hu
    have := h3 j x hx
    rcases Nat.eq_zero_or_pos j with rfl | hj
    · simpa [Addr.add] using this
    · simpa [Addr.add, show j ≠ 0 by omega] using this
theorem LV.row {w : World} {v : Value} {l : List Int} (h : Row w 3 1 v l.length (l.map (Value.int .i64))) : LV w v l := by
  rcases h.2 with ⟨rfl, h0⟩ | ⟨g, cap, cur, rfl, _, hh, h1, h2, _⟩
  · exact Or.inl ⟨rfl, List.length_eq_zero_iff.1 h0⟩
  · refine Or.inr ⟨g, 0, cap, rfl, h1, ⟨_, _, hh⟩, fun j x hx => ?_⟩
    rw [Nat.zero_add]
    exact row_cell h j (by rw [List.getElem?_map, hx]; rfl)

structure Dd where
  aR : Option Addr
  cR : Nat
  aL : Option Addr
  cL : Nat
  aH : Option Addr
  cH : Nat
  vs : List Value

structure IsD (w : World) (p : Nat) (d : Dd) (st : List En) : Prop where
  blk : Blk w p [.slice d.aR st.length d.cR, .slice d.aL st.length d.cL, .slice d.aH st.length d.cH] 77
  rows : Row w 65 2 (.slice d.aR st.length d.cR) st.length (st.flatMap encR)
  lists : Row w 75 1 (.slice d.aL st.length d.cL) st.length d.vs
  highs : Row w 3 1 (.slice d.aH st.length d.cH) st.length (st.map encH)
  shown : ∀ (i : Nat) (e : En) (v : Value), st[i]? = some e → d.vs[i]? = some v → LV w v e.2.2.2
  apart : ∀ v ∈ d.vs, ∀ k, v.ownBlock = some k → (Value.slice d.aH st.length d.cH).ownBlock ≠ some k
  falls : Falls st

def dfoot (p : Nat) (d : Dd) : Nat → Prop := fun k => k = p ∨ (∃ a, d.aR = some a ∧ a.block = k) ∨ (∃ a, d.aL = some a ∧ a.block = k) ∨ (∃ a, d.aH = some a ∧ a.block = k) ∨ ∃ v ∈ d.vs, v.ownBlock = some k
theorem own_some {a : Option Addr} {n c k : Nat} (h : (Value.slice a n c).ownBlock = some k) : ∃ x, a = some x ∧ x.block = k := by
  cases a with
  | none => simp [Value.ownBlock] at h
  | some x => simp [Value.ownBlock] at h; exact ⟨x, rfl, h⟩
theorem own_of {a : Option Addr} {n c k : Nat} (h : ∃ x, a = some x ∧ x.block = k) : (Value.slice a n c).ownBlock = some k := by
  obtain ⟨x, rfl, rfl⟩ := h; rfl

section
variable {w : World} {p : Nat} {d : Dd} {st : List En}
theorem IsD.vlen (hs : IsD w p d st) : d.vs.length = st.length := by have := hs.lists.1; omega
theorem IsD.val (hs : IsD w p d st) {i : Nat} {e : En} (hx : st[i]? = some e) : ∃ v, d.vs[i]? = some v ∧ LV w v e.2.2.2 := by
  have hi := (List.getElem?_eq_some_iff.1 hx).1
  obtain ⟨v, hv⟩ : ∃ v, d.vs[i]? = some v := ⟨_, List.getElem?_eq_getElem (by rw [hs.vlen]; exact hi)⟩
  exact ⟨v, hv, hs.shown i e v hx hv⟩
theorem IsD.ent (hs : IsD w p d st) {v : Value} (hv : v ∈ d.vs) : ∃ (i : Nat) (e : En), st[i]? = some e ∧ d.vs[i]? = some v := by
  obtain ⟨i, hi⟩ := List.getElem?_of_mem hv
  have := (List.getElem?_eq_some_iff.1 hi).1
  exact ⟨i, _, List.getElem?_eq_getElem (by rw [← hs.vlen]; exact this), hi⟩
theorem IsD.lt (hs : IsD w p d st) : ∀ k, dfoot p d k → k < w.heap.size := by
  rintro k (rfl | h | h | h | ⟨v, hv, hk⟩)
  · exact hs.blk.lt
  · exact row_lt hs.rows (own_of h)
  · exact row_lt hs.lists (own_of h)
  · exact row_lt hs.highs (own_of h)
  · obtain ⟨i, e, h1, h2⟩ := hs.ent hv
    exact (hs.shown i e v h1 h2).size hk
theorem IsD.kept {w' : World} {S : Nat → Prop} (hs : IsD w p d st) (k : Kept S w w') (hn : ∀ i, dfoot p d i → ¬ S i) : IsD w' p d st :=
  ⟨hs.blk.kept k (hn _ (Or.inl rfl)), row_kept hs.rows k (fun _ hg => hn _ (Or.inr (Or.inl (own_some hg)))), row_kept hs.lists k (fun _ hg => hn _ (Or.inr (Or.inr (Or.inl (own_some hg))))),
    row_kept hs.highs k (fun _ hg => hn _ (Or.inr (Or.inr (Or.inr (Or.inl (own_some hg)))))),
    fun i e v h1 h2 => (hs.shown i e v h1 h2).kept k (fun _ hg => hn _ (Or.inr (Or.inr (Or.inr (Or.inr ⟨v, List.mem_of_getElem? h2, hg⟩))))), hs.apart, hs.falls⟩
theorem IsD.same {w' : World} (hs : IsD w p d st) (k : Kept (fun _ => False) w w') : IsD w' p d st := hs.kept k (fun _ _ h => h)
theorem IsD.drew (hs : IsD w p d st) (n : Nat) : IsD (w.drewN n) p d st := hs.same ((Kept.refl _ _).drewN n)

/-- the cells of one row -/
theorem IsD.at (hs : IsD w p d st) {i : Nat} {e : En} (hx : st[i]? = some e) : ∃ gR gL gH v, d.aR = some ⟨gR, 0, none⟩ ∧ d.aL = some ⟨gL, 0, none⟩ ∧ d.aH = some ⟨gH, 0, none⟩ ∧ d.vs[i]? = some v ∧ LV w v e.2.2.2 ∧
    w.cell? ⟨gR, i * 2, none⟩ = some (.int .i64 e.1) ∧ w.cell? ⟨gR, i * 2 + 1, none⟩ = some (.int .i64 e.2.1) ∧ w.cell? ⟨gL, i, none⟩ = some v ∧ w.cell? ⟨gH, i, none⟩ = some (.int .i64 e.2.2.1) := by
  have hi := (List.getElem?_eq_some_iff.1 hx).1
  obtain ⟨v, hv, hl⟩ := hs.val hx
  have h1 := hs.rows
  have h2 := hs.lists
  have h3 := hs.highs
  obtain ⟨aR, cR, aL, cL, aH, cH, vs⟩ := d
  simp only at h1 h2 h3 hv ⊢
  rcases row_forms h1 with ⟨_, h0⟩ | ⟨gR, c1, e1, _⟩
  · omega
  rcases row_forms h2 with ⟨_, h0⟩ | ⟨gL, c2, e2, _⟩
  · omega
  rcases row_forms h3 with ⟨_, h0⟩ | ⟨gH, c3, e3, _⟩
  · omega
  cases e1; cases e2; cases e3
  refine ⟨gR, gL, gH, v, rfl, rfl, rfl, hv, hl, rows_cell (i := 0) encR_len h1 hx rfl, rows_cell (i := 1) encR_len h1 hx rfl, row_cell h2 i hv, row_cell h3 i (by rw [List.getElem?_map, hx]; rfl)⟩

def fidx (st : List En) (q : Int) : Int := ((idx st q).map (fun i => (i : Int))).getD (-1)
theorem fidx_none {q : Int} (h : idx st q = none) : fidx st q = -1 := by unfold fidx; rw [h]; rfl
theorem fidx_some {q : Int} {i : Nat} (h : idx st q = some i) : fidx st q = i := by unfold fidx; rw [h]; rfl
theorem idx_first {q : Int} {k : Nat} {e : En} (hx : st[k]? = some e) (he : (e.1 : Int) = q) (hb : ∀ (j : Nat) (a : En), j < k → st[j]? = some a → (a.1 : Int) ≠ q) : idx st q = some k := by
  cases h : idx st q with
  | none => exact absurd he (idx_none h e (List.mem_of_getElem? hx))
  | some i =>
    obtain ⟨a, h1, h2, h3⟩ := idx_some h
    rcases Nat.lt_trichotomy i k with h4 | rfl | h4
    · exact absurd h2 (hb i a h4 h1)
    · rfl
    · exact absurd he (h3 k e h4 hx)
theorem idx_no {q : Int} (hb : ∀ (j : Nat) (a : En), st[j]? = some a → (a.1 : Int) ≠ q) : idx st q = none := by
  cases h : idx st q with
  | none => rfl
  | some i =>
    obtain ⟨a, h1, h2, h3⟩ := idx_some h
    exact absurd h2 (hb i a h1)

set_option maxRecDepth 100000 in
set_option maxHeartbeats 2000000 in
theorem find_ok (q : Int) (hs : IsD w p d st) : Calls Try.prog 40 #[.pointer (some ⟨p, 0, none⟩), .int .i64 q] w fun e w' => e = .returned (.int .i64 (fidx st q)) ∧ w = w' := by
  have c0 := hs.blk.cell 0 rfl
  have hln : st.length ≤ 9223372036854775807 := by
    have := row_cap hs.rows
    rcases row_forms hs.rows with ⟨_, h⟩ | ⟨g, c, h1, h2, h3, _⟩
    · omega
    · unfold maxLen at h3; omega
  have HS := Lib.hid hs
  clear hs
  go_enter Try.func40, Try.ntmps40
  go_wp2
  go_loopw [5] (fun i wr => ∃ k : Nat, k ≤ st.length ∧ i = .int .i64 k ∧ wr = w ∧ Hid (∀ (j : Nat) (a : En), j < k → st[j]? = some a → (a.1 : Int) ≠ q)) (fun i _ => st.length - (intOf i).toNat)
  case atStart => exact ⟨0, Nat.zero_le _, rfl, rfl, fun j a hj => by omega⟩
  case round =>
    obtain ⟨k, hk, rfl, rfl, hb⟩ := hrel
    by_cases hkl : k < st.length
    · obtain ⟨e, hx⟩ : ∃ e, st[k]? = some e := ⟨_, List.getElem?_eq_getElem hkl⟩
      obtain ⟨gR, gL, gH, v, e1, _, _, _, _, c1, _⟩ := HS.out.at hx
      have hk0 : (0 : Int) ≤ (k : Int) := by omega
      have hk1 : (k : Int) < (st.length : Int) := by omega
      rw [e1] at c0
      by_cases he : (e.1 : Int) = q
      · have hf : fidx st q = k := fidx_some (idx_first hx he hb.out)
        have HF := Lib.hid hf
        clear hx hf
        go_wp2
        go_ret
        rw [HF.out]
        exact ⟨rfl, (by first | rfl | trivial)⟩
      · have hb2 : Hid (∀ (j : Nat) (a : En), j < k + 1 → st[j]? = some a → (a.1 : Int) ≠ q) := fun j a hj ha => by
          rcases Nat.lt_or_ge j k with h | h
          · exact hb.out j a h ha
          · rw [show j = k by omega, hx] at ha; cases ha; exact he
        clear hx
        go_wp2
        go_roundw
        case rel => exact ⟨k + 1, by omega, by go_num, (by first | rfl | trivial), hb2⟩
        case measure => simp [intOf]; omega
    · obtain rfl : k = st.length := by omega
      have hf : fidx st q = -1 := fidx_none (idx_no (fun j a ha => hb.out j a (List.getElem?_eq_some_iff.1 ha).1 ha))
      have HF := Lib.hid hf
      clear hf
      go_wp2
      go_ret
      rw [HF.out]
      exact ⟨rfl, (by first | rfl | trivial)⟩
end
end Go.Proofs.Ytdjdnfjfomeldaa.DQ
