/- The document's queue: New. -/
import Derived.Test.YtdjdnfjfomeldaaRdyJ
namespace Go.Proofs.Ytdjdnfjfomeldaa.DQ
open Go.RowKit Go.Fr Go.Rq Go.Shelf
open Go.Proofs.Ytdjdnfjfomeldaa.QD (row_ne_blk)
attribute [local go_sem] Oper.semAt_some

/-- a queue under construction: its box, its three rows, the lists -/
structure Bx (w wr : World) (N : Nat) (vR vL vH : Value) (n1 n2 n3 : Nat) (x1 x2 x3 : List Value) (T : List (List Int)) : Prop where
  blk : Blk wr N [vR, vL, vH] 77
  r1 : Row wr 65 2 vR n1 x1
  r2 : Row wr 75 1 vL n2 x2
  r3 : Row wr 3 1 vH n3 x3
  own : ∀ g, vR.ownBlock = some g ∨ vL.ownBlock = some g ∨ vH.ownBlock = some g → w.heap.size ≤ g
  le : w.heap.size ≤ N
  sh : ∀ (i : Nat) (l : List Int) (v : Value), T[i]? = some l → x2[i]? = some v → LV wr v l
  lv : ∀ v ∈ x2, ∀ g, v.ownBlock = some g → w.heap.size ≤ g ∧ vH.ownBlock ≠ some g
  tl : T.length = n2
  kept : Kept (fun _ => False) w wr

section
variable {w wr w1 : World} {N n1 n2 n3 : Nat} {vR vL vH v' : Value} {x1 x2 x3 y : List Value} {T : List (List Int)}
theorem Bx.same {wf : World} (h : Bx w wr N vR vL vH n1 n2 n3 x1 x2 x3 T) (k : Kept (fun _ => False) wr wf) : Bx w wf N vR vL vH n1 n2 n3 x1 x2 x3 T :=
  ⟨h.blk.kept k (fun x => x), row_kept h.r1 k (fun _ _ x => x), row_kept h.r2 k (fun _ _ x => x), row_kept h.r3 k (fun _ _ x => x), h.own, h.le, fun i l v h1 h2 => (h.sh i l v h1 h2).kept k (fun _ _ x => x), h.lv, h.tl, h.kept.then k (fun _ x => x.elim)⟩
theorem Bx.ent (h : Bx w wr N vR vL vH n1 n2 n3 x1 x2 x3 T) {v : Value} (hv : v ∈ x2) : ∃ l, LV wr v l := by
  obtain ⟨i, hi⟩ := List.getElem?_of_mem hv
  have h1 := (List.getElem?_eq_some_iff.1 hi).1
  have h2 := h.r2.1
  have h3 := h.tl
  exact ⟨_, h.sh i _ v (List.getElem?_eq_getElem (show i < T.length by omega)) hi⟩
/-- the box's block is no row's -/
theorem Bx.neN (h : Bx w wr N vR vL vH n1 n2 n3 x1 x2 x3 T) : vR.ownBlock ≠ some N ∧ vL.ownBlock ≠ some N ∧ vH.ownBlock ≠ some N :=
  ⟨row_ne_blk (by decide) h.r1 h.blk, row_ne_blk (by decide) h.r2 h.blk, row_ne_blk (by decide) h.r3 h.blk⟩
theorem Bx.lvN (h : Bx w wr N vR vL vH n1 n2 n3 x1 x2 x3 T) {v : Value} {l : List Int} (hv : LV wr v l) : v.ownBlock ≠ some N := fun e => by
  obtain ⟨cs, f, hh⟩ := hv.lt e
  have hb := h.blk
  unfold Blk at hb
  rw [hb] at hh
  simp at hh

theorem Bx.putR (h : Bx w wr N vR vL vH n1 n2 n3 x1 x2 x3 T) {n : Nat} (hr : Row w1 65 2 v' n y) (k : Kept (fun g => vR.ownBlock = some g) wr w1) (hn : ∀ g, v'.ownBlock = some g → vR.ownBlock = some g ∨ wr.heap.size ≤ g) :
    Bx w (w1.setCell ⟨N, 0, none⟩ v') N v' vL vH n n2 n3 y x2 x3 T := by
  obtain ⟨e1, e2, e3⟩ := h.neN
  have hb1 := h.blk.kept k e1
  have hN : v'.ownBlock ≠ some N := row_ne_blk (by decide) hr hb1
  have hsz := h.kept.size
  have L1 : ∀ {v : Value} {l : List Int}, LV wr v l → LV (w1.setCell ⟨N, 0, none⟩ v') v l := fun {v l} hv =>
    (hv.kept k (fun g hg e => hv.ne_row (by decide) h.r1 hg e)).heap (fun g hg => Below.heap_setCell _ ⟨N, 0, none⟩ _ _ (fun e => h.lvN hv (by rw [hg, e])))
  refine ⟨hb1.set 0 v', row_setCell_other hr (a := ⟨N, 0, none⟩) hN _, row_setCell_other (row_kept h.r2 k (fun g hg e => row_ne_row (by decide) h.r1 h.r2 e hg)) (a := ⟨N, 0, none⟩) e2 _, row_setCell_other (row_kept h.r3 k (fun g hg e => row_ne_row (by decide) h.r1 h.r3 e hg)) (a := ⟨N, 0, none⟩) e3 _, ?_, h.le, fun i l v h1 h2 => L1 (h.sh i l v h1 h2), h.lv, h.tl, ?_⟩
  · rintro g (hg | hg)
    · rcases hn g hg with h1 | h1
      · exact h.own g (Or.inl h1)
      · omega
    · exact h.own g (Or.inr hg)
  · exact (h.kept.then k (fun i hi => Or.inr (h.own i (Or.inl hi)))).set (b := N) 0 (Or.inr h.le) _

theorem Bx.putL (h : Bx w wr N vR vL vH n1 n2 n3 x1 x2 x3 T) {u : Value} {l : List Int} (hr : Row w1 75 1 v' (n2 + 1) (x2 ++ [u])) (hu : LV wr u l) (hu2 : ∀ g, u.ownBlock = some g → w.heap.size ≤ g ∧ vH.ownBlock ≠ some g) (k : Kept (fun g => vL.ownBlock = some g) wr w1) (hn : ∀ g, v'.ownBlock = some g → vL.ownBlock = some g ∨ wr.heap.size ≤ g) :
    Bx w (w1.setCell ⟨N, 1, none⟩ v') N vR v' vH n1 (n2 + 1) n3 x1 (x2 ++ [u]) x3 (T ++ [l]) := by
  obtain ⟨e1, e2, e3⟩ := h.neN
  have hb1 := h.blk.kept k e2
  have hN : v'.ownBlock ≠ some N := row_ne_blk (by decide) hr hb1
  have hsz := h.kept.size
  have L1 : ∀ {v : Value} {l : List Int}, LV wr v l → LV (w1.setCell ⟨N, 1, none⟩ v') v l := fun {v l} hv =>
    (hv.kept k (fun g hg e => hv.ne_row (by decide) h.r2 hg e)).heap (fun g hg => Below.heap_setCell _ ⟨N, 1, none⟩ _ _ (fun e => h.lvN hv (by rw [hg, e])))
  have hx2 : x2.length = n2 := by have := h.r2.1; omega
  refine ⟨hb1.set 1 v', row_setCell_other (row_kept h.r1 k (fun g hg e => row_ne_row (by decide) h.r2 h.r1 e hg)) (a := ⟨N, 1, none⟩) e1 _, row_setCell_other hr (a := ⟨N, 1, none⟩) hN _, row_setCell_other (row_kept h.r3 k (fun g hg e => row_ne_row (by decide) h.r2 h.r3 e hg)) (a := ⟨N, 1, none⟩) e3 _, ?_, h.le, fun i l' v h1 h2 => ?_, ?_, by rw [List.length_append, h.tl]; rfl, ?_⟩
  · rintro g (hg | hg | hg)
    · exact h.own g (Or.inl hg)
    · rcases hn g hg with h1 | h1
      · exact h.own g (Or.inr (Or.inl h1))
      · omega
    · exact h.own g (Or.inr (Or.inr hg))
  · rcases Nat.lt_or_ge i n2 with hi | hi
    · rw [List.getElem?_append_left (by rw [h.tl]; exact hi)] at h1
      rw [List.getElem?_append_left (by omega)] at h2
      exact L1 (h.sh i l' v h1 h2)
    · have hi2 := (List.getElem?_eq_some_iff.1 h1).1
      rw [List.length_append, h.tl] at hi2
      simp at hi2
      obtain rfl : i = n2 := by omega
      rw [List.getElem?_append_right (by rw [h.tl]; exact Nat.le_refl _), h.tl] at h1
      rw [List.getElem?_append_right (by omega), hx2] at h2
      simp at h1 h2
      subst h1
      subst h2
      exact L1 hu
  · intro v hv g hg
    rcases List.mem_append.1 hv with h1 | h1
    · exact h.lv v h1 g hg
    · simp at h1; subst h1; exact hu2 g hg
  · exact (h.kept.then k (fun i hi => Or.inr (h.own i (Or.inr (Or.inl hi))))).set (b := N) 1 (Or.inr h.le) _

theorem Bx.putH (h : Bx w wr N vR vL vH n1 n2 n3 x1 x2 x3 T) {n : Nat} (hr : Row w1 3 1 v' n y) (k : Kept (fun g => vH.ownBlock = some g) wr w1) (hn : ∀ g, v'.ownBlock = some g → vH.ownBlock = some g ∨ wr.heap.size ≤ g) :
    Bx w (w1.setCell ⟨N, 2, none⟩ v') N vR vL v' n1 n2 n x1 x2 y T := by
  obtain ⟨e1, e2, e3⟩ := h.neN
  have hb1 := h.blk.kept k e3
  have hN : v'.ownBlock ≠ some N := row_ne_blk (by decide) hr hb1
  have hsz := h.kept.size
  have L1 : ∀ {v : Value} {l : List Int}, v ∈ x2 → LV wr v l → LV (w1.setCell ⟨N, 2, none⟩ v') v l := fun {v l} hm hv =>
    (hv.kept k (fun g hg e => (h.lv v hm g hg).2 e)).heap (fun g hg => Below.heap_setCell _ ⟨N, 2, none⟩ _ _ (fun e => h.lvN hv (by rw [hg, e])))
  refine ⟨hb1.set 2 v', row_setCell_other (row_kept h.r1 k (fun g hg e => row_ne_row (by decide) h.r3 h.r1 e hg)) (a := ⟨N, 2, none⟩) e1 _, row_setCell_other (row_kept h.r2 k (fun g hg e => row_ne_row (by decide) h.r3 h.r2 e hg)) (a := ⟨N, 2, none⟩) e2 _, row_setCell_other hr (a := ⟨N, 2, none⟩) hN _, ?_, h.le, fun i l v h1 h2 => L1 (List.mem_of_getElem? h2) (h.sh i l v h1 h2), ?_, h.tl, ?_⟩
  · rintro g (hg | hg | hg)
    · exact h.own g (Or.inl hg)
    · exact h.own g (Or.inr (Or.inl hg))
    · rcases hn g hg with h1 | h1
      · exact h.own g (Or.inr (Or.inr h1))
      · omega
  · intro v hv g hg
    refine ⟨(h.lv v hv g hg).1, fun e => ?_⟩
    obtain ⟨l, hl⟩ := h.ent hv
    rcases hn g e with h1 | h1
    · exact (h.lv v hv g hg).2 h1
    · have := hl.size hg; omega
  · exact (h.kept.then k (fun i hi => Or.inr (h.own i (Or.inr (Or.inr hi))))).set (b := N) 2 (Or.inr h.le) _
end

theorem Bx.done {w wr : World} {N : Nat} {aR aL aH : Option Addr} {cR cL cH : Nat} {x1 x2 x3 : List Value} {T : List (List Int)} {st : List En} (h : Bx w wr N (.slice aR st.length cR) (.slice aL st.length cL) (.slice aH st.length cH) st.length st.length st.length x1 x2 x3 T)
    (h1 : x1 = st.flatMap encR) (h3 : x3 = st.map encH) (hT : T = st.map (fun e => e.2.2.2)) (hF : Falls st) : IsD wr N ⟨aR, cR, aL, cL, aH, cH, x2⟩ st ∧ (∀ i, dfoot N ⟨aR, cR, aL, cL, aH, cH, x2⟩ i → w.heap.size ≤ i) ∧ Kept (fun _ => False) w wr := by
  subst h1
  subst h3
  refine ⟨⟨h.blk, h.r1, h.r2, h.r3, fun i e v hi hv => h.sh i _ v (by rw [hT, List.getElem?_map, hi]; rfl) hv, fun v hv k hk => (h.lv v hv k hk).2, hF⟩, ?_, h.kept⟩
  rintro i (rfl | hi | hi | hi | ⟨v, hv, hk⟩)
  · exact h.le
  · exact h.own i (Or.inl (own_of hi))
  · exact h.own i (Or.inr (Or.inl (own_of hi)))
  · exact h.own i (Or.inr (Or.inr (own_of hi)))
  · exact (h.lv v hv i hk).1
end Go.Proofs.Ytdjdnfjfomeldaa.DQ
