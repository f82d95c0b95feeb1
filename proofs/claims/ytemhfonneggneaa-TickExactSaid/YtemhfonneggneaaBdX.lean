/- Package tick: a board in the making: its first state. -/
import Derived.Test.YtemhfonneggneaaBdN
namespace Go.Proofs.Ytemhfonneggneaa.BD
open Go.RowKit Go.Fr Go.Tb
open Go.Proofs.Ytemhfonneggneaa.CK (IsClk foot)

def bare (vr va : Value) (m : Int) : List Value := [vr, va, .slice none 0 0, .slice none 0 0, .int .i64 m, .slice none 0 0] ++ ((List.replicate 32 false).map Value.bool ++ [.bool true])
def noC (n : Nat) : List Value := (List.replicate n (((Value.slice none 0 0, []), none) : (Value × List Int) × Option ((Nat × Value) × Cs))).flatMap encQ
def made (w : World) (vr va : Value) (m : Int) (n : Nat) : World :=
  ((w.alloc (.cells (bare vr va m).toArray 68)).alloc (.cells (noC n).toArray 87)).setCell ⟨w.heap.size, 3, none⟩ (.slice (some ⟨w.heap.size + 1, 0, none⟩) n n)

theorem pb_new {w0 w : World} {T : Tb} {n : Nat} {vr va : Value} (hr : Lv w vr 3 (encKKK .u32 .u32 .u32) T.counters) (ha : Lv w va 7 encA T.alarms)
    (or : ∀ g, vr.ownBlock = some g → w0.heap.size ≤ g ∧ g < w.heap.size) (oa : ∀ g, va.ownBlock = some g → w0.heap.size ≤ g ∧ g < w.heap.size) (hap : ∀ g, vr.ownBlock = some g → va.ownBlock = some g → False) (k : Kept (fun _ => False) w0 w) (hn : n ≤ 16) :
    Pb w0 (made w vr va T.modes n) T n ⟨w.heap.size, w.heap.size + 1, vr, va, .slice none 0 0, .slice none 0 0, [], [], List.replicate n (.slice none 0 0, []), List.replicate n none⟩ := by
  have kk : Kept (fun _ => False) w (made w vr va T.modes n) := (((Kept.refl _ w).alloc _).alloc _).setCell (p := ⟨w.heap.size, 3, none⟩) (Or.inr (Nat.le_refl _)) _
  have hsz : (made w vr va T.modes n).heap.size = w.heap.size + 2 := by unfold made; rw [World.size_setCell, World.size_alloc, World.size_alloc]
  have hzs := k.size
  have nb : Blk (made w vr va T.modes n) w.heap.size (pcells ⟨w.heap.size, w.heap.size + 1, vr, va, .slice none 0 0, .slice none 0 0, [], [], List.replicate n (.slice none 0 0, []), List.replicate n none⟩ T n) 68 :=
    ((Blk.new w (bare vr va T.modes) 68).alloc _).set 3 _
  have hl : (noC n).length = n * 2 := by unfold noC; rw [flat_length (show ∀ y, (encQ y).length = 2 from fun _ => rfl)]; simp
  have hz : (List.replicate n ((Value.slice none 0 0, []) : Value × List Int)).zip (List.replicate n (none : Option ((Nat × Value) × Cs))) = List.replicate n ((Value.slice none 0 0, []), none) := by
    induction n with
    | zero => rfl
    | succ n _ => exact List.zip_replicate' ..
  have hct : Row (made w vr va T.modes n) 87 2 (.slice (some ⟨w.heap.size + 1, 0, none⟩) n n) n (noC n) := by
    have h := row_new (w.alloc (.cells (bare vr va T.modes).toArray 68)) 87 2 n (noC n) hl (by unfold maxLen; omega)
    rw [World.size_alloc] at h
    exact row_setCell_other h (a := ⟨w.heap.size, 3, none⟩) (by simp [Value.ownBlock]) _
  have key : ∀ (l : Lb) (q : Nat), own ⟨w.heap.size, w.heap.size + 1, vr, va, .slice none 0 0, .slice none 0 0, [], [], List.replicate n (.slice none 0 0, []), List.replicate n none⟩ l q →
      (l = .b ∧ q = w.heap.size) ∨ (l = .g ∧ q = w.heap.size + 1) ∨ (l = .r ∧ vr.ownBlock = some q) ∨ (l = .a ∧ va.ownBlock = some q) := by
    intro l q h
    cases l with
    | b => exact Or.inl ⟨rfl, h⟩
    | g => exact Or.inr (Or.inl ⟨rfl, h⟩)
    | r => exact Or.inr (Or.inr (Or.inl ⟨rfl, h⟩))
    | a => exact Or.inr (Or.inr (Or.inr ⟨rfl, h⟩))
    | p => cases h
    | i => cases h
    | s c =>
      obtain ⟨v, l, h1, h2⟩ := h
      obtain ⟨h1, _⟩ := Prod.mk.inj (List.eq_of_mem_replicate (List.mem_of_getElem? h1))
      subst h1; cases h2
    | k c =>
      obtain ⟨v, l, h1, h2⟩ := h
      have h1 := List.eq_of_mem_replicate (List.mem_of_getElem? h1)
      cases h1
  refine ⟨nb, hr.same kk, ha.same kk, World.ownsRow_nil _ _ _ _, World.ownsRow_nil _ _ _ _, ?_, ⟨by simp, by simp⟩, fun c v l h => ?_, fun c kb s h => ?_, fun l m q h1 h2 => ?_, fun l q h => ?_, k.then kk (fun _ x => x.elim)⟩
  · show Row _ _ 2 _ n ((List.zip _ _).flatMap encQ)
    rw [hz]; exact hct
  · obtain ⟨h1, h2⟩ := Prod.mk.inj (List.eq_of_mem_replicate (List.mem_of_getElem? h))
    subst h1 h2
    exact World.ownsRow_nil _ _ _ _
  · have h1 := List.eq_of_mem_replicate (List.mem_of_getElem? h)
    cases h1
  · rcases key l q h1 with ⟨rfl, e⟩ | ⟨rfl, e⟩ | ⟨rfl, e⟩ | ⟨rfl, e⟩ <;> rcases key m q h2 with ⟨rfl, f⟩ | ⟨rfl, f⟩ | ⟨rfl, f⟩ | ⟨rfl, f⟩ <;> first
      | rfl
      | (exfalso; omega)
      | (exfalso; have := or q e; omega)
      | (exfalso; have := oa q e; omega)
      | (exfalso; have := or q f; omega)
      | (exfalso; have := oa q f; omega)
      | exact (hap q e f).elim
      | exact (hap q f e).elim
  · rw [hsz]
    rcases key l q h with ⟨rfl, e⟩ | ⟨rfl, e⟩ | ⟨rfl, e⟩ | ⟨rfl, e⟩
    · omega
    · omega
    · have := or q e; omega
    · have := oa q e; omega
section
variable {w0 w w' : World} {T : Tb} {n : Nat} {x : Pt}
theorem Pb.ctr {c : Nat} {v : Value} {l : List Int} {o : Option ((Nat × Value) × Cs)} (h : Pb w0 w T n x) (hc : x.S[c]? = some (v, l)) (hk : x.K[c]? = some o) :
    w.cell? ⟨x.g, c * 2 + 1, none⟩ = some v ∧ w.frozen? ⟨x.g, c * 2 + 1, none⟩ = false ∧ w.frozen? ⟨x.g, c * 2, none⟩ = false ∧ (∃ u, w.cell? ⟨x.g, c * 2, none⟩ = some u) ∧ Row w 3 1 v l.length (l.map (Value.int .i64)) := by
  have hz : (x.S.zip x.K)[c]? = some ((v, l), o) := by rw [List.getElem?_zip_eq_some]; exact ⟨hc, hk⟩
  have hl : (x.S.zip x.K).length = n := by rw [List.length_zip, h.lens.1, h.lens.2, Nat.min_self]
  have hr := h.ct
  have hcm : CameL w 2 encQ (some ⟨x.g, 0, none⟩) (x.S.zip x.K) := camel_of_row (enc := encQ) (e := 87) (c := n) (fun _ => rfl) (by rw [hl]; exact hr)
  obtain ⟨b, off, e, _, hcl⟩ := camel_at hcm hz
  cases e
  have e1 := hcl 1 _ rfl
  have e0 := hcl 0 _ rfl
  simp only [Nat.zero_add, Nat.add_zero] at e0 e1
  exact ⟨e1, row_frozen hr _, row_frozen hr _, ⟨_, e0⟩, h.sl c v l hc⟩
/-- the store behind an append to the places -/
theorem Pb.appP {w7 : World} {vp : Value} {P : List Int} (h : Pb w0 w T n x) (kc : Kept (fun g => x.vp.ownBlock = some g) w w7) (hr : Row w7 3 1 vp P.length (P.map (Value.int .i64))) (ho : ∀ q, vp.ownBlock = some q → x.vp.ownBlock = some q ∨ w.heap.size ≤ q) :
    Pb w0 (w7.setCell ⟨x.b, 2, none⟩ vp) T n { x with vp := vp, P := P } ∧ Blk w7 x.b (pcells x T n) 68 := by
  have hb := h.blk.kept kc (fun e => by have := h.apart .p .b _ e rfl; cases this)
  refine ⟨h.setP (S := fun q => x.vp.ownBlock = some q ∨ q = x.b) ((kc.mono (S' := fun q => x.vp.ownBlock = some q ∨ q = x.b) (fun _ _ e => Or.inl e)).setCell (p := ⟨x.b, 2, none⟩) (Or.inl (Or.inr rfl)) _) (fun q hq => hq.symm) (hb.set 2 _) (row_setCell_other hr (fun e => ?_) _) ho, hb⟩
  rcases ho _ e with e | e
  · have := h.apart .p .b _ e rfl; cases this
  · have := (h.low .b _ rfl).2; exact absurd this (by simpa using e)
theorem Pb.appI {w7 : World} {vi : Value} {I : List (Int × Int)} (h : Pb w0 w T n x) (kc : Kept (fun g => x.vi.ownBlock = some g) w w7) (hr : Row w7 95 2 vi I.length (I.flatMap (encKK .i64 .i64))) (ho : ∀ q, vi.ownBlock = some q → x.vi.ownBlock = some q ∨ w.heap.size ≤ q) :
    Pb w0 (w7.setCell ⟨x.b, 5, none⟩ vi) T n { x with vi := vi, I := I } ∧ Blk w7 x.b (pcells x T n) 68 := by
  have hb := h.blk.kept kc (fun e => by have := h.apart .i .b _ e rfl; cases this)
  refine ⟨h.setI (S := fun q => x.vi.ownBlock = some q ∨ q = x.b) ((kc.mono (S' := fun q => x.vi.ownBlock = some q ∨ q = x.b) (fun _ _ e => Or.inl e)).setCell (p := ⟨x.b, 5, none⟩) (Or.inl (Or.inr rfl)) _) (fun q hq => hq.symm) (hb.set 5 _) (row_setCell_other hr (fun e => ?_) _) ho, hb⟩
  rcases ho _ e with e | e
  · have := h.apart .i .b _ e rfl; cases this
  · have := (h.low .b _ rfl).2; exact absurd this (by simpa using e)
end
end Go.Proofs.Ytemhfonneggneaa.BD
