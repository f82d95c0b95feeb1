/- Package tick: a board in the making: its first state. -/
import Derived.Test.YtemhfonneggneaaBdO
/- Package tick: a board while New makes it: its parts, each with blocks of its own. -/
namespace Go.Proofs.Ytemhfonneggneaa.BD
open Go.RowKit Go.Fr Go.Tb
open Go.Proofs.Ytemhfonneggneaa.CK (IsClk foot)

/-- a board in the making -/
structure Pt where
  b : Nat
  g : Nat
  vr : Value
  va : Value
  vp : Value
  vi : Value
  P : List Int
  I : List (Int × Int)
  S : List (Value × List Int)
  K : List (Option ((Nat × Value) × Cs))
/-- its parts -/
inductive Lb where
  | b | g | r | a | p | i
  | s (c : Nat) | k (c : Nat)
def own (x : Pt) : Lb → Nat → Prop
  | .b => fun q => q = x.b
  | .g => fun q => q = x.g
  | .r => fun q => x.vr.ownBlock = some q
  | .a => fun q => x.va.ownBlock = some q
  | .p => fun q => x.vp.ownBlock = some q
  | .i => fun q => x.vi.ownBlock = some q
  | .s c => fun q => ∃ v l, x.S[c]? = some (v, l) ∧ v.ownBlock = some q
  | .k c => fun q => ∃ k s, x.K[c]? = some (some (k, s)) ∧ foot k.1 k.2 q
def encQ (y : (Value × List Int) × Option ((Nat × Value) × Cs)) : List Value := [.pointer (y.2.map (fun k => ⟨k.1.1, 0, none⟩)), y.1.1]
def pcells (x : Pt) (T : Tb) (n : Nat) : List Value := [x.vr, x.va, x.vp, .slice (some ⟨x.g, 0, none⟩) n n, .int .i64 T.modes, x.vi] ++ ((List.replicate 32 false).map Value.bool ++ [.bool true])

structure Pb (w0 w : World) (T : Tb) (n : Nat) (x : Pt) : Prop where
  blk : Blk w x.b (pcells x T n) 68
  rows : Lv w x.vr 3 (encKKK .u32 .u32 .u32) T.counters
  alarms : Lv w x.va 7 encA T.alarms
  pl : Row w 3 1 x.vp x.P.length (x.P.map (Value.int .i64))
  is : Row w 95 2 x.vi x.I.length (x.I.flatMap (encKK .i64 .i64))
  ct : Row w 87 2 (.slice (some ⟨x.g, 0, none⟩) n n) n ((x.S.zip x.K).flatMap encQ)
  lens : x.S.length = n ∧ x.K.length = n
  sl : ∀ (c : Nat) (v : Value) (l : List Int), x.S[c]? = some (v, l) → Row w 3 1 v l.length (l.map (Value.int .i64))
  ck : ∀ (c : Nat) (k : Nat × Value) (s : Cs), x.K[c]? = some (some (k, s)) → IsClk w k.1 k.2 s.mx s.mn s.x s.l
  apart : ∀ (l m : Lb) (q : Nat), own x l q → own x m q → l = m
  low : ∀ (l : Lb) (q : Nat), own x l q → w0.heap.size ≤ q ∧ q < w.heap.size
  kept : Kept (fun _ => False) w0 w

section
variable {w0 w w' : World} {T : Tb} {n : Nat} {x : Pt}
theorem Pb.same (h : Pb w0 w T n x) (k : Kept (fun _ => False) w w') : Pb w0 w' T n x :=
  { h with
    blk := h.blk.kept k (fun x => x), rows := h.rows.same k, alarms := h.alarms.same k, pl := row_kept h.pl k (fun _ _ x => x), is := row_kept h.is k (fun _ _ x => x), ct := row_kept h.ct k (fun _ _ x => x)
    sl := fun c v l hc => row_kept (h.sl c v l hc) k (fun _ _ x => x), ck := fun c a s hc => (h.ck c a s hc).kept k (fun _ _ x => x)
    low := fun l q hq => ⟨(h.low l q hq).1, Nat.lt_of_lt_of_le (h.low l q hq).2 k.size⟩, kept := h.kept.then k (fun _ x => x.elim) }

/-- one part, and the board's own block, are turned: the others are as they were -/
theorem Pb.frame {y : Pt} {S : Nat → Prop} (h : Pb w0 w T n x) (lb : Lb) (k : Kept S w w') (hS : ∀ q, S q → q = x.b ∨ own x lb q)
    (hb : y.b = x.b) (hg : y.g = x.g) (ho : ∀ m q, own y m q → own x m q ∨ (m = lb ∧ w.heap.size ≤ q ∧ q < w'.heap.size)) :
    (∀ (l m : Lb) (q : Nat), own y l q → own y m q → l = m) ∧ (∀ (l : Lb) (q : Nat), own y l q → w0.heap.size ≤ q ∧ q < w'.heap.size) ∧ Kept (fun _ => False) w0 w' := by
  have hz := h.kept.size
  have hz2 := k.size
  refine ⟨fun l m q hl hm => ?_, fun l q hl => ?_, h.kept.then k (fun q hq => Or.inr ?_)⟩
  · rcases ho l q hl with h1 | ⟨rfl, h1, _⟩
    · rcases ho m q hm with h2 | ⟨rfl, h2, _⟩
      · exact h.apart l m q h1 h2
      · have := (h.low l q h1).2; omega
    · rcases ho m q hm with h2 | ⟨rfl, h2, _⟩
      · have := (h.low m q h2).2; omega
      · rfl
  · rcases ho l q hl with h1 | ⟨rfl, h1, h2⟩
    · have := h.low l q h1; omega
    · omega
  · rcases hS q hq with rfl | h1
    · exact (h.low .b _ rfl).1
    · exact (h.low lb q h1).1
theorem Pb.other (h : Pb w0 w T n x) {lb m : Lb} {q : Nat} (hq : own x m q) (hm : m ≠ lb) (hmb : m ≠ .b) : ¬ (q = x.b ∨ own x lb q) := by
  rintro (e | e)
  · exact hmb (h.apart m .b q hq e)
  · exact hm (h.apart m lb q hq e)

/-- the places are appended to -/
theorem Pb.setP {vp : Value} {P : List Int} {S : Nat → Prop} (h : Pb w0 w T n x) (k : Kept S w w') (hS : ∀ q, S q → q = x.b ∨ own x .p q) (hb : Blk w' x.b (pcells { x with vp := vp, P := P } T n) 68)
    (hr : Row w' 3 1 vp P.length (P.map (Value.int .i64))) (ho : ∀ q, vp.ownBlock = some q → own x .p q ∨ w.heap.size ≤ q) : Pb w0 w' T n { x with vp := vp, P := P } := by
  have hk : ∀ m q, own x m q → m ≠ .p → m ≠ .b → ¬ S q := fun m q hq h1 h2 hs => h.other hq h1 h2 (hS q hs)
  obtain ⟨f1, f2, f3⟩ := h.frame (y := { x with vp := vp, P := P }) .p k hS rfl rfl (fun m q hq => by
    cases m with
    | p => exact (ho q hq).imp id (fun h1 => ⟨rfl, h1, row_lt hr hq⟩)
    | _ => exact Or.inl hq)
  exact { blk := hb, rows := h.rows.kept k (fun g hg => hk .r g hg (by simp) (by simp)), alarms := h.alarms.kept k (fun g hg => hk .a g hg (by simp) (by simp)), pl := hr, is := row_kept h.is k (fun g hg => hk .i g hg (by simp) (by simp)),
          ct := row_kept h.ct k (fun g hg => hk .g g (by simpa [Value.ownBlock, own, eq_comm] using hg) (by simp) (by simp)), lens := h.lens, sl := fun c v l hc => row_kept (h.sl c v l hc) k (fun g hg => hk (.s c) g ⟨v, l, hc, hg⟩ (by simp) (by simp)),
          ck := fun c a s hc => (h.ck c a s hc).kept k (fun g hg => hk (.k c) g ⟨a, s, hc, hg⟩ (by simp) (by simp)), apart := f1, low := f2, kept := f3 }
/-- the ISRs are appended to -/
theorem Pb.setI {vi : Value} {I : List (Int × Int)} {S : Nat → Prop} (h : Pb w0 w T n x) (k : Kept S w w') (hS : ∀ q, S q → q = x.b ∨ own x .i q) (hb : Blk w' x.b (pcells { x with vi := vi, I := I } T n) 68)
    (hr : Row w' 95 2 vi I.length (I.flatMap (encKK .i64 .i64))) (ho : ∀ q, vi.ownBlock = some q → own x .i q ∨ w.heap.size ≤ q) : Pb w0 w' T n { x with vi := vi, I := I } := by
  have hk : ∀ m q, own x m q → m ≠ .i → m ≠ .b → ¬ S q := fun m q hq h1 h2 hs => h.other hq h1 h2 (hS q hs)
  obtain ⟨f1, f2, f3⟩ := h.frame (y := { x with vi := vi, I := I }) .i k hS rfl rfl (fun m q hq => by
    cases m with
    | i => exact (ho q hq).imp id (fun h1 => ⟨rfl, h1, row_lt hr hq⟩)
    | _ => exact Or.inl hq)
  exact { blk := hb, rows := h.rows.kept k (fun g hg => hk .r g hg (by simp) (by simp)), alarms := h.alarms.kept k (fun g hg => hk .a g hg (by simp) (by simp)), is := hr, pl := row_kept h.pl k (fun g hg => hk .p g hg (by simp) (by simp)),
          ct := row_kept h.ct k (fun g hg => hk .g g (by simpa [Value.ownBlock, own, eq_comm] using hg) (by simp) (by simp)), lens := h.lens, sl := fun c v l hc => row_kept (h.sl c v l hc) k (fun g hg => hk (.s c) g ⟨v, l, hc, hg⟩ (by simp) (by simp)),
          ck := fun c a s hc => (h.ck c a s hc).kept k (fun g hg => hk (.k c) g ⟨a, s, hc, hg⟩ (by simp) (by simp)), apart := f1, low := f2, kept := f3 }
/-- a counter's list of alarms is appended to -/
theorem Pb.setS {c : Nat} {v v' : Value} {l l' : List Int} (h : Pb w0 w T n x) (hc : x.S[c]? = some (v, l)) (k : Kept (fun q => v.ownBlock = some q) w w') (hr : Row w' 3 1 v' l'.length (l'.map (Value.int .i64))) (ho : ∀ q, v'.ownBlock = some q → v.ownBlock = some q ∨ w.heap.size ≤ q) :
    Pb w0 (w'.setCell ⟨x.g, c * 2 + 1, none⟩ v') T n { x with S := x.S.set c (v', l') } := by
  have hcl := (List.getElem?_eq_some_iff.1 hc).1
  obtain ⟨hl1, hl2⟩ := h.lens
  have hS : ∀ q, (v.ownBlock = some q ∨ q = x.g) → own x (.s c) q ∨ own x .g q := fun q hq => hq.imp (fun h1 => ⟨v, l, hc, h1⟩) id
  have hk : ∀ m q, own x m q → m ≠ .s c → m ≠ .g → ¬ (v.ownBlock = some q ∨ q = x.g) := fun m q hq h1 h2 hs => by
    rcases hS q hs with e | e
    · exact h1 (h.apart m (.s c) q hq e)
    · exact h2 (h.apart m .g q hq e)
  have k2 : Kept (fun q => v.ownBlock = some q ∨ q = x.g) w (w'.setCell ⟨x.g, c * 2 + 1, none⟩ v') := (k.mono (S' := fun q => v.ownBlock = some q ∨ q = x.g) (fun _ _ h => Or.inl h)).setCell (p := ⟨x.g, c * 2 + 1, none⟩) (Or.inl (Or.inr rfl)) _
  have hgs : ∀ q, v'.ownBlock = some q → q ≠ x.g := fun q hq e => by
    rcases ho q hq with h1 | h1
    · have := h.apart (.s c) .g q ⟨v, l, hc, h1⟩ e; cases this
    · have := (h.low .g q e).2; omega
  have hgv : v.ownBlock ≠ some x.g := fun e => by have := h.apart (.s c) .g x.g ⟨v, l, hc, e⟩ rfl; cases this
  have hr2 : Row (w'.setCell ⟨x.g, c * 2 + 1, none⟩ v') 3 1 v' l'.length (l'.map (Value.int .i64)) := row_setCell_other hr (a := ⟨x.g, c * 2 + 1, none⟩) (fun e => hgs x.g e rfl) _
  have hz := h.kept.size
  have hz2 := k2.size
  have ho2 : ∀ m q, own { x with S := x.S.set c (v', l') } m q → own x m q ∨ (m = .s c ∧ w.heap.size ≤ q ∧ q < (w'.setCell ⟨x.g, c * 2 + 1, none⟩ v').heap.size) := fun m q hq => by
    cases m with
    | s d =>
      obtain ⟨u, j, h1, h2⟩ := hq
      by_cases hd : c = d
      · subst hd
        have h3 : (x.S.set c (v', l'))[c]? = some (u, j) := h1
        rw [List.getElem?_set_self hcl] at h3
        cases h3
        rcases ho q h2 with h4 | h4
        · exact Or.inl ⟨v, l, hc, h4⟩
        · exact Or.inr ⟨rfl, h4, row_lt hr2 h2⟩
      · have h3 : (x.S.set c (v', l'))[d]? = some (u, j) := h1
        rw [List.getElem?_set_ne hd] at h3
        exact Or.inl ⟨u, j, h3, h2⟩
    | _ => exact Or.inl hq
  have hzc : ((x.S.set c (v', l')).zip x.K) = (x.S.zip x.K).set c ((v', l'), x.K[c]'(by omega)) := by
    apply List.ext_getElem
    · simp
    · intro i h1 h2
      rw [List.getElem_zip, List.getElem_set, List.getElem_set]
      by_cases hi : c = i
      · subst hi; simp
      · simp [hi]
  have hzx : (x.S.zip x.K)[c]? = some ((v, l), x.K[c]'(by omega)) := by rw [List.getElem?_zip_eq_some]; exact ⟨hc, List.getElem?_eq_getElem _⟩
  have hct : Row (w'.setCell ⟨x.g, c * 2 + 1, none⟩ v') 87 2 (.slice (some ⟨x.g, 0, none⟩) n n) n (((x.S.set c (v', l')).zip x.K).flatMap encQ) := by
    rw [hzc]
    exact rows_set (enc := encQ) (fun _ => rfl) (row_kept h.ct k (fun g hg e => hgv (by simp [Value.ownBlock] at hg; rw [hg]; exact e))) (i := 1) ((v', l'), x.K[c]'(by omega)) hzx (by omega) rfl
  have g1 : Lv (w'.setCell ⟨x.g, c * 2 + 1, none⟩ v') x.vr 3 (encKKK .u32 .u32 .u32) T.counters := h.rows.kept k2 (fun g hg => hk .r g hg (by simp) (by simp))
  have g2 : Lv (w'.setCell ⟨x.g, c * 2 + 1, none⟩ v') x.va 7 encA T.alarms := h.alarms.kept k2 (fun g hg => hk .a g hg (by simp) (by simp))
  have g3 := row_kept h.pl k2 (fun g hg => hk .p g hg (by simp) (by simp))
  have g4 := row_kept h.is k2 (fun g hg => hk .i g hg (by simp) (by simp))
  have g5 := h.blk.kept k2 (hk .b _ rfl (by simp) (by simp))
  refine ⟨g5, g1, g2, g3, g4, hct, ⟨by rw [List.length_set]; exact hl1, hl2⟩, fun d u j hd => ?_, fun d ka s hd => (h.ck d ka s hd).kept k2 (fun g hg => hk (.k d) g ⟨ka, s, hd, hg⟩ (by simp) (by simp)), fun la m q ha hm => ?_, fun la q ha => ?_, h.kept.then k2 (fun q hq => Or.inr ?_)⟩
  · by_cases hcd : c = d
    · subst hcd
      have h3 : (x.S.set c (v', l'))[c]? = some (u, j) := hd
      rw [List.getElem?_set_self hcl] at h3
      cases h3
      exact hr2
    · have h3 : (x.S.set c (v', l'))[d]? = some (u, j) := hd
      rw [List.getElem?_set_ne hcd] at h3
      exact row_kept (h.sl d u j h3) k2 (fun g hg => hk (.s d) g ⟨u, j, h3, hg⟩ (by simp; exact fun e => hcd e.symm) (by simp))
  · rcases ho2 la q ha with h1 | ⟨rfl, h1, _⟩
    · rcases ho2 m q hm with h2 | ⟨rfl, h2, _⟩
      · exact h.apart la m q h1 h2
      · have := (h.low la q h1).2; omega
    · rcases ho2 m q hm with h2 | ⟨rfl, h2, _⟩
      · have := (h.low m q h2).2; omega
      · rfl
  · rcases ho2 la q ha with h1 | ⟨rfl, h1, h2⟩
    · have := h.low la q h1; omega
    · omega
  · rcases hq with h1 | h1
    · exact (h.low (.s c) q ⟨v, l, hc, h1⟩).1
    · exact (h.low .g q h1).1
/-- a counter gets its clock -/
theorem Pb.setK {c : Nat} {kb : Nat × Value} {cs : Cs} {v : Value} {l : List Int} (h : Pb w0 w T n x) (hc : x.K[c]? = some none) (hv : x.S[c]? = some (v, l)) (k : Kept (fun _ => False) w w') (hk : IsClk w' kb.1 kb.2 cs.mx cs.mn cs.x cs.l) (ho : ∀ q, foot kb.1 kb.2 q → w.heap.size ≤ q) :
    Pb w0 (w'.setCell ⟨x.g, c * 2, none⟩ (.pointer (some ⟨kb.1, 0, none⟩))) T n { x with K := x.K.set c (some (kb, cs)) } := by
  have hcl := (List.getElem?_eq_some_iff.1 hc).1
  obtain ⟨hl1, hl2⟩ := h.lens
  have hp := h.same k
  have kk : ∀ m q, own x m q → m ≠ .g → ¬ (q = x.g) := fun m q hq h2 e => h2 (h.apart m .g q hq e)
  have k2 : Kept (fun q => q = x.g) w' (w'.setCell ⟨x.g, c * 2, none⟩ (.pointer (some ⟨kb.1, 0, none⟩))) := (Kept.refl (fun q => q = x.g) w').setCell (p := ⟨x.g, c * 2, none⟩) (Or.inl rfl) _
  have hfg : ∀ q, foot kb.1 kb.2 q → ¬ (q = x.g) := fun q hq e => by have := ho q hq; have := (h.low .g q e).2; omega
  have hk3 := hk.kept k2 hfg
  have hz := hp.kept.size
  have hz1 := k.size
  have hz2 := k2.size
  have ho2 : ∀ m q, own { x with K := x.K.set c (some (kb, cs)) } m q → own x m q ∨ (m = .k c ∧ w.heap.size ≤ q ∧ q < (w'.setCell ⟨x.g, c * 2, none⟩ (.pointer (some ⟨kb.1, 0, none⟩))).heap.size) := fun m q hq => by
    cases m with
    | k d =>
      obtain ⟨u, j, h1, h2⟩ := hq
      by_cases hd : c = d
      · subst hd
        have h3 : (x.K.set c (some (kb, cs)))[c]? = some (some (u, j)) := h1
        rw [List.getElem?_set_self hcl] at h3
        cases h3
        exact Or.inr ⟨rfl, ho q h2, hk3.lt q h2⟩
      · have h3 : (x.K.set c (some (kb, cs)))[d]? = some (some (u, j)) := h1
        rw [List.getElem?_set_ne hd] at h3
        exact Or.inl ⟨u, j, h3, h2⟩
    | _ => exact Or.inl hq
  have hzc : (x.S.zip (x.K.set c (some (kb, cs)))) = (x.S.zip x.K).set c ((v, l), some (kb, cs)) := by
    apply List.ext_getElem
    · simp
    · intro i h1 h2
      rw [List.getElem_zip, List.getElem_set, List.getElem_set]
      by_cases hi : c = i
      · subst hi
        have := (List.getElem?_eq_some_iff.1 hv).2
        simp [this]
      · simp [hi]
  have hzx : (x.S.zip x.K)[c]? = some ((v, l), none) := by rw [List.getElem?_zip_eq_some]; exact ⟨hv, hc⟩
  have hct : Row (w'.setCell ⟨x.g, c * 2, none⟩ (.pointer (some ⟨kb.1, 0, none⟩))) 87 2 (.slice (some ⟨x.g, 0, none⟩) n n) n ((x.S.zip (x.K.set c (some (kb, cs)))).flatMap encQ) := by
    rw [hzc]
    exact rows_set (enc := encQ) (fun _ => rfl) hp.ct (i := 0) ((v, l), some (kb, cs)) hzx (by omega) rfl
  have g1 : Lv (w'.setCell ⟨x.g, c * 2, none⟩ (.pointer (some ⟨kb.1, 0, none⟩))) x.vr 3 (encKKK .u32 .u32 .u32) T.counters := hp.rows.kept k2 (fun g hg => kk .r g hg (by simp))
  have g2 : Lv (w'.setCell ⟨x.g, c * 2, none⟩ (.pointer (some ⟨kb.1, 0, none⟩))) x.va 7 encA T.alarms := hp.alarms.kept k2 (fun g hg => kk .a g hg (by simp))
  have g3 := row_kept hp.pl k2 (fun g hg => kk .p g hg (by simp))
  have g4 := row_kept hp.is k2 (fun g hg => kk .i g hg (by simp))
  have g5 := hp.blk.kept k2 (kk .b _ rfl (by simp))
  refine ⟨g5, g1, g2, g3, g4, hct, ⟨hl1, by rw [List.length_set]; exact hl2⟩, fun d u j hd => row_kept (hp.sl d u j hd) k2 (fun g hg => kk (.s d) g ⟨u, j, hd, hg⟩ (by simp)), fun d ka s hd => ?_, fun la m q ha hm => ?_, fun la q ha => ?_, hp.kept.then k2 (fun q hq => Or.inr ?_)⟩
  · by_cases hcd : c = d
    · subst hcd
      have h3 : (x.K.set c (some (kb, cs)))[c]? = some (some (ka, s)) := hd
      rw [List.getElem?_set_self hcl] at h3
      cases h3
      exact hk3
    · have h3 : (x.K.set c (some (kb, cs)))[d]? = some (some (ka, s)) := hd
      rw [List.getElem?_set_ne hcd] at h3
      exact (hp.ck d ka s h3).kept k2 (fun g hg => kk (.k d) g ⟨ka, s, h3, hg⟩ (by simp))
  · rcases ho2 la q ha with h1 | ⟨rfl, h1, _⟩
    · rcases ho2 m q hm with h2 | ⟨rfl, h2, _⟩
      · exact h.apart la m q h1 h2
      · have := (h.low la q h1).2; omega
    · rcases ho2 m q hm with h2 | ⟨rfl, h2, _⟩
      · have := (h.low m q h2).2; omega
      · rfl
  · have hz0 := h.kept.size
    rcases ho2 la q ha with h1 | ⟨rfl, h1, h2⟩
    · have := h.low la q h1; omega
    · omega
  · rw [hq]; exact (h.low .g _ rfl).1

/-- the board is made -/
theorem Pb.done {Ks : List ((Nat × Value) × Cs)} (h : Pb w0 w T T.counters.length x) (hP : x.P = placesOf T.alarms) (hI : x.I = T.isrs.map (fun y => (y.cat, y.pr))) (hK : x.K = Ks.map some) (hS : ∀ (c : Nat) (v : Value) (l : List Int), x.S[c]? = some (v, l) → l = alsOf T.alarms c)
    (hn : ∀ (c : Nat) (kb : Nat × Value) (s : Cs) (r : Int × Int × Int), Ks[c]? = some (kb, s) → T.counters[c]? = some r → r.1 = (s.mx : Int) ∧ r.2.2 = (s.mn : Int) ∧ s.l.length = (alsOf T.alarms c).length) :
    IsBd w x.b ⟨x.vr, x.va, x.vp, .slice (some ⟨x.g, 0, none⟩) T.counters.length T.counters.length, x.vi, Ks.map Prod.fst, x.S.map Prod.fst⟩ T (Ks.map Prod.snd) (List.replicate 32 false) ∧
      ∀ q, bfoot x.b ⟨x.vr, x.va, x.vp, .slice (some ⟨x.g, 0, none⟩) T.counters.length T.counters.length, x.vi, Ks.map Prod.fst, x.S.map Prod.fst⟩ q → w0.heap.size ≤ q := by
  obtain ⟨hl1, hl2⟩ := h.lens
  have hKl : Ks.length = T.counters.length := by rw [hK, List.length_map] at hl2; exact hl2
  have hKat : ∀ (c : Nat) (y : (Nat × Value) × Cs), Ks[c]? = some y → x.K[c]? = some (some y) := fun c y hc => by rw [hK, List.getElem?_map, hc]; rfl
  have hfx : ∀ q, fixed ⟨x.vr, x.va, x.vp, .slice (some ⟨x.g, 0, none⟩) T.counters.length T.counters.length, x.vi, Ks.map Prod.fst, x.S.map Prod.fst⟩ q → ∃ lb, own x lb q ∧ lb ≠ .b ∧ ∀ c, lb ≠ .k c := by
    rintro q (hq | hq | hq | hq | hq | ⟨v, hv, hq⟩)
    · exact ⟨.r, hq, by simp, by simp⟩
    · exact ⟨.a, hq, by simp, by simp⟩
    · exact ⟨.p, hq, by simp, by simp⟩
    · exact ⟨.g, by simpa [Value.ownBlock, own, eq_comm] using hq, by simp, by simp⟩
    · exact ⟨.i, hq, by simp, by simp⟩
    · obtain ⟨y, hy, rfl⟩ := List.mem_map.1 hv
      obtain ⟨c, hc⟩ := List.getElem?_of_mem hy
      exact ⟨.s c, ⟨y.1, y.2, hc, hq⟩, by simp, by simp⟩
  have hkf : ∀ y ∈ Ks.map Prod.fst, ∀ q, foot y.1 y.2 q → ∃ c s, Ks[c]? = some (y, s) ∧ own x (.k c) q := by
    intro y hy q hq
    obtain ⟨z, hz, rfl⟩ := List.mem_map.1 hy
    obtain ⟨c, hc⟩ := List.getElem?_of_mem hz
    exact ⟨c, z.2, hc, z.1, z.2, hKat c _ hc, hq⟩
  refine ⟨{ blk := h.blk, n32 := by simp, rows := h.rows, alarms := h.alarms, places := ?_, ctrs := ?_, isrs := ?_, lens := ⟨by simpa using hKl, by simpa using hl1, by simpa using hKl⟩, clk := ?_, nums := ?_, sls := ?_, apart := ?_, fix := ?_, nb := ?_ }, ?_⟩
  · obtain ⟨ao, c, e, _⟩ := row_any h.pl
    have e' : x.vp = .slice ao x.P.length c := e
    refine ⟨ao, c, by show x.vp = _; rw [e', hP], ?_⟩
    rw [← hP]
    refine camel_of_row (enc := encK .i64) (e := 3) (c := c) (fun _ => rfl) ?_
    have hf : x.P.flatMap (encK .i64) = x.P.map (Value.int .i64) := by
      have : ∀ l : List Int, l.flatMap (encK .i64) = l.map (Value.int .i64) := by intro l; induction l with | nil => rfl | cons a l ih => rw [List.flatMap_cons, ih]; rfl
      exact this _
    rw [hf, ← e']
    exact h.pl
  · refine ⟨some ⟨x.g, 0, none⟩, T.counters.length, ?_, ?_⟩
    · rw [List.length_zip]; simp [hKl, hl1]
    · have he : ((Ks.map Prod.fst).zip (x.S.map Prod.fst)).flatMap encN = (x.S.zip x.K).flatMap encQ := by
        rw [hK]
        have : ∀ (A : List ((Nat × Value) × Cs)) (B : List (Value × List Int)), ((A.map Prod.fst).zip (B.map Prod.fst)).flatMap encN = (B.zip (A.map some)).flatMap encQ := by
          intro A
          induction A with
          | nil => intro B; cases B <;> rfl
          | cons a A ih =>
            intro B
            cases B with
            | nil => rfl
            | cons b B => simp only [List.map_cons, List.zip_cons_cons, List.flatMap_cons, ih]; rfl
        exact this _ _
      have hlz : ((Ks.map Prod.fst).zip (x.S.map Prod.fst)).length = T.counters.length := by rw [List.length_zip]; simp [hKl, hl1]
      refine camel_of_row (enc := encN) (e := 87) (c := T.counters.length) (fun _ => rfl) ?_
      rw [he, hlz]
      exact h.ct
  · obtain ⟨ao, c, e, _⟩ := row_any h.is
    have e' : x.vi = .slice ao x.I.length c := e
    refine ⟨ao, c, by show x.vi = _; rw [e', hI], ?_⟩
    rw [← hI]
    refine camel_of_row (enc := encKK .i64 .i64) (e := 95) (c := c) (fun _ => rfl) ?_
    rw [← e']
    exact h.is
  · intro c s cb h1 h2
    rw [List.getElem?_map] at h1 h2
    cases hy : Ks[c]? with
    | none => rw [hy] at h1; cases h1
    | some y =>
      rw [hy] at h1 h2
      cases h1; cases h2
      exact h.ck c y.1 y.2 (hKat c y hy)
  · intro c s r h1 h2
    rw [List.getElem?_map] at h1
    cases hy : Ks[c]? with
    | none => rw [hy] at h1; cases h1
    | some y =>
      rw [hy] at h1
      cases h1
      exact hn c y.1 y.2 r hy h2
  · intro c v h1
    rw [List.getElem?_map] at h1
    cases hy : x.S[c]? with
    | none => rw [hy] at h1; cases h1
    | some y =>
      rw [hy] at h1
      cases h1
      have hr := h.sl c y.1 y.2 hy
      have hl := hS c y.1 y.2 hy
      obtain ⟨ao, cc, e, _⟩ := row_any hr
      refine ⟨ao, cc, by rw [← hl]; exact e, ?_⟩
      rw [← hl]
      refine camel_of_row (enc := encK .i64) (e := 3) (c := cc) (fun _ => rfl) ?_
      have hf : ∀ l : List Int, l.flatMap (encK .i64) = l.map (Value.int .i64) := by intro l; induction l with | nil => rfl | cons a l ih => rw [List.flatMap_cons, ih]; rfl
      rw [hf, ← e]
      exact hr
  · intro c d u z h1 h2 hcd q hq hq2
    rw [List.getElem?_map] at h1 h2
    cases hy : Ks[c]? with
    | none => rw [hy] at h1; cases h1
    | some y =>
      cases hy2 : Ks[d]? with
      | none => rw [hy2] at h2; cases h2
      | some y2 =>
        rw [hy] at h1; rw [hy2] at h2
        cases h1; cases h2
        have := h.apart (.k c) (.k d) q ⟨y.1, y.2, hKat c y hy, hq⟩ ⟨y2.1, y2.2, hKat d y2 hy2, hq2⟩
        cases this
        exact hcd rfl
  · intro q hq
    obtain ⟨lb, hlb, hb1, hb2⟩ := hfx q hq
    refine ⟨fun e => hb1 (h.apart lb .b q hlb e), (h.low lb q hlb).2, fun y hy hf => ?_⟩
    obtain ⟨c, s, _, hk⟩ := hkf y hy q hf
    exact hb2 c (h.apart lb (.k c) q hlb hk)
  · intro y hy hf
    obtain ⟨c, s, _, hk⟩ := hkf y hy x.b hf
    have := h.apart (.k c) .b x.b hk rfl
    cases this
  · rintro q (rfl | hq | ⟨y, hy, hq⟩)
    · exact (h.low .b _ rfl).1
    · obtain ⟨lb, hlb, _⟩ := hfx q hq
      exact (h.low lb q hlb).1
    · obtain ⟨c, s, _, hk⟩ := hkf y hy q hq
      exact (h.low (.k c) q hk).1
end
end Go.Proofs.Ytemhfonneggneaa.BD
namespace Go.Proofs.Ytemhfonneggneaa.BD
open Go.RowKit Go.Fr Go.Tb
open Go.Proofs.Ytemhfonneggneaa.CK (IsClk foot)

def bare (vr va : Value) (m : Int) : List Value := [vr, va, .slice none 0 0, .slice none 0 0, .int .i64 m, .slice none 0 0] ++ ((List.replicate 32 false).map Value.bool ++ [.bool true])
def noC (n : Nat) : List Value := (List.replicate n (((Value.slice none 0 0, []), none) : (Value × List Int) × Option ((Nat × Value) × Cs))).flatMap encQ
def made (w : World) (vr va : Value) (m : Int) (n : Nat) : World :=
  ((w.alloc (.cells (bare vr va m).toArray 68)).alloc (.cells (noC n).toArray 87)).setCell ⟨w.heap.size, 3, none⟩ (.slice (some ⟨w.heap.size + 1, 0, none⟩) n n)

theorem pb_new {w0 w : World} {T : Tb} {n : Nat} {vr va : Value} (hr : Lv w vr 3 (encKKK .u32 .u32 .u32) T.counters) (ha : Lv w va 7 encA T.alarms)
    (or : ∀ g, vr.ownBlock = some g → w0.heap.size ≤ g ∧ g < w.heap.size) (oa : ∀ g, va.ownBlock = some g → w0.heap.size ≤ g ∧ g < w.heap.size) (hap : ∀ g, vr.ownBlock = some g → va.ownBlock = some g → False) (k : Kept (fun _ => False) w0 w) (hn : n ≤ 16) :
    Pb w0 (made w vr va T.modes n) T n ⟨w.heap.size, w.heap.size + 1, vr, va, .slice none 0 0, .slice none 0 0, [], [], List.replicate n (.slice none 0 0, []), List.replicate n none⟩ := by
  have kk : Kept (fun _ => False) w (made w vr va T.modes n) := (((Kept.refl _ w).alloc _).alloc _).setCell (p := ⟨w.heap.size, 3, none⟩) (Or.inr (Nat.le_refl _)) _
  have hsz : (made w vr va T.modes n).heap.size = w.heap.size + 2 := by unfold made; rw [World.size_setCell, World.size_alloc, World.size_alloc]
  have hzs := k.size
  have nb : Blk (made w vr va T.modes n) w.heap.size (pcells ⟨w.heap.size, w.heap.size + 1, vr, va, .slice none 0 0, .slice none 0 0, [], [], List.replicate n (.slice none 0 0, []), List.replicate n none⟩ T n) 68 :=
    ((Blk.new w (bare vr va T.modes) 68).alloc _).set 3 _
  have hl : (noC n).length = n * 2 := by unfold noC; rw [flat_length (show ∀ y, (encQ y).length = 2 from fun _ => rfl)]; simp
  have hz : (List.replicate n ((Value.slice none 0 0, []) : Value × List Int)).zip (List.replicate n (none : Option ((Nat × Value) × Cs))) = List.replicate n ((Value.slice none 0 0, []), none) := by
    induction n with
    | zero => rfl
    | succ n _ => exact List.zip_replicate' ..
  have hct : Row (made w vr va T.modes n) 87 2 (.slice (some ⟨w.heap.size + 1, 0, none⟩) n n) n (noC n) := by
    have h := row_new (w.alloc (.cells (bare vr va T.modes).toArray 68)) 87 2 n (noC n) hl (by unfold maxLen; omega)
    rw [World.size_alloc] at h
    exact row_setCell_other h (a := ⟨w.heap.size, 3, none⟩) (by simp [Value.ownBlock]) _
  have key : ∀ (l : Lb) (q : Nat), own ⟨w.heap.size, w.heap.size + 1, vr, va, .slice none 0 0, .slice none 0 0, [], [], List.replicate n (.slice none 0 0, []), List.replicate n none⟩ l q →
      (l = .b ∧ q = w.heap.size) ∨ (l = .g ∧ q = w.heap.size + 1) ∨ (l = .r ∧ vr.ownBlock = some q) ∨ (l = .a ∧ va.ownBlock = some q) := by
    intro l q h
    cases l with
    | b => exact Or.inl ⟨rfl, h⟩
    | g => exact Or.inr (Or.inl ⟨rfl, h⟩)
    | r => exact Or.inr (Or.inr (Or.inl ⟨rfl, h⟩))
    | a => exact Or.inr (Or.inr (Or.inr ⟨rfl, h⟩))
    | p => cases h
    | i => cases h
    | s c =>
      obtain ⟨v, l, h1, h2⟩ := h
      obtain ⟨h1, _⟩ := Prod.mk.inj (List.eq_of_mem_replicate (List.mem_of_getElem? h1))
      subst h1; cases h2
    | k c =>
      obtain ⟨v, l, h1, h2⟩ := h
      have h1 := List.eq_of_mem_replicate (List.mem_of_getElem? h1)
      cases h1
  refine ⟨nb, hr.same kk, ha.same kk, World.ownsRow_nil _ _ _ _, World.ownsRow_nil _ _ _ _, ?_, ⟨by simp, by simp⟩, fun c v l h => ?_, fun c kb s h => ?_, fun l m q h1 h2 => ?_, fun l q h => ?_, k.then kk (fun _ x => x.elim)⟩
  · show Row _ _ 2 _ n ((List.zip _ _).flatMap encQ)
    rw [hz]; exact hct
  · obtain ⟨h1, h2⟩ := Prod.mk.inj (List.eq_of_mem_replicate (List.mem_of_getElem? h))
    subst h1 h2
    exact World.ownsRow_nil _ _ _ _
  · have h1 := List.eq_of_mem_replicate (List.mem_of_getElem? h)
    cases h1
  · rcases key l q h1 with ⟨rfl, e⟩ | ⟨rfl, e⟩ | ⟨rfl, e⟩ | ⟨rfl, e⟩ <;> rcases key m q h2 with ⟨rfl, f⟩ | ⟨rfl, f⟩ | ⟨rfl, f⟩ | ⟨rfl, f⟩ <;> first
      | rfl
      | (exfalso; omega)
      | (exfalso; have := or q e; omega)
      | (exfalso; have := oa q e; omega)
      | (exfalso; have := or q f; omega)
      | (exfalso; have := oa q f; omega)
      | exact (hap q e f).elim
      | exact (hap q f e).elim
  · rw [hsz]
    rcases key l q h with ⟨rfl, e⟩ | ⟨rfl, e⟩ | ⟨rfl, e⟩ | ⟨rfl, e⟩
    · omega
    · omega
    · have := or q e; omega
    · have := oa q e; omega
section
variable {w0 w w' : World} {T : Tb} {n : Nat} {x : Pt}
theorem Pb.ctr {c : Nat} {v : Value} {l : List Int} {o : Option ((Nat × Value) × Cs)} (h : Pb w0 w T n x) (hc : x.S[c]? = some (v, l)) (hk : x.K[c]? = some o) :
    w.cell? ⟨x.g, c * 2 + 1, none⟩ = some v ∧ w.frozen? ⟨x.g, c * 2 + 1, none⟩ = false ∧ w.frozen? ⟨x.g, c * 2, none⟩ = false ∧ (∃ u, w.cell? ⟨x.g, c * 2, none⟩ = some u) ∧ Row w 3 1 v l.length (l.map (Value.int .i64)) := by
  have hz : (x.S.zip x.K)[c]? = some ((v, l), o) := by rw [List.getElem?_zip_eq_some]; exact ⟨hc, hk⟩
  have hl : (x.S.zip x.K).length = n := by rw [List.length_zip, h.lens.1, h.lens.2, Nat.min_self]
  have hr := h.ct
  have hcm : CameL w 2 encQ (some ⟨x.g, 0, none⟩) (x.S.zip x.K) := camel_of_row (enc := encQ) (e := 87) (c := n) (fun _ => rfl) (by rw [hl]; exact hr)
  obtain ⟨b, off, e, _, hcl⟩ := camel_at hcm hz
  cases e
  have e1 := hcl 1 _ rfl
  have e0 := hcl 0 _ rfl
  simp only [Nat.zero_add, Nat.add_zero] at e0 e1
  exact ⟨e1, row_frozen hr _, row_frozen hr _, ⟨_, e0⟩, h.sl c v l hc⟩
/-- the store behind an append to the places -/
theorem Pb.appP {w7 : World} {vp : Value} {P : List Int} (h : Pb w0 w T n x) (kc : Kept (fun g => x.vp.ownBlock = some g) w w7) (hr : Row w7 3 1 vp P.length (P.map (Value.int .i64))) (ho : ∀ q, vp.ownBlock = some q → x.vp.ownBlock = some q ∨ w.heap.size ≤ q) :
    Pb w0 (w7.setCell ⟨x.b, 2, none⟩ vp) T n { x with vp := vp, P := P } ∧ Blk w7 x.b (pcells x T n) 68 := by
  have hb := h.blk.kept kc (fun e => by have := h.apart .p .b _ e rfl; cases this)
  refine ⟨h.setP (S := fun q => x.vp.ownBlock = some q ∨ q = x.b) ((kc.mono (S' := fun q => x.vp.ownBlock = some q ∨ q = x.b) (fun _ _ e => Or.inl e)).setCell (p := ⟨x.b, 2, none⟩) (Or.inl (Or.inr rfl)) _) (fun q hq => hq.symm) (hb.set 2 _) (row_setCell_other hr (fun e => ?_) _) ho, hb⟩
  rcases ho _ e with e | e
  · have := h.apart .p .b _ e rfl; cases this
  · have := (h.low .b _ rfl).2; exact absurd this (by simpa using e)
theorem Pb.appI {w7 : World} {vi : Value} {I : List (Int × Int)} (h : Pb w0 w T n x) (kc : Kept (fun g => x.vi.ownBlock = some g) w w7) (hr : Row w7 95 2 vi I.length (I.flatMap (encKK .i64 .i64))) (ho : ∀ q, vi.ownBlock = some q → x.vi.ownBlock = some q ∨ w.heap.size ≤ q) :
    Pb w0 (w7.setCell ⟨x.b, 5, none⟩ vi) T n { x with vi := vi, I := I } ∧ Blk w7 x.b (pcells x T n) 68 := by
  have hb := h.blk.kept kc (fun e => by have := h.apart .i .b _ e rfl; cases this)
  refine ⟨h.setI (S := fun q => x.vi.ownBlock = some q ∨ q = x.b) ((kc.mono (S' := fun q => x.vi.ownBlock = some q ∨ q = x.b) (fun _ _ e => Or.inl e)).setCell (p := ⟨x.b, 5, none⟩) (Or.inl (Or.inr rfl)) _) (fun q hq => hq.symm) (hb.set 5 _) (row_setCell_other hr (fun e => ?_) _) ho, hb⟩
  rcases ho _ e with e | e
  · have := h.apart .i .b _ e rfl; cases this
  · have := (h.low .b _ rfl).2; exact absurd this (by simpa using e)
end
end Go.Proofs.Ytemhfonneggneaa.BD
