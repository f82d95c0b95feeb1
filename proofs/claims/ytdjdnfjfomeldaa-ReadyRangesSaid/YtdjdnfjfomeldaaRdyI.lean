/- A range over an iterator that itself ranges over iterators: it leaves marks of its own behind, so what the caller carries must bear the turn of a block that is no cells and that was laid since the call; and the loop's variable may lie in a box of its own. The law of the statement over such a contract (its proof goes the road of the library's law for the plainer contract). No program is in sight here. -/
import Derived.Test.YtdjdnfjfomeldaaIter
namespace Go.Fr
open Go.RowKit
variable {F : Fence} {n : Nat} {P : Program}

/-- the marks from B on lie as they lay -/
def Marks (B : Nat) (A C : World) : Prop := ∀ (k : Nat) (ds : Option (List Deferred)), B ≤ k → A.heap[k]? = some (Obj.deferred ds) → C.heap[k]? = some (Obj.deferred ds)
theorem Marks.trans {B : Nat} {A C D : World} (h : Marks B A C) (k : Marks B C D) : Marks B A D := fun i ds hb hi => k i ds hb (h i ds hb hi)
theorem Marks.kept {B : Nat} {A C : World} (h : Kept (fun _ => False) A C) : Marks B A C := fun _ _ _ hi => (h.block _ (Array.getElem?_eq_some_iff.1 hi).1 (fun x => x)).trans hi
theorem Marks.putObj {B l : Nat} {A : World} {o o' : Obj} (hl : A.heap[l]? = some o) (ho : ∀ ds, o ≠ .deferred ds) : Marks B A (A.putObj l o') := fun i ds _ hi => (World.putObj_heap_other (fun e => by subst e; rw [hl] at hi; cases hi; exact ho ds rfl)).trans hi
theorem Marks.from {B m : Nat} {A C : World} (h : KeepsFrom m A C) (hm : m ≤ B) : Marks B A C := fun i _ hb hi => h.same i _ (by omega) hi rfl

/-- the contract of an iterator that may lay and shut marks of its own -/
def SeqStopsW {α : Type} (F : Fence) (n : Nat) (P : Program) (g : Nat) (lb : Array Value) (encs : α → Array Value) (Kp : World → World → Prop) (S Sp : List α → Prop) (N : Nat) (w : World) : Prop :=
  ∀ (l : Nat) (J Jx : List α → World → Prop) (W : World), Below w.heap.size w W → OwnFrom W.heap.size J → OwnFrom W.heap.size Jx →
    (∀ pre x W1, J pre W1 → pre.length < N → YieldAt F (n - 1) P l (encs x) W1 fun e W' =>
      Marks W.heap.size W1 W' ∧ ((e = .returned (.bool true) ∧ J (pre ++ [x]) W' ∧ Kp W1 W') ∨ (e = .returned (.bool false) ∧ Jx (pre ++ [x]) W'))) →
    J [] W →
    CallsIn F n P g (#[.func (.yield l) #[] #[]] ++ lb) W fun e W' => (∃ v, e = .returned v) ∧ ((∃ xs, S xs ∧ J xs W') ∨ (∃ pre, Sp pre ∧ Jx pre W'))

/-- a block that is no cells and lies ahead of B lies as it lay -/
theorem grown_low {A B : World} {row : Option Nat} {m k : Nat} {o : Obj} (h : A.grownBy B row) (hr : ∀ r, row = some r → m ≤ r ∧ ∃ o : Obj, A.heap[r]? = some o ∧ o.isCells = false) (hk : k < m) (ho : A.heap[k]? = some o) : B.heap[k]? = some o :=
  (h.block k (Array.getElem?_eq_some_iff.1 ho).1 (fun e => by have := (hr k e.symm).1; omega)).trans ho

theorem wpIn_range_own {α : Type} {g : Operand} {ps : Array Tmp} {assign body : Code} {Q : Exit → Act → World → Prop} {a : Act} {w : World}
    (hro : F.round = none) (h1 : 1 ≤ n) {gf : Nat} {lb : Array Value} (hg : a.eval g = .func (.func gf) #[] lb) (hFg : F.fn gf) (eg : ∀ args w, (callFunc gf args).run P w = .ok (.enter gf args) w)
    {encs : α → Array Value} {Kp : World → World → Prop} {S Sp : List α → Prop} {N : Nat} {w0 : World} (hseq : SeqStopsW F (n - 1) P gf lb encs Kp S Sp N w0)
    (hKt : ∀ {A B C : World}, Kp A B → Kp B C → Kp A C) (hKb : ∀ (W : World) (l : Nat) (r : Loop) (o' : Obj), w.heap.size ≤ l → W.heap[l]? = some (.loop r) → Kp W (W.putObj l o')) (hKk : ∀ W W', w.heap.size ≤ W.heap.size → Kept (fun _ => False) W W' → Kp W W')
    (hb0 : Below w0.heap.size w0 w) (hps : ∀ x, (encs x).size = ps.size)
    (I : List α → World → Prop) (Ix : Code → List α → World → Prop) (hI : OwnFrom w.heap.size I) (hIx : ∀ c, OwnFrom w.heap.size (Ix c)) (h0 : I [] w) (Ax : α → Act → World → Prop) (hAx : ∀ x a', OwnFrom w.heap.size (fun (_ : Unit) W => Ax x a' W))
    (hassign : ∀ (l : Nat) (x : α) (W : World) (K : Act → World → Prop), (∀ a' W', Kept (fun _ => False) W W' → Ax x a' W' → K a' W') →
      assign.wpIn (F.inRound l) (n - 1 - 1) P (Exit.then K (fun _ _ _ => False)) { tmps := (ps.zip (encs x)).foldl (fun t (p, v) => t.setIfInBounds p v) a.tmps, defers := [] } W)
    (hbody : ∀ (l : Nat) (pre : List α) (x : α) (a' : Act) (W : World), I pre W → Ax x a' W → pre.length < N → body.wpIn (F.inRound l) (n - 1 - 1) P (ownPostG w.heap.size Kp I Ix (pre ++ [x]) W) a' W)
    (hdone : ∀ (D : Nat) (xs : List α) (W : World), w.heap.size ≤ D → S xs → I xs W → W.heap[D]? = some (.deferred (some [])) → Q .normal { a with defers := { target := .collected D, args := #[] } :: a.defers } W)
    (hstop : ∀ (D : Nat) (c : Code) (pre : List α) (W : World), w.heap.size ≤ D → Sp pre → Ix c pre W → W.heap[D]? = some (.deferred (some [])) → c.wpIn F n P Q { a with defers := { target := .collected D, args := #[] } :: a.defers } W) :
    (Code.rangeFunc g ps assign body).wpIn F n P Q a w := by
  refine wpIn_rangeFunc ?_
  intro fn hfn
  rw [hro]
  obtain ⟨m, hm⟩ : ∃ m, w.heap.size = m := ⟨_, rfl⟩
  obtain ⟨rec, hrec⟩ : ∃ rec : LoopState → Option Code → Loop, rec = fun st pe => { state := st, pending := pe, fn, tmps := a.tmps, params := ps, assign, body, defers := m } := ⟨_, rfl⟩
  obtain ⟨Wa, hWa⟩ : ∃ Wa, w.alloc (.deferred (some [])) = Wa := ⟨_, rfl⟩
  obtain ⟨Wb, hWb⟩ : ∃ Wb, Wa.alloc (.loop (rec .ready none)) = Wb := ⟨_, rfl⟩
  have hza : Wa.heap.size = m + 1 := by rw [← hWa, World.size_alloc, hm]
  have hzb : Wb.heap.size = m + 2 := by rw [← hWb, World.size_alloc, hza]
  have hL : Wb.heap[m + 1]? = some (.loop (rec .ready none)) := by rw [← hWb, ← hza]; exact World.alloc_heap_new _ _
  have hD : Wb.heap[m]? = some (.deferred (some [])) := by
    rw [← hWb]
    refine (Below.heap_alloc _ _ _ (by omega)).trans ?_
    rw [← hWa, ← hm]
    exact World.alloc_heap_new _ _
  have hIb : I [] Wb := by rw [← hWb, ← hWa]; exact hI.alloc _ (hI.alloc _ h0)
  have hbb : Below w0.heap.size w0 Wb := by
    rw [← hWb, ← hWa]
    exact hb0.trans ((((Below.refl _ w).alloc (Nat.le_refl _) _).alloc (by simp) _).mono hb0.size)
  rw [hm] at hI hIx hAx hKb hKk hbody hdone hstop
  refine ⟨m + 1, [{ target := .collected m, args := #[] }], Wb, { target := .fn (.func gf) lb, args := #[.func (.yield (m + 1)) #[] #[]] }, Wb, gf, #[.func (.yield (m + 1)) #[] #[]] ++ lb, Wb, ?_, ?_, ?_, ?_, fun _ => h1, ?_⟩
  · rw [← hWb, ← hWa, hrec, ← hm]; exact run_enterLoop_outer _ _ _ _ _
  · simp only [resolve, hg]
    simp [go_sem]
  · intro f' hf'; simp [Target.leads] at hf'; subst hf'; exact hFg
  · simp [invoke, go_sem, eg]
  have hwide : ∀ {A : World} {row : Option Nat}, (∀ r, row = some r → Wb.heap.size ≤ r ∧ ∃ o : Obj, A.heap[r]? = some o ∧ o.isCells = false) → ∀ r, row = some r → m ≤ r ∧ ∃ o : Obj, A.heap[r]? = some o ∧ o.isCells = false :=
    fun hr r e => ⟨by have := (hr r e).1; omega, (hr r e).2⟩
  refine (hseq (m + 1)
    (fun pre W => I pre W ∧ W.heap[m + 1]? = some (.loop (rec .ready none)) ∧ W.heap[m]? = some (.deferred (some [])))
    (fun pre W => ∃ c, Ix c pre W ∧ W.heap[m + 1]? = some (.loop (rec .done (some c))) ∧ W.heap[m]? = some (.deferred (some [])))
    Wb hbb
    (fun s A B row hs hg' hr => ⟨hI s A B row hs.1 hg' (hwide hr), grown_low hg' hr (by omega) hs.2.1, grown_low hg' hr (by omega) hs.2.2⟩)
    (fun s A B row hs hg' hr => by
      obtain ⟨c, h2, h3, h4⟩ := hs
      exact ⟨c, hIx c s A B row h2 hg' (hwide hr), grown_low hg' hr (by omega) h3, grown_low hg' hr (by omega) h4⟩)
    ?_ ⟨hIb, hL, hD⟩).mono ?_
  · rintro pre x W ⟨hi, hl, hd⟩ hlen
    have hlt : m + 1 < W.heap.size := (Array.getElem?_eq_some_iff.1 hl).1
    have hy := run_yield (P := P) (args := encs x) hl (by rw [hrec]; exact hps x)
    rw [hrec] at hy
    refine ⟨fn, _, assign, body, hy, roundIn_of_wpIn hfn (hassign _ x W _ ?_)⟩
    intro a' X hkX hax0
    have hiX : I pre X := hI _ _ _ none hi (grownBy_of_kept hkX) (fun r e => by cases e)
    have hlX : X.heap[m + 1]? = some (.loop (rec .ready none)) := (hkX.block _ (Array.getElem?_eq_some_iff.1 hl).1 (fun h => h)).trans hl
    have hdX : X.heap[m]? = some (.deferred (some [])) := (hkX.block _ (Array.getElem?_eq_some_iff.1 hd).1 (fun h => h)).trans hd
    have hltX : m + 1 < X.heap.size := (Array.getElem?_eq_some_iff.1 hlX).1
    refine ⟨_, run_beginRound hlX (by rw [hrec]), ?_⟩
    obtain ⟨Y, hY⟩ : ∃ Y, X.putObj (m + 1) (.loop { rec .ready none with state := .busy }) = Y := ⟨_, rfl⟩
    rw [hY]
    have hlY : Y.heap[m + 1]? = some (.loop { rec .ready none with state := .busy }) := by rw [← hY]; exact World.putObj_heap_same hltX
    have hdY : Y.heap[m]? = some (.deferred (some [])) := by rw [← hY]; exact (World.putObj_heap_other (by omega)).trans hdX
    have hKY : Kp X Y := by rw [← hY]; exact hKb _ _ _ _ (by omega) hlX
    have hiY : I pre Y := by rw [← hY]; exact hI.putObj _ hiX (by omega) hlX rfl
    have hax : Ax x a' Y := by rw [← hY]; exact (hAx x a').putObj (s := ()) _ hax0 (by omega) hlX rfl
    refine wpIn_mono (hbody _ pre x a' Y hiY hax hlen) ?_
    have fin : ∀ (jump : Option Code) (Z : World), KeepsFrom m Y Z → ∃ Z', (Instr.endRound (m + 1) jump).run P Z = .ok (.bool jump.isNone) Z' ∧ Z' = Z.putObj (m + 1) (.loop (rec (if jump.isNone then .ready else .done) jump)) ∧
        Z.heap[m + 1]? = some (.loop { rec .ready none with state := .busy }) ∧ Z'.heap[m + 1]? = some (.loop (rec (if jump.isNone then .ready else .done) jump)) ∧ Z'.heap[m]? = some (.deferred (some [])) := fun jump Z hk => by
      have hlZ := hk.same _ _ (by omega) hlY rfl
      have hrun := run_endRound (P := P) jump hlZ
      refine ⟨_, ?_, rfl, hlZ, World.putObj_heap_same (Array.getElem?_eq_some_iff.1 hlZ).1, (World.putObj_heap_other (by omega)).trans (hk.same _ _ (Nat.le_refl _) hdY rfl)⟩
      rw [hrec] at hrun ⊢
      exact hrun
    have hmk : ∀ (jump : Option Code) (Z : World), KeepsFrom m Y Z → Z.heap[m + 1]? = some (.loop { rec .ready none with state := .busy }) → Marks Wb.heap.size W (Z.putObj (m + 1) (.loop (rec (if jump.isNone then .ready else .done) jump))) := fun jump Z hk hl3 =>
      ((Marks.kept hkX).trans ((by rw [← hY]; exact Marks.putObj hlX (fun ds e => by cases e)) : Marks Wb.heap.size X Y)).trans ((Marks.from hk (by omega)).trans (Marks.putObj hl3 (fun ds e => by cases e)))
    rintro e a3 Z hp
    cases e with
    | normal =>
      obtain ⟨hk, hkp, hi3⟩ := hp
      obtain ⟨Z', hr, hZ', hl3, hl4, hd4⟩ := fin none Z hk
      refine ⟨_, _, hr, by rw [hZ']; exact hmk none Z hk hl3, .inl ⟨rfl, ⟨?_, hl4, hd4⟩, ?_⟩⟩
      · rw [hZ']; exact hI.putObj _ hi3 (by omega) hl3 rfl
      · rw [hZ']; exact hKt (hKt (hKt (hKk _ _ (by have := (Array.getElem?_eq_some_iff.1 hl).1; omega) hkX) hKY) hkp) (hKb _ _ _ _ (by omega) hl3)
    | ret =>
      obtain ⟨Z', hr, hZ', hl3, hl4, hd4⟩ := fin (some .ret) Z hp.1
      refine ⟨_, _, hr, by rw [hZ']; exact hmk (some .ret) Z hp.1 hl3, .inr ⟨rfl, .ret, ?_, hl4, hd4⟩⟩
      rw [hZ']; exact (hIx _).putObj _ hp.2 (by omega) hl3 rfl
    | exit id =>
      obtain ⟨Z', hr, hZ', hl3, hl4, hd4⟩ := fin (some (.exit id)) Z hp.1
      refine ⟨_, _, hr, by rw [hZ']; exact hmk (some (.exit id)) Z hp.1 hl3, .inr ⟨rfl, .exit id, ?_, hl4, hd4⟩⟩
      rw [hZ']; exact (hIx _).putObj _ hp.2 (by omega) hl3 rfl
    | goto t =>
      obtain ⟨Z', hr, hZ', hl3, hl4, hd4⟩ := fin (some (.goto t)) Z hp.1
      refine ⟨_, _, hr, by rw [hZ']; exact hmk (some (.goto t)) Z hp.1 hl3, .inr ⟨rfl, .goto t, ?_, hl4, hd4⟩⟩
      rw [hZ']; exact (hIx _).putObj _ hp.2 (by omega) hl3 rfl
    | panic ch => exact hp.elim
    | outgrown => exact hp.elim
  · rintro e Z ⟨⟨v, rfl⟩, (⟨xs, hS, hi, hl, hd⟩ | ⟨pre, hSp, c, hi, hl, hd⟩)⟩
    · exact ⟨none, _, by have := run_endLoop (P := P) hl (by rw [hrec]; simp); rw [hrec] at this; exact this, hdone _ xs _ (Nat.le_refl _) hS (hI.putObj _ hi (by omega) hl rfl) ((World.putObj_heap_other (by omega)).trans hd)⟩
    · exact ⟨some c, _, by have := run_endLoop (P := P) hl (by rw [hrec]; simp); rw [hrec] at this; exact this, hstop _ c pre _ (Nat.le_refl _) hSp ((hIx c).putObj _ hi (by omega) hl rfl) ((World.putObj_heap_other (by omega)).trans hd)⟩

/-- leaving over marks that no call hangs on -/
def coll (D : Nat) : Deferred := { target := .collected D, args := #[] }
theorem leaves_marks {fn : Func} {tmps : Array Value} {R : Ending → World → Prop} {m : Nat} (K : World → Prop) (hK : ∀ (W : World) (D : Nat), m ≤ D → W.heap[D]? = some (.deferred (some [])) → K W → K (W.putObj D (.deferred none)))
    (hR : ∀ W, K W → LeavesIn F n P fn tmps R [] .returning W) : ∀ (Ds : List Nat) (W : World), Ds.Nodup → (∀ D ∈ Ds, m ≤ D ∧ W.heap[D]? = some (.deferred (some []))) → K W → LeavesInM F n P fn tmps R (Ds.map coll) .returning W
  | [], W, _, _, h => hR W h
  | D :: Ds, W, hn, hd, h => by
    obtain ⟨h1, h2⟩ := hd D (by simp)
    have h3 := List.nodup_cons.1 hn
    refine ⟨by simp, .inl ⟨D, _, rfl, run_takeDeferred h2, leaves_marks K hK hR Ds _ h3.2 (fun E hE => ⟨(hd E (by simp [hE])).1, ?_⟩) (hK _ _ h1 h2 h)⟩⟩
    exact (World.putObj_heap_other (fun e => h3.1 (by rw [← e]; exact hE))).trans (hd E (by simp [hE])).2

/-- ONE ROUND 'out = append(out, x)', out A BOXED SLICE of things of whatever size -/
theorem box_roundN {W w1 : World} {B n m c c' sz : Nat} {ao ao' : Option Addr} {t e te : TypeId} {xs xs' cs : List Value} (h1 : Blk W B [.slice ao n c] t) (h2 : Row W e sz (.slice ao n c) n xs) (hown : (Value.slice ao n c).ownBlock ≠ some B)
    (r1 : Row w1 e sz (.slice ao' m c') m xs') (r2 : (W.alloc (.cells cs.toArray te)).grownBy w1 (Value.slice ao n c).ownBlock)
    (r3 : ∀ g, (Value.slice ao' m c').ownBlock = some g → (Value.slice ao n c).ownBlock = some g ∨ W.heap.size + 1 ≤ g) :
    Blk (w1.setCell ⟨B, 0, none⟩ (.slice ao' m c')) B [.slice ao' m c'] t ∧ Row (w1.setCell ⟨B, 0, none⟩ (.slice ao' m c')) e sz (.slice ao' m c') m xs' ∧
    Kept (ftBox B W) W (w1.setCell ⟨B, 0, none⟩ (.slice ao' m c')) ∧ Keeps (ftBox B) W (w1.setCell ⟨B, 0, none⟩ (.slice ao' m c')) ∧ (∀ N, KeepsFrom N W (w1.setCell ⟨B, 0, none⟩ (.slice ao' m c'))) := by
  have hb1 := blk_after r2 (h1.alloc (.cells cs.toArray te)) rfl hown
  have hlt := h1.lt
  have hne : (Value.slice ao' m c').ownBlock ≠ some B := fun e => (r3 B e).elim hown (fun h => by omega)
  have hb2 := hb1.set 0 (.slice ao' m c')
  have K1 : Kept (ftBox B W) W (w1.setCell ⟨B, 0, none⟩ (.slice ao' m c')) :=
    (((Kept.refl (ftBox B W) W).alloc _).grown r2 (fun k hk => Or.inl (Or.inr ⟨_, h1.cell 0 rfl, hk⟩))).set (b := B) 0 (Or.inl (Or.inl rfl)) _
  refine ⟨hb2, row_setCell_other r1 (a := ⟨B, 0, none⟩) hne _, K1, K1.keeps (fun _ h => h) ?_, K1.others ?_⟩
  · rintro k (rfl | ⟨v, hv, hk⟩)
    · exact Or.inl (Or.inl rfl)
    · have hc := hb2.cell 0 rfl
      rw [hc] at hv
      cases hv
      rcases r3 k hk with h | h
      · exact Or.inl (Or.inr ⟨_, h1.cell 0 rfl, h⟩)
      · exact Or.inr (by omega)
  · rintro k _ (rfl | ⟨v, hv, hk⟩)
    · exact h1.isCells
    · have hc := h1.cell 0 rfl
      rw [hc] at hv
      cases hv
      exact row_isCells h2 hk
end Go.Fr
