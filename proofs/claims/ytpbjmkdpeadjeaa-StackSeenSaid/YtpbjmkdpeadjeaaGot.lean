/- tappetlaw14: a stack and the document's, both made by the law itself (above all that was there before). -/
import Derived.Test.YtpbjmkdpeadjeaaPlay
namespace Go.Proofs.Ytpbjmkdpeadjeaa.L
open Go.RowKit Go.Fr Go.Proofs.Ytpbjmkdpeadjeaa.SI Go.Proofs.Ytpbjmkdpeadjeaa.RS

structure GotAt (n0 : Nat) (w wr : World) (s b D : Nat) (v v' : Value) (h : Int) (l : List Int) : Prop where
  both : Both wr s b D v v' h l
  s0 : ∀ i, foot s v i → n0 ≤ i
  b0 : ∀ i, foot b v' i → n0 ≤ i
  below : Below n0 w wr

def Got (n0 : Nat) (w wr : World) (s b D : Nat) : Prop := ∃ v v' h l, GotAt n0 w wr s b D v v' h l

theorem Got.below {n0 : Nat} {w wr : World} {s b D : Nat} (hG : Got n0 w wr s b D) : Below n0 w wr := by
  obtain ⟨v, v', h, l, hG⟩ := hG; exact hG.below
theorem Got.size {n0 : Nat} {w wr : World} {s b D : Nat} (hG : Got n0 w wr s b D) : n0 ≤ wr.heap.size := by
  obtain ⟨v, v', h, l, hG⟩ := hG
  have := hG.s0 s (Or.inl rfl)
  have := stk_lt hG.both.hs s (Or.inl rfl)
  omega

theorem Got.kept {n0 : Nat} {w wr w' : World} {s b D : Nat} (hG : Got n0 w wr s b D) (k : Kept (fun _ => False) wr w') : Got n0 w w' s b D := by
  have hz := hG.size
  obtain ⟨v, v', h, l, hG⟩ := hG
  exact ⟨v, v', h, l, hG.both.kept k (fun _ _ h => h) (fun _ _ h => h), hG.s0, hG.b0, hG.below.trans (k.below hz (fun _ h => h.elim))⟩

theorem got_told {n0 : Nat} {w wr : World} {s b D : Nat} (hG : Got n0 w wr s b D) :
    Calls Try.prog 30 #[.pointer (some ⟨s, 0, none⟩), .pointer (some ⟨b, 0, none⟩)] wr fun e w' => e = .returned (.bool true) ∧ Got n0 w w' s b D := by
  have hG0 := hG
  obtain ⟨v, v', h, l, hG⟩ := hG
  refine (told_ok hG.both).mono ?_
  rintro e w' ⟨rfl, k⟩
  exact ⟨rfl, hG0.kept k⟩

theorem got_play {n0 : Nat} {w wr : World} {s b D : Nat} (k x : Int) (hG : Got n0 w wr s b D) :
    Calls Try.prog 27 #[.pointer (some ⟨s, 0, none⟩), .pointer (some ⟨b, 0, none⟩), .agg #[.int .i64 k, .int .i64 x]] wr fun e w' => e = .returned (.bool true) ∧ Got n0 w w' s b D := by
  have hz := hG.size
  obtain ⟨v, v', h, l, hG⟩ := hG
  refine (play_ok k x hG.both).mono ?_
  rintro e w' ⟨rfl, u, u', h', l', hB, hk, f1, f2⟩
  exact ⟨rfl, u, u', h', l', hB, fun i hi => (f1 i hi).elim (hG.s0 i) (fun h => by omega), fun i hi => (f2 i hi).elim (hG.b0 i) (fun h => by omega), hG.below.trans (hk.below hz (fun i hi => hi.elim (hG.s0 i) (hG.b0 i)))⟩

/-- a stack that is written once more and then let go -/
def Old (w : World) (s : Nat) (v : Value) (D : Nat) : Prop := ∃ h l, IsStk w s v D h l ∧ l.length ≤ D ∧ (l.length : Int) ≤ h

theorem old_push {w : World} {s D : Nat} {v : Value} (x : Int) (ho : Old w s v D) (hD : D ≤ 1024) : Calls Try.prog 22 #[.pointer (some ⟨s, 0, none⟩), .int .i64 x] w fun e w' =>
    ∃ r v', e = .returned r ∧ Old w' s v' D ∧ Kept (foot s v) w w' ∧ (∀ i, foot s v' i → foot s v i ∨ w.heap.size ≤ i) := by
  obtain ⟨h, l, hs, hl, hh⟩ := ho
  by_cases hd : D ≤ l.length
  · refine (SI.push_full x hs (by omega) hh).mono ?_
    rintro e w' ⟨rfl, h1, h2⟩
    exact ⟨_, v, rfl, ⟨h, l, h1, hl, hh⟩, h2, fun _ h => Or.inl h⟩
  · refine (SI.push_room x hs (by omega) (by omega)).mono ?_
    rintro e w' ⟨rfl, v', h1, h2, h3⟩
    refine ⟨_, v', rfl, ⟨_, _, h1, by simp; omega, ?_⟩, h2, h3⟩
    unfold mxi; simp; split <;> omega

theorem old_cut {w : World} {s D : Nat} {v : Value} (ho : Old w s v D) : Calls Try.prog 23 #[.pointer (some ⟨s, 0, none⟩), .int .i64 0] w fun e w' =>
    ∃ r v', e = .returned r ∧ Old w' s v' D ∧ Kept (foot s v) w w' ∧ (∀ i, foot s v' i → foot s v i ∨ w.heap.size ≤ i) := by
  obtain ⟨h, l, hs, hl, hh⟩ := ho
  refine (stk_cut 0 hs).mono ?_
  rintro e w' ⟨ao, c, v', rfl, h1, h2, h3, _, _⟩
  have := cutL_le l 0
  exact ⟨_, v', rfl, ⟨h, _, h1, by omega, by omega⟩, h3, fun i hi => Or.inl (by unfold foot at hi ⊢; rwa [h2] at hi)⟩

/-- between a stack's copying and its end -/
structure GapAt (n0 : Nat) (w wr : World) (s c b D : Nat) (vs v v' : Value) (h : Int) (l : List Int) : Prop where
  old : Old wr s vs D
  got : GotAt n0 w wr c b D v v' h l
  o0 : ∀ i, foot s vs i → n0 ≤ i
  d1 : Dis (foot s vs) (foot c v)
  d2 : Dis (foot s vs) (foot b v')

def Gap (n0 : Nat) (w wr : World) (s c b D : Nat) : Prop := ∃ vs v v' h l, GapAt n0 w wr s c b D vs v v' h l

theorem Old.lt {w : World} {s D : Nat} {v : Value} (h : Old w s v D) : ∀ i, foot s v i → i < w.heap.size := by
  obtain ⟨_, _, h, _⟩ := h; exact stk_lt h

theorem Gap.got {n0 : Nat} {w wr : World} {s c b D : Nat} (h : Gap n0 w wr s c b D) : Got n0 w wr c b D := by
  obtain ⟨vs, v, v', h, l, hG⟩ := h; exact ⟨v, v', h, l, hG.got⟩

theorem Gap.step {n0 : Nat} {w wr w' : World} {s c b D : Nat} {vs v v' vs' : Value} {h : Int} {l : List Int} (hG : GapAt n0 w wr s c b D vs v v' h l) (ho : Old w' s vs' D) (hk : Kept (foot s vs) wr w') (hf : ∀ i, foot s vs' i → foot s vs i ∨ wr.heap.size ≤ i) : Gap n0 w w' s c b D := by
  have z1 := stk_lt hG.got.both.hs
  have z2 := hG.got.both.hr.lt
  have hz : n0 ≤ wr.heap.size := Got.size ⟨v, v', h, l, hG.got⟩
  exact ⟨vs', v, v', h, l, ho, ⟨hG.got.both.kept hk (fun i hi e => hG.d1 i e hi) (fun i hi e => hG.d2 i e hi), hG.got.s0, hG.got.b0, hG.got.below.trans (hk.below hz hG.o0)⟩,
    fun i hi => (hf i hi).elim (hG.o0 i) (fun h => by omega), hG.d1.upd hf z1, hG.d2.upd hf z2⟩

theorem gap_push {n0 : Nat} {w wr : World} {s c b D : Nat} (x : Int) (hG : Gap n0 w wr s c b D) :
    Calls Try.prog 22 #[.pointer (some ⟨s, 0, none⟩), .int .i64 x] wr fun e w' => ∃ r, e = .returned r ∧ Gap n0 w w' s c b D := by
  obtain ⟨vs, v, v', h, l, hG⟩ := hG
  refine (old_push x hG.old hG.got.both.top).mono ?_
  rintro e w' ⟨r, v', rfl, h1, h2, h3⟩
  exact ⟨r, rfl, Gap.step hG h1 h2 h3⟩

theorem gap_cut {n0 : Nat} {w wr : World} {s c b D : Nat} (hG : Gap n0 w wr s c b D) :
    Calls Try.prog 23 #[.pointer (some ⟨s, 0, none⟩), .int .i64 0] wr fun e w' => ∃ r, e = .returned r ∧ Gap n0 w w' s c b D := by
  obtain ⟨vs, v, v', h, l, hG⟩ := hG
  refine (old_cut hG.old).mono ?_
  rintro e w' ⟨r, v', rfl, h1, h2, h3⟩
  exact ⟨r, rfl, Gap.step hG h1 h2 h3⟩

theorem got_copy {n0 : Nat} {w wr : World} {s b D : Nat} (hG : Got n0 w wr s b D) :
    Calls Try.prog 31 #[.pointer (some ⟨s, 0, none⟩)] wr fun e w' => ∃ c, e = .returned (.pointer (some ⟨c, 0, none⟩)) ∧ Gap n0 w w' s c b D := by
  have hz := hG.size
  obtain ⟨v, v', h, l, hG⟩ := hG
  have z1 := stk_lt hG.both.hs
  have z2 := hG.both.hr.lt
  refine (SI.copy_ok hG.both.hs).mono ?_
  rintro e w' ⟨c, u, rfl, h1, h2, h3⟩
  have hB := hG.both.kept h3 (fun _ _ h => h) (fun _ _ h => h)
  exact ⟨c, rfl, v, u, v', h, l, ⟨h, l, hB.hs, hB.room, hB.high⟩, ⟨⟨h1, hB.hr, fun i hi e => by have := h2 i hi; have := z2 i e; omega, hB.room, hB.high, hB.top⟩, fun i hi => Nat.le_trans hz (h2 i hi), hG.b0, hG.below.trans (h3.below hz (fun _ h => h.elim))⟩,
    hG.s0, fun i hi e => by have := h2 i e; have := z1 i hi; omega, hG.both.dis⟩

theorem got_copy_ref {n0 : Nat} {w wr : World} {s b D : Nat} (hG : Got n0 w wr s b D) :
    Calls Try.prog 32 #[.pointer (some ⟨b, 0, none⟩)] wr fun e w' => ∃ c, e = .returned (.pointer (some ⟨c, 0, none⟩)) ∧ Got n0 w w' s c D := by
  have hz := hG.size
  obtain ⟨v, v', h, l, hG⟩ := hG
  have z1 := stk_lt hG.both.hs
  refine (RS.copy_ok hG.both.hr).mono ?_
  rintro e w' ⟨c, u, rfl, h1, h2, h3⟩
  have hB := hG.both.kept h3 (fun _ _ h => h) (fun _ _ h => h)
  exact ⟨c, rfl, v, u, h, l, ⟨hB.hs, h1, fun i hi e => by have := h2 i e; have := z1 i hi; omega, hB.room, hB.high, hB.top⟩, hG.s0, fun i hi => Nat.le_trans hz (h2 i hi), hG.below.trans (h3.below hz (fun _ h => h.elim))⟩

theorem got_new {n0 : Nat} {w w2 : World} {s b : Nat} {D : Nat} (hD : D ≤ 1024) (hn : n0 ≤ s) (hb : n0 ≤ b) (hsb : s < b) (h1 : IsStk w2 s (.slice none 0 0) D 0 []) (h2 : IsRef w2 b (.slice none 0 0) true D 0 []) (hb : Below n0 w w2) : Got n0 w w2 s b D := by
  have f : ∀ {b i : Nat}, foot b (.slice none 0 0) i → i = b := by rintro b i (h | h); exact h; simp [Value.ownBlock] at h
  exact ⟨_, _, 0, [], ⟨h1, h2, fun i e e' => by have := f e; have := f e'; omega, by simp, by simp, hD⟩, fun i e => by have := f e; omega, fun i e => by have := f e; omega, hb⟩

/-- a thing of a list of pairs, where the code reads it -/
theorem elem_pair {w wr : World} {ao : Option Addr} {l : List (Int × Int)} (hc : CameL w 2 (encKK .i64 .i64) ao l) (hb : Below w.heap.size w wr) {k : Nat} {x y : Int} (hx : l[k]? = some (x, y)) :
    ∃ ab off, ao = some ⟨ab, off, none⟩ ∧ ab < w.heap.size ∧ wr.cell? ⟨ab, off + k * 2, none⟩ = some (.int .i64 x) ∧ wr.cell? ⟨ab, off + k * 2 + 1, none⟩ = some (.int .i64 y) := by
  obtain ⟨ab, off, rfl, hab, hcl⟩ := hc (by rintro rfl; simp at hx)
  refine ⟨ab, off, rfl, hab, ?_, ?_⟩
  · rw [hb.cell (by exact hab)]; simpa using hcl k _ hx 0 _ rfl
  · rw [hb.cell (by exact hab)]; simpa using hcl k _ hx 1 _ rfl
theorem pair_at {l : List (Int × Int)} {k : Nat} (hk : k < l.length) : ∃ x y, l[k]? = some (x, y) := ⟨_, _, List.getElem?_eq_getElem hk⟩
/-- the same, where the block and the place are known -/
theorem cells_pair {w wr : World} {ab off : Nat} {l : List (Int × Int)} (hc : CameL w 2 (encKK .i64 .i64) (some ⟨ab, off, none⟩) l) (hb : Below w.heap.size w wr) {k : Nat} {x y : Int} (hx : l[k]? = some (x, y)) :
    wr.cell? ⟨ab, off + k * 2, none⟩ = some (.int .i64 x) ∧ wr.cell? ⟨ab, off + k * 2 + 1, none⟩ = some (.int .i64 y) := by
  obtain ⟨ab', off', e, _, h1, h2⟩ := elem_pair hc hb hx
  cases e
  exact ⟨h1, h2⟩
end Go.Proofs.Ytpbjmkdpeadjeaa.L
