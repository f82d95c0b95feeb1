/- tappetlaw18: a table and the document's, both made by the law itself; two such pairs. -/
import Derived.Test.YtallbbjmfcohfaaTskM
namespace Go.Proofs.Ytallbbjmfcohfaa.L
open Go.RowKit Go.Fr Go.Proofs.Ytallbbjmfcohfaa.TK

structure GotAt (n0 : Nat) (w wr : World) (s b : Nat) (v vr vs vn : Value) (run : Int) (l : List Tk) : Prop where
  both : Both wr s b v vr vs vn run l
  ge : ∀ i, feet s b v vr vs vn i → n0 ≤ i
  below : Below n0 w wr

def Got (n0 : Nat) (w wr : World) (s b : Nat) : Prop := ∃ v vr vs vn run l, GotAt n0 w wr s b v vr vs vn run l

section
variable {n0 : Nat} {w wr : World} {s b : Nat} {v vr vs vn : Value} {run : Int} {l : List Tk}

theorem GotAt.size (h : GotAt n0 w wr s b v vr vs vn run l) : n0 ≤ wr.heap.size := by
  have := h.ge s (Or.inl (Or.inl rfl))
  have := h.both.lt s (Or.inl (Or.inl rfl))
  omega
theorem GotAt.kept {w' : World} {S : Nat → Prop} (h : GotAt n0 w wr s b v vr vs vn run l) (k : Kept S wr w') (hS : ∀ i, S i → n0 ≤ i) (hn : ∀ i, feet s b v vr vs vn i → ¬ S i) : GotAt n0 w w' s b v vr vs vn run l :=
  ⟨h.both.kept k hn, h.ge, h.below.trans (k.below h.size hS)⟩
theorem GotAt.same {w' : World} (h : GotAt n0 w wr s b v vr vs vn run l) (k : Kept (fun _ => False) wr w') : GotAt n0 w w' s b v vr vs vn run l := h.kept k (fun _ h => h.elim) (fun _ _ h => h)
theorem Got.below (h : Got n0 w wr s b) : Below n0 w wr := by obtain ⟨v, vr, vs, vn, run, l, h⟩ := h; exact h.below
theorem Got.same {w' : World} (h : Got n0 w wr s b) (k : Kept (fun _ => False) wr w') : Got n0 w w' s b := by obtain ⟨v, vr, vs, vn, run, l, h⟩ := h; exact ⟨_, _, _, _, _, _, h.same k⟩

theorem got_told (hG : Got n0 w wr s b) :
    Calls Try.prog 24 #[.pointer (some ⟨s, 0, none⟩), .pointer (some ⟨b, 0, none⟩)] wr fun e w' => e = .returned (.bool true) ∧ Got n0 w w' s b := by
  have hG0 := hG
  obtain ⟨v, vr, vs, vn, run, l, hG⟩ := hG
  refine (told_ok (tells_ok hG.both.hs) hG.both.hr hG.both.ok).mono ?_
  rintro e w' ⟨rfl, k⟩
  exact ⟨rfl, hG0.same k⟩
theorem got_play (k x : Int) (hG : Got n0 w wr s b) :
    Calls Try.prog 28 #[.pointer (some ⟨s, 0, none⟩), .pointer (some ⟨b, 0, none⟩), .agg #[.int .i64 k, .int .i64 x]] wr fun e w' => e = .returned (.bool true) ∧ Got n0 w w' s b := by
  obtain ⟨v, vr, vs, vn, run, l, hG⟩ := hG
  refine (play_ok k x hG.both).mono ?_
  rintro e w' ⟨rfl, run', l', hB, hk⟩
  exact ⟨rfl, v, vr, vs, vn, run', l', hB, hG.ge, hG.below.trans (hk.below hG.size hG.ge)⟩

/-- between a table's copying and its end -/
structure GapAt (n0 : Nat) (w wr : World) (s c b : Nat) (ov v vr vs vn : Value) (orun : Int) (ol : List Tk) (run : Int) (l : List Tk) : Prop where
  old : IsTk wr s ov orun ol
  ook : Ok orun ol
  got : GotAt n0 w wr c b v vr vs vn run l
  o0 : ∀ i, foot s ov i → n0 ≤ i
  dis : ∀ i, foot s ov i → feet c b v vr vs vn i → False
def Gap (n0 : Nat) (w wr : World) (s c b : Nat) : Prop := ∃ ov v vr vs vn orun ol run l, GapAt n0 w wr s c b ov v vr vs vn orun ol run l
theorem Gap.got {c : Nat} (h : Gap n0 w wr s c b) : Got n0 w wr c b := by obtain ⟨ov, v, vr, vs, vn, orun, ol, run, l, h⟩ := h; exact ⟨_, _, _, _, _, _, h.got⟩
theorem GapAt.step {c : Nat} {w' : World} {ov : Value} {orun orun' : Int} {ol ol' : List Tk} (h : GapAt n0 w wr s c b ov v vr vs vn orun ol run l) (h1 : IsTk w' s ov orun' ol') (h2 : Ok orun' ol') (k : Kept (foot s ov) wr w') : Gap n0 w w' s c b :=
  ⟨ov, v, vr, vs, vn, orun', ol', run, l, h1, h2, h.got.kept k h.o0 (fun i hi e => h.dis i e hi), h.o0, h.dis⟩
theorem gap_reset {c : Nat} (hG : Gap n0 w wr s c b) : Calls Try.prog 26 #[.pointer (some ⟨s, 0, none⟩)] wr fun e w' => e = .returned (.tuple #[]) ∧ Gap n0 w w' s c b := by
  obtain ⟨ov, v, vr, vs, vn, orun, ol, run, l, h⟩ := hG
  refine (reset_ok h.old).mono ?_
  rintro e w' ⟨rfl, h1, k⟩
  exact ⟨rfl, h.step h1 (rs_ok _ h.ook) k⟩
theorem gap_act {c : Nat} (i : Int) (hG : Gap n0 w wr s c b) : Calls Try.prog 12 #[.pointer (some ⟨s, 0, none⟩), .int .i64 i] wr fun e w' => (∃ r, e = .returned r) ∧ Gap n0 w w' s c b := by
  obtain ⟨ov, v, vr, vs, vn, orun, ol, run, l, h⟩ := hG
  refine (act_all i h.old h.ook).mono ?_
  rintro e w' ⟨rfl, h1, k⟩
  exact ⟨⟨_, rfl⟩, h.step h1 (h.ook.act i) k⟩
theorem gap_start {c : Nat} (i : Int) (hG : Gap n0 w wr s c b) : Calls Try.prog 13 #[.pointer (some ⟨s, 0, none⟩), .int .i64 i] wr fun e w' => (∃ r, e = .returned r) ∧ Gap n0 w w' s c b := by
  obtain ⟨ov, v, vr, vs, vn, orun, ol, run, l, h⟩ := hG
  refine (start_all i h.old).mono ?_
  rintro e w' ⟨rfl, h1, k⟩
  exact ⟨⟨_, rfl⟩, h.step h1 (h.ook.start i) k⟩
theorem got_copy (hG : Got n0 w wr s b) : Calls Try.prog 25 #[.pointer (some ⟨s, 0, none⟩)] wr fun e w' => ∃ c, e = .returned (.pointer (some ⟨c, 0, none⟩)) ∧ Gap n0 w w' s c b := by
  obtain ⟨v, vr, vs, vn, run, l, hG⟩ := hG
  have z := hG.both.lt
  have hz := hG.size
  refine (copy_ok hG.both.hs).mono ?_
  rintro e w' ⟨c, v', rfl, h1, h2, k⟩
  have hB := hG.both.kept k (fun _ _ h => h)
  refine ⟨c, rfl, v, v', vr, vs, vn, run, l, run, l, hB.hs, hB.ok, ⟨⟨h1, hB.hr, hB.ok, fun i hi e => ?_⟩, ?_, hG.below.trans (k.below hz (fun _ h => h.elim))⟩, fun i hi => hG.ge i (Or.inl hi), ?_⟩
  · have := h2 i hi; have := z i (Or.inr e); omega
  · rintro i (hi | hi)
    · have := h2 i hi; omega
    · exact hG.ge i (Or.inr hi)
  · rintro i hi (e | e)
    · have := h2 i e; have := z i (Or.inl hi); omega
    · exact hB.dis i hi e
theorem got_copy_ref (hG : Got n0 w wr s b) : Calls Try.prog 27 #[.pointer (some ⟨b, 0, none⟩)] wr fun e w' => ∃ c, e = .returned (.pointer (some ⟨c, 0, none⟩)) ∧ Got n0 w w' s c := by
  obtain ⟨v, vr, vs, vn, run, l, hG⟩ := hG
  have z := hG.both.lt
  have hz := hG.size
  refine (TR.copy_ok hG.both.hr).mono ?_
  rintro e w' ⟨c, vr', vs', vn', rfl, h1, h2, k⟩
  have hB := hG.both.kept k (fun _ _ h => h)
  refine ⟨c, rfl, v, vr', vs', vn', run, l, ⟨hB.hs, h1, hB.ok, fun i hi e => ?_⟩, ?_, hG.below.trans (k.below hz (fun _ h => h.elim))⟩
  · have := h2 i e; have := z i (Or.inl hi); omega
  · rintro i (hi | hi)
    · exact hG.ge i (Or.inl hi)
    · have := h2 i hi; omega
theorem got_new (h1 : IsTk wr s v run l) (h2 : TR.IsRef wr b vr vs vn true l) (ho : Ok run l) (f1 : ∀ i, foot s v i → n0 ≤ i) (f2 : ∀ i, TR.foot b vr vs vn i → n0 ≤ i) (hd : ∀ i, foot s v i → TR.foot b vr vs vn i → False) (hb : Below n0 w wr) : GotAt n0 w wr s b v vr vs vn run l :=
  ⟨⟨h1, h2, ho, hd⟩, fun i hi => hi.elim (f1 i) (f2 i), hb⟩
end

def Two (n0 : Nat) (w wr : World) (s b s' b' : Nat) : Prop := ∃ v vr vs vn run l v' vr' vs' vn' run' l', GotAt n0 w wr s b v vr vs vn run l ∧ GotAt n0 w wr s' b' v' vr' vs' vn' run' l' ∧ ∀ i, feet s b v vr vs vn i → feet s' b' v' vr' vs' vn' i → False

section
variable {n0 : Nat} {w wr : World} {s b s' b' : Nat}
theorem Two.swap (h : Two n0 w wr s b s' b') : Two n0 w wr s' b' s b := by
  obtain ⟨v, vr, vs, vn, run, l, v', vr', vs', vn', run', l', h1, h2, h3⟩ := h
  exact ⟨_, _, _, _, _, _, _, _, _, _, _, _, h2, h1, fun i a b => h3 i b a⟩
theorem Two.got (h : Two n0 w wr s b s' b') : Got n0 w wr s b := by
  obtain ⟨v, vr, vs, vn, run, l, v', vr', vs', vn', run', l', h1, h2, h3⟩ := h
  exact ⟨_, _, _, _, _, _, h1⟩
theorem Two.below (h : Two n0 w wr s b s' b') : Below n0 w wr := h.got.below
theorem two_play (k x : Int) (hG : Two n0 w wr s b s' b') :
    Calls Try.prog 28 #[.pointer (some ⟨s, 0, none⟩), .pointer (some ⟨b, 0, none⟩), .agg #[.int .i64 k, .int .i64 x]] wr fun e w' => e = .returned (.bool true) ∧ Two n0 w w' s b s' b' := by
  obtain ⟨v, vr, vs, vn, run, l, v', vr', vs', vn', run', l', h1, h2, h3⟩ := hG
  refine (play_ok k x h1.both).mono ?_
  rintro e w' ⟨rfl, run2, l2, hB, hk⟩
  exact ⟨rfl, v, vr, vs, vn, run2, l2, _, _, _, _, _, _, ⟨hB, h1.ge, h1.below.trans (hk.below h1.size h1.ge)⟩, h2.kept hk h1.ge (fun i hi e => h3 i e hi), h3⟩
theorem two_told (hG : Two n0 w wr s b s' b') :
    Calls Try.prog 24 #[.pointer (some ⟨s, 0, none⟩), .pointer (some ⟨b, 0, none⟩)] wr fun e w' => e = .returned (.bool true) ∧ Two n0 w w' s b s' b' := by
  obtain ⟨v, vr, vs, vn, run, l, v', vr', vs', vn', run', l', h1, h2, h3⟩ := hG
  refine (told_ok (tells_ok h1.both.hs) h1.both.hr h1.both.ok).mono ?_
  rintro e w' ⟨rfl, k⟩
  exact ⟨rfl, _, _, _, _, _, _, _, _, _, _, _, _, h1.same k, h2.same k, h3⟩

/-- a table is copied, the document's not yet -/
def Mid (n0 : Nat) (w wr : World) (s b c : Nat) : Prop := ∃ v vr vs vn run l u, GotAt n0 w wr s b v vr vs vn run l ∧ IsTk wr c u run l ∧ (∀ i, foot c u i → n0 ≤ i) ∧ ∀ i, foot c u i → feet s b v vr vs vn i → False
theorem mid_copy (hG : Got n0 w wr s b) : Calls Try.prog 25 #[.pointer (some ⟨s, 0, none⟩)] wr fun e w' => ∃ c, e = .returned (.pointer (some ⟨c, 0, none⟩)) ∧ Mid n0 w w' s b c := by
  obtain ⟨v, vr, vs, vn, run, l, hG⟩ := hG
  have z := hG.both.lt
  have hz := hG.size
  refine (copy_ok hG.both.hs).mono ?_
  rintro e w' ⟨c, u, rfl, h1, h2, k⟩
  exact ⟨c, rfl, v, vr, vs, vn, run, l, u, hG.same k, h1, fun i hi => Nat.le_trans hz (h2 i hi), fun i hi e => by have := h2 i hi; have := z i e; omega⟩
theorem mid_ref {c : Nat} (hG : Mid n0 w wr s b c) : Calls Try.prog 27 #[.pointer (some ⟨b, 0, none⟩)] wr fun e w' => ∃ d, e = .returned (.pointer (some ⟨d, 0, none⟩)) ∧ Two n0 w w' s b c d := by
  obtain ⟨v, vr, vs, vn, run, l, u, hG, hc, h0, hd⟩ := hG
  have z := hG.both.lt
  have hz := hG.size
  have zc := hc.lt
  refine (TR.copy_ok hG.both.hr).mono ?_
  rintro e w' ⟨d, vr', vs', vn', rfl, h1, h2, k⟩
  refine ⟨d, rfl, v, vr, vs, vn, run, l, u, vr', vs', vn', run, l, hG.same k, ⟨⟨hc.kept k (fun _ _ h => h), h1, hG.both.ok, fun i hi e => ?_⟩, ?_, hG.below.trans (k.below hz (fun _ h => h.elim))⟩, ?_⟩
  · have := h2 i e; have := zc i hi; omega
  · rintro i (hi | hi)
    · exact h0 i hi
    · have := h2 i hi; omega
  · rintro i hi (e | e)
    · exact hd i e hi
    · have := h2 i e; have := z i hi; omega
end

/-- a thing of a list of pairs, where the code reads it -/
theorem elem_pair {w wr : World} {ao : Option Addr} {l : List (Int × Int)} (hc : CameL w 2 (encKK .i64 .i64) ao l) (hb : Below w.heap.size w wr) {k : Nat} {x y : Int} (hx : l[k]? = some (x, y)) :
    ∃ ab off, ao = some ⟨ab, off, none⟩ ∧ ab < w.heap.size ∧ wr.cell? ⟨ab, off + k * 2, none⟩ = some (.int .i64 x) ∧ wr.cell? ⟨ab, off + k * 2 + 1, none⟩ = some (.int .i64 y) := by
  obtain ⟨ab, off, rfl, hab, hcl⟩ := hc (by rintro rfl; simp at hx)
  refine ⟨ab, off, rfl, hab, ?_, ?_⟩
  · rw [hb.cell (by exact hab)]; simpa using hcl k _ hx 0 _ rfl
  · rw [hb.cell (by exact hab)]; simpa using hcl k _ hx 1 _ rfl
theorem pair_at {l : List (Int × Int)} {k : Nat} (hk : k < l.length) : ∃ x y, l[k]? = some (x, y) := ⟨_, _, List.getElem?_eq_getElem hk⟩
theorem cells_pair {w wr : World} {ab off : Nat} {l : List (Int × Int)} (hc : CameL w 2 (encKK .i64 .i64) (some ⟨ab, off, none⟩) l) (hb : Below w.heap.size w wr) {k : Nat} {x y : Int} (hx : l[k]? = some (x, y)) :
    wr.cell? ⟨ab, off + k * 2, none⟩ = some (.int .i64 x) ∧ wr.cell? ⟨ab, off + k * 2 + 1, none⟩ = some (.int .i64 y) := by
  obtain ⟨ab', off', e, _, h1, h2⟩ := elem_pair hc hb hx
  cases e
  exact ⟨h1, h2⟩
end Go.Proofs.Ytallbbjmfcohfaa.L
