/- tappetlaw16: a clock and the document's, both made by the law itself; two such pairs. -/
import Derived.Test.YtialldmepphloaaCkC
namespace Go.Proofs.Ytialldmepphloaa.L
open Go.RowKit Go.Fr Go.Proofs.Ytialldmepphloaa.CK

structure GotAt (n0 : Nat) (w wr : World) (s b : Nat) (v u : Value) (nm : ByteArray) (bs m n x : Nat) (l : List (Bool × Nat × Nat)) : Prop where
  both : Both wr s b v u nm bs m n x l
  ge : ∀ i, feet s b v u i → n0 ≤ i
  below : Below n0 w wr

def Got (n0 : Nat) (w wr : World) (s b : Nat) : Prop := ∃ v u nm bs m n x l, GotAt n0 w wr s b v u nm bs m n x l

section
variable {n0 : Nat} {w wr : World} {s b : Nat} {v u : Value} {nm : ByteArray} {bs m n x : Nat} {l : List (Bool × Nat × Nat)}

theorem GotAt.size (h : GotAt n0 w wr s b v u nm bs m n x l) : n0 ≤ wr.heap.size := by
  have := h.ge s (Or.inl (Or.inl rfl))
  have := h.both.lt s (Or.inl (Or.inl rfl))
  omega
theorem GotAt.kept {w' : World} {S : Nat → Prop} (h : GotAt n0 w wr s b v u nm bs m n x l) (k : Kept S wr w') (hS : ∀ i, S i → n0 ≤ i) (hn : ∀ i, feet s b v u i → ¬ S i) : GotAt n0 w w' s b v u nm bs m n x l :=
  ⟨h.both.kept k hn, h.ge, h.below.trans (k.below h.size hS)⟩
theorem GotAt.same {w' : World} (h : GotAt n0 w wr s b v u nm bs m n x l) (k : Kept (fun _ => False) wr w') : GotAt n0 w w' s b v u nm bs m n x l := h.kept k (fun _ h => h.elim) (fun _ _ h => h)
theorem Got.below (h : Got n0 w wr s b) : Below n0 w wr := by obtain ⟨v, u, nm, bs, m, n, x, l, h⟩ := h; exact h.below
theorem Got.same {w' : World} (h : Got n0 w wr s b) (k : Kept (fun _ => False) wr w') : Got n0 w w' s b := by obtain ⟨v, u, nm, bs, m, n, x, l, h⟩ := h; exact ⟨_, _, _, _, _, _, _, _, h.same k⟩

theorem got_told (hG : Got n0 w wr s b) :
    Calls Try.prog 32 #[.pointer (some ⟨s, 0, none⟩), .pointer (some ⟨b, 0, none⟩)] wr fun e w' => e = .returned (.bool true) ∧ Got n0 w w' s b := by
  have hG0 := hG
  obtain ⟨v, u, nm, bs, m, n, x, l, hG⟩ := hG
  refine (told_ok hG.both.hs hG.both.hr).mono ?_
  rintro e w' ⟨rfl, k⟩
  exact ⟨rfl, hG0.same k⟩
theorem got_play (k i : Int) (t cy : Nat) (hi : (Lit.int .i64 i).wf = true) (ht : t ≤ 4294967295) (hcy : cy ≤ 4294967295) (hG : Got n0 w wr s b) :
    Calls Try.prog 31 #[.pointer (some ⟨s, 0, none⟩), .pointer (some ⟨b, 0, none⟩), .agg #[.int .i64 k, .int .i64 i, .int .u32 t, .int .u32 cy]] wr fun e w' => e = .returned (.bool true) ∧ Got n0 w w' s b := by
  obtain ⟨v, u, nm, bs, m, n, x, l, hG⟩ := hG
  have hz := hG.size
  refine (play_ok k i t cy hi ht hcy hG.both).mono ?_
  rintro e w' ⟨rfl, u', nm', bs', m', n', x', l', hB, hk, hf⟩
  exact ⟨rfl, v, u', nm', bs', m', n', x', l', hB, fun i h => (hf i h).elim (hG.ge i) (fun h => by omega), hG.below.trans (hk.below hG.size hG.ge)⟩

/-- between a clock's copying and its end -/
structure GapAt (n0 : Nat) (w wr : World) (s c b : Nat) (ov : Value) (om on ox : Nat) (ol : List (Bool × Nat × Nat)) (v u : Value) (nm : ByteArray) (bs m n x : Nat) (l : List (Bool × Nat × Nat)) : Prop where
  old : IsClk wr s ov om on ox ol
  got : GotAt n0 w wr c b v u nm bs m n x l
  o0 : ∀ i, foot s ov i → n0 ≤ i
  dis : ∀ i, foot s ov i → feet c b v u i → False
def Gap (n0 : Nat) (w wr : World) (s c b : Nat) : Prop := ∃ ov om on ox ol v u nm bs m n x l, GapAt n0 w wr s c b ov om on ox ol v u nm bs m n x l
theorem Gap.got {c : Nat} (h : Gap n0 w wr s c b) : Got n0 w wr c b := by obtain ⟨ov, om, on, ox, ol, v, u, nm, bs, m, n, x, l, h⟩ := h; exact ⟨_, _, _, _, _, _, _, _, h.got⟩
theorem GapAt.step {c : Nat} {w' : World} {ov : Value} {om on ox ox' : Nat} {ol ol' : List (Bool × Nat × Nat)} (h : GapAt n0 w wr s c b ov om on ox ol v u nm bs m n x l) (h1 : IsClk w' s ov om on ox' ol') (k : Kept (foot s ov) wr w') : Gap n0 w w' s c b :=
  ⟨ov, om, on, ox', ol', v, u, nm, bs, m, n, x, l, h1, h.got.kept k h.o0 (fun i hi e => h.dis i e hi), h.o0, h.dis⟩
theorem gap_reset {c : Nat} (hG : Gap n0 w wr s c b) : Calls Try.prog 29 #[.pointer (some ⟨s, 0, none⟩)] wr fun e w' => e = .returned (.tuple #[]) ∧ Gap n0 w w' s c b := by
  obtain ⟨ov, om, on, ox, ol, v, u, nm, bs, m, n, x, l, h⟩ := hG
  refine (reset_ok h.old).mono ?_
  rintro e w' ⟨rfl, h1, k⟩
  exact ⟨rfl, h.step h1 k⟩
theorem gap_tick {c : Nat} (hG : Gap n0 w wr s c b) : Calls Try.prog 20 #[.pointer (some ⟨s, 0, none⟩)] wr fun e w' => (∃ r, e = .returned r) ∧ Gap n0 w w' s c b := by
  obtain ⟨ov, om, on, ox, ol, v, u, nm, bs, m, n, x, l, h⟩ := hG
  refine (tick_ok h.old).mono ?_
  rintro e w' ⟨ao, d, rfl, h1, k, _, _⟩
  exact ⟨⟨_, rfl⟩, h.step h1 k⟩
theorem got_copy (hG : Got n0 w wr s b) : Calls Try.prog 28 #[.pointer (some ⟨s, 0, none⟩)] wr fun e w' => ∃ c, e = .returned (.pointer (some ⟨c, 0, none⟩)) ∧ Gap n0 w w' s c b := by
  obtain ⟨v, u, nm, bs, m, n, x, l, hG⟩ := hG
  have z := hG.both.lt
  have hz := hG.size
  refine (copy_ok hG.both.hs).mono ?_
  rintro e w' ⟨c, v', rfl, h1, h2, k⟩
  have hB := hG.both.kept k (fun _ _ h => h)
  refine ⟨c, rfl, v, m, n, x, l, v', u, nm, bs, m, n, x, l, hB.hs, ⟨⟨h1, hB.hr, fun i hi e => ?_⟩, ?_, hG.below.trans (k.below hz (fun _ h => h.elim))⟩, fun i hi => hG.ge i (Or.inl hi), ?_⟩
  · have := h2 i hi; have := z i (Or.inr e); omega
  · rintro i (hi | hi)
    · have := h2 i hi; omega
    · exact hG.ge i (Or.inr hi)
  · rintro i hi (e | e)
    · have := h2 i e; have := z i (Or.inl hi); omega
    · exact hB.dis i hi e
theorem got_copy_ref (hG : Got n0 w wr s b) : Calls Try.prog 30 #[.pointer (some ⟨b, 0, none⟩)] wr fun e w' => ∃ c, e = .returned (.pointer (some ⟨c, 0, none⟩)) ∧ Got n0 w w' s c := by
  obtain ⟨v, u, nm, bs, m, n, x, l, hG⟩ := hG
  have z := hG.both.lt
  have hz := hG.size
  refine (CR.copy_ok hG.both.hs.2.2.2.hlen hG.both.hr).mono ?_
  rintro e w' ⟨c, u', rfl, h1, h2, k⟩
  have hB := hG.both.kept k (fun _ _ h => h)
  refine ⟨c, rfl, v, u', nm, bs, m, n, x, l, ⟨hB.hs, h1, fun i hi e => ?_⟩, ?_, hG.below.trans (k.below hz (fun _ h => h.elim))⟩
  · have := h2 i e; have := z i (Or.inl hi); omega
  · rintro i (hi | hi)
    · exact hG.ge i (Or.inl hi)
    · have := h2 i hi; omega
theorem got_new (h1 : IsClk wr s v m n x l) (h2 : CR.IsRef wr b u nm bs m n x l) (f1 : ∀ i, foot s v i → n0 ≤ i) (f2 : ∀ i, foot b u i → n0 ≤ i) (hd : ∀ i, foot s v i → foot b u i → False) (hb : Below n0 w wr) : GotAt n0 w wr s b v u nm bs m n x l :=
  ⟨⟨h1, h2, hd⟩, fun i hi => hi.elim (f1 i) (f2 i), hb⟩
end

def Two (n0 : Nat) (w wr : World) (s b s' b' : Nat) : Prop := ∃ v u nm bs m n x l v' u' nm' bs' m' n' x' l', GotAt n0 w wr s b v u nm bs m n x l ∧ GotAt n0 w wr s' b' v' u' nm' bs' m' n' x' l' ∧ ∀ i, feet s b v u i → feet s' b' v' u' i → False

section
variable {n0 : Nat} {w wr : World} {s b s' b' : Nat}
theorem Two.swap (h : Two n0 w wr s b s' b') : Two n0 w wr s' b' s b := by
  obtain ⟨v, u, nm, bs, m, n, x, l, v', u', nm', bs', m', n', x', l', h1, h2, h3⟩ := h
  exact ⟨_, _, _, _, _, _, _, _, _, _, _, _, _, _, _, _, h2, h1, fun i a b => h3 i b a⟩
theorem Two.got (h : Two n0 w wr s b s' b') : Got n0 w wr s b := by
  obtain ⟨v, u, nm, bs, m, n, x, l, v', u', nm', bs', m', n', x', l', h1, h2, h3⟩ := h
  exact ⟨_, _, _, _, _, _, _, _, h1⟩
theorem Two.below (h : Two n0 w wr s b s' b') : Below n0 w wr := h.got.below
theorem two_play (k i : Int) (t cy : Nat) (hi : (Lit.int .i64 i).wf = true) (ht : t ≤ 4294967295) (hcy : cy ≤ 4294967295) (hG : Two n0 w wr s b s' b') :
    Calls Try.prog 31 #[.pointer (some ⟨s, 0, none⟩), .pointer (some ⟨b, 0, none⟩), .agg #[.int .i64 k, .int .i64 i, .int .u32 t, .int .u32 cy]] wr fun e w' => e = .returned (.bool true) ∧ Two n0 w w' s b s' b' := by
  obtain ⟨v, u, nm, bs, m, n, x, l, v', u', nm', bs', m', n', x', l', h1, h2, h3⟩ := hG
  have hz := h1.size
  have z2 := h2.both.lt
  refine (play_ok k i t cy hi ht hcy h1.both).mono ?_
  rintro e w' ⟨rfl, u2, nm2, bs2, m2, n2, x2, l2, hB, hk, hf⟩
  exact ⟨rfl, v, u2, nm2, bs2, m2, n2, x2, l2, _, _, _, _, _, _, _, _, ⟨hB, fun i h => (hf i h).elim (h1.ge i) (fun h => by omega), h1.below.trans (hk.below h1.size h1.ge)⟩, h2.kept hk h1.ge (fun i hi e => h3 i e hi), fun i hi e => (hf i hi).elim (fun h => h3 i h e) (fun h => by have := z2 i e; omega)⟩
theorem two_told (hG : Two n0 w wr s b s' b') :
    Calls Try.prog 32 #[.pointer (some ⟨s, 0, none⟩), .pointer (some ⟨b, 0, none⟩)] wr fun e w' => e = .returned (.bool true) ∧ Two n0 w w' s b s' b' := by
  obtain ⟨v, u, nm, bs, m, n, x, l, v', u', nm', bs', m', n', x', l', h1, h2, h3⟩ := hG
  refine (told_ok h1.both.hs h1.both.hr).mono ?_
  rintro e w' ⟨rfl, k⟩
  exact ⟨rfl, _, _, _, _, _, _, _, _, _, _, _, _, _, _, _, _, h1.same k, h2.same k, h3⟩

/-- a clock is copied, the document's not yet -/
def Mid (n0 : Nat) (w wr : World) (s b c : Nat) : Prop := ∃ v u nm bs m n x l y, GotAt n0 w wr s b v u nm bs m n x l ∧ IsClk wr c y m n x l ∧ (∀ i, foot c y i → n0 ≤ i) ∧ ∀ i, foot c y i → feet s b v u i → False
theorem Mid.drewN {c : Nat} (k : Nat) (h : Mid n0 w wr s b c) : Mid n0 w (wr.drewN k) s b c := by
  obtain ⟨v, u, nm, bs, m, n, x, l, y, hG, h1, h2, h3⟩ := h
  exact ⟨v, u, nm, bs, m, n, x, l, y, hG.same ((Kept.refl (fun _ => False) wr).drewN k), h1.kept ((Kept.refl (fun _ => False) wr).drewN k) (fun _ _ h => h), h2, h3⟩
theorem mid_copy (hG : Got n0 w wr s b) : Calls Try.prog 28 #[.pointer (some ⟨s, 0, none⟩)] wr fun e w' => ∃ c, e = .returned (.pointer (some ⟨c, 0, none⟩)) ∧ Mid n0 w w' s b c := by
  obtain ⟨v, u, nm, bs, m, n, x, l, hG⟩ := hG
  have z := hG.both.lt
  have hz := hG.size
  refine (copy_ok hG.both.hs).mono ?_
  rintro e w' ⟨c, y, rfl, h1, h2, k⟩
  exact ⟨c, rfl, v, u, nm, bs, m, n, x, l, y, hG.same k, h1, fun i hi => Nat.le_trans hz (h2 i hi), fun i hi e => by have := h2 i hi; have := z i e; omega⟩
theorem mid_ref {c : Nat} (hG : Mid n0 w wr s b c) : Calls Try.prog 30 #[.pointer (some ⟨b, 0, none⟩)] wr fun e w' => ∃ d, e = .returned (.pointer (some ⟨d, 0, none⟩)) ∧ Two n0 w w' s b c d := by
  obtain ⟨v, u, nm, bs, m, n, x, l, y, hG, hc, h0, hd⟩ := hG
  have z := hG.both.lt
  have hz := hG.size
  have zc := hc.lt
  refine (CR.copy_ok hG.both.hs.2.2.2.hlen hG.both.hr).mono ?_
  rintro e w' ⟨d, u', rfl, h1, h2, k⟩
  refine ⟨d, rfl, v, u, nm, bs, m, n, x, l, y, u', nm, bs, m, n, x, l, hG.same k, ⟨⟨hc.kept k (fun _ _ h => h), h1, fun i hi e => ?_⟩, ?_, hG.below.trans (k.below hz (fun _ h => h.elim))⟩, ?_⟩
  · have := h2 i e; have := zc i hi; omega
  · rintro i (hi | hi)
    · exact h0 i hi
    · have := h2 i hi; omega
  · rintro i hi (e | e)
    · exact hd i e hi
    · have := h2 i e; have := z i hi; omega
end

theorem u32_nat {a : Int} (h : (Lit.int .u32 a).wf = true) : ∃ n : Nat, a = n ∧ n ≤ 4294967295 := by
  have hx : 0 ≤ a ∧ a ≤ 4294967295 := by simpa [Lit.wf, IntKind.min, IntKind.max, IntKind.signed, IntKind.bits] using h
  exact ⟨a.toNat, by omega, by omega⟩

/-- a thing of the script, where the code reads it -/
theorem elem_four {w wr : World} {ao : Option Addr} {l : List (Int × Int × Int × Int)} (hc : CameL w 4 (encKKKK .i64 .i64 .u32 .u32) ao l) (hb : Below w.heap.size w wr) {k : Nat} {x1 x2 x3 x4 : Int} (hx : l[k]? = some (x1, x2, x3, x4)) :
    ∃ ab off, ao = some ⟨ab, off, none⟩ ∧ ab < w.heap.size ∧ wr.cell? ⟨ab, off + k * 4, none⟩ = some (.int .i64 x1) ∧ wr.cell? ⟨ab, off + k * 4 + 1, none⟩ = some (.int .i64 x2) ∧ wr.cell? ⟨ab, off + k * 4 + 2, none⟩ = some (.int .u32 x3) ∧ wr.cell? ⟨ab, off + k * 4 + 3, none⟩ = some (.int .u32 x4) := by
  obtain ⟨ab, off, rfl, hab, hcl⟩ := hc (by rintro rfl; simp at hx)
  refine ⟨ab, off, rfl, hab, ?_, ?_, ?_, ?_⟩
  · rw [hb.cell (by exact hab)]; simpa using hcl k _ hx 0 _ rfl
  · rw [hb.cell (by exact hab)]; simpa using hcl k _ hx 1 _ rfl
  · rw [hb.cell (by exact hab)]; simpa using hcl k _ hx 2 _ rfl
  · rw [hb.cell (by exact hab)]; simpa using hcl k _ hx 3 _ rfl
theorem four_at {l : List (Int × Int × Int × Int)} (hw : ∀ x ∈ l, (Lit.int .i64 x.1).wf = true ∧ (Lit.int .i64 x.2.1).wf = true ∧ (Lit.int .u32 x.2.2.1).wf = true ∧ (Lit.int .u32 x.2.2.2).wf = true) {k : Nat} (hk : k < l.length) :
    ∃ (x1 x2 : Int) (t cy : Nat), l[k]? = some (x1, x2, (t : Int), (cy : Int)) ∧ (Lit.int .i64 x1).wf = true ∧ (Lit.int .i64 x2).wf = true ∧ t ≤ 4294967295 ∧ cy ≤ 4294967295 := by
  obtain ⟨⟨x1, x2, x3, x4⟩, hx⟩ : ∃ x, l[k]? = some x := ⟨_, List.getElem?_eq_getElem hk⟩
  obtain ⟨h1, h2, h3, h4⟩ := hw _ (List.mem_of_getElem? hx)
  simp only at h1 h2 h3 h4
  obtain ⟨t, rfl, ht⟩ := u32_nat h3
  obtain ⟨cy, rfl, hcy⟩ := u32_nat h4
  exact ⟨x1, x2, t, cy, hx, h1, h2, ht, hcy⟩
theorem cells_four {w wr : World} {ab off : Nat} {l : List (Int × Int × Int × Int)} (hc : CameL w 4 (encKKKK .i64 .i64 .u32 .u32) (some ⟨ab, off, none⟩) l) (hb : Below w.heap.size w wr) {k : Nat} {x1 x2 x3 x4 : Int} (hx : l[k]? = some (x1, x2, x3, x4)) :
    wr.cell? ⟨ab, off + k * 4, none⟩ = some (.int .i64 x1) ∧ wr.cell? ⟨ab, off + k * 4 + 1, none⟩ = some (.int .i64 x2) ∧ wr.cell? ⟨ab, off + k * 4 + 2, none⟩ = some (.int .u32 x3) ∧ wr.cell? ⟨ab, off + k * 4 + 3, none⟩ = some (.int .u32 x4) := by
  obtain ⟨ab', off', e, _, h⟩ := elem_four hc hb hx
  cases e
  exact h
end Go.Proofs.Ytialldmepphloaa.L
