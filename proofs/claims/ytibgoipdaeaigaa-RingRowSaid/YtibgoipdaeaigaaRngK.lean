/- A ring and a list of numbers, both made by the law itself, that know nothing of one another. -/
import Derived.Test.YtibgoipdaeaigaaRngV
import Derived.Test.YtibgoipdaeaigaaRngA
import Derived.Test.YtibgoipdaeaigaaArgs
namespace Go.Proofs.Ytibgoipdaeaigaa.RK
open Go.RowKit Go.Fr Go.Proofs.Ytibgoipdaeaigaa.RI

/-- a ring of block b with things l, and a slice vp with numbers P; n0: all that was there before the law's call lies below -/
structure StAt (n0 : Nat) (w0 w : World) (b room : Nat) (high : Int) (l : List Int) (vp : Value) (P : List Int) (v : Value) (f : Nat) (cs : List Int) : Prop where
  ring : IsRing w b v room f high cs l
  row : Row w 3 1 vp P.length (P.map (Value.int .i64))
  low : ∀ i, foot b v i → n0 ≤ i
  low' : ∀ i, vp.ownBlock = some i → n0 ≤ i
  dis : ∀ i, foot b v i → vp.ownBlock ≠ some i
  below : Below n0 w0 w

def St (n0 : Nat) (w0 w : World) (b room : Nat) (high : Int) (l : List Int) (vp : Value) (P : List Int) : Prop := ∃ v f cs, StAt n0 w0 w b room high l vp P v f cs

section
variable {n0 : Nat} {w0 w w' : World} {b room : Nat} {high : Int} {l : List Int} {vp : Value} {P : List Int}

theorem St.size (h : St n0 w0 w b room high l vp P) : n0 ≤ w.heap.size := by
  obtain ⟨v, f, cs, h⟩ := h
  have := h.low b (Or.inl rfl)
  have := h.ring.1.lt
  omega
theorem St.below (h : St n0 w0 w b room high l vp P) : Below n0 w0 w := by obtain ⟨v, f, cs, h⟩ := h; exact h.below
theorem St.len (h : St n0 w0 w b room high l vp P) : l.length ≤ room ∧ room ≤ 65536 := by obtain ⟨v, f, cs, h⟩ := h; exact ⟨h.ring.len, h.ring.2.2.2.2.1⟩
theorem St.kept (h : St n0 w0 w b room high l vp P) (k : Kept (fun _ => False) w w') : St n0 w0 w' b room high l vp P := by
  have hz := h.size
  obtain ⟨v, f, cs, h⟩ := h
  exact ⟨v, f, cs, h.ring.kept k (fun _ _ h => h), row_kept h.row k (fun _ _ h => h), h.low, h.low', h.dis, h.below.trans (k.below hz (fun _ h => h.elim))⟩
theorem St.drewN (h : St n0 w0 w b room high l vp P) (n : Nat) : St n0 w0 (w.drewN n) b room high l vp P := h.kept ((Kept.refl _ _).drewN _)
theorem St.rows (h : St n0 w0 w b room high l vp P) : Row w 3 1 vp P.length (P.map (Value.int .i64)) := by obtain ⟨v, f, cs, h⟩ := h; exact h.row

theorem StAt.step {v v' : Value} {f f' : Nat} {cs cs' l' : List Int} {high' : Int} (h : StAt n0 w0 w b room high l vp P v f cs) (hr : IsRing w' b v' room f' high' cs' l') (hf : ∀ i, foot b v' i → foot b v i ∨ w.heap.size ≤ i) (k : Kept (foot b v) w w') : St n0 w0 w' b room high' l' vp P := by
  have hz := St.size ⟨v, f, cs, h⟩
  exact ⟨v', f', cs', hr, row_kept h.row k (fun g hg hg' => h.dis g hg' hg), fun i hi => (hf i hi).elim (h.low i) (fun e => by omega), h.low',
    fun i hi e => (hf i hi).elim (fun h1 => h.dis i h1 e) (fun h1 => by have := row_lt h.row e; omega), h.below.trans (k.below hz h.low)⟩

theorem st_full (x : Int) (h : St n0 w0 w b room high l vp P) (hl : room ≤ l.length) : Calls Try.prog 24 #[.pointer (some ⟨b, 0, none⟩), .int .i64 x] w fun e w' =>
    e = .returned (.int .i64 121) ∧ St n0 w0 w' b room high l vp P := by
  have h0 := h
  obtain ⟨v, f, cs, h⟩ := h
  refine (last_full x h.ring hl).mono ?_
  rintro e w1 ⟨rfl, n, rfl⟩
  exact ⟨rfl, h0.drewN n⟩
theorem st_last (x : Int) (h : St n0 w0 w b room high l vp P) (hl : l.length < room) : Calls Try.prog 24 #[.pointer (some ⟨b, 0, none⟩), .int .i64 x] w fun e w' =>
    e = .returned (.int .i64 0) ∧ St n0 w0 w' b room (mxi high (l.length + 1)) (l ++ [x]) vp P := by
  obtain ⟨v, f, cs, h⟩ := h
  refine (last_room x h.ring hl).mono ?_
  rintro e w1 ⟨rfl, v', f', cs', hr, hf, hk⟩
  exact ⟨rfl, h.step hr hf hk⟩
theorem st_full1 (x : Int) (h : St n0 w0 w b room high l vp P) (hl : room ≤ l.length) : Calls Try.prog 27 #[.pointer (some ⟨b, 0, none⟩), .int .i64 x] w fun e w' =>
    e = .returned (.int .i64 121) ∧ St n0 w0 w' b room high l vp P := by
  have h0 := h
  obtain ⟨v, f, cs, h⟩ := h
  refine (first_full x h.ring hl).mono ?_
  rintro e w1 ⟨rfl, n, rfl⟩
  exact ⟨rfl, h0.drewN n⟩
theorem st_first (x : Int) (h : St n0 w0 w b room high l vp P) (hl : l.length < room) : Calls Try.prog 27 #[.pointer (some ⟨b, 0, none⟩), .int .i64 x] w fun e w' =>
    e = .returned (.int .i64 0) ∧ St n0 w0 w' b room (mxi high (l.length + 1)) (x :: l) vp P := by
  obtain ⟨v, f, cs, h⟩ := h
  refine (first_room x h.ring hl).mono ?_
  rintro e w1 ⟨rfl, v', f', cs', hr, hf, hk⟩
  exact ⟨rfl, h.step hr hf hk⟩
theorem st_none (h : St n0 w0 w b room high [] vp P) : Calls Try.prog 25 #[.pointer (some ⟨b, 0, none⟩)] w fun e w' =>
    e = .returned (.tuple #[.int .i64 0, .int .i64 122]) ∧ St n0 w0 w' b room high [] vp P := by
  have h0 := h
  obtain ⟨v, f, cs, h⟩ := h
  refine (take_none h.ring).mono ?_
  rintro e w1 ⟨rfl, rfl⟩
  exact ⟨rfl, h0⟩
theorem st_take {x : Int} (h : St n0 w0 w b room high (x :: l) vp P) : Calls Try.prog 25 #[.pointer (some ⟨b, 0, none⟩)] w fun e w' =>
    e = .returned (.tuple #[.int .i64 x, .int .i64 0]) ∧ St n0 w0 w' b room high l vp P := by
  obtain ⟨v, f, cs, h⟩ := h
  refine (take_ok x h.ring).mono ?_
  rintro e w1 ⟨rfl, f', cs', hr, hk⟩
  exact ⟨rfl, h.step hr (fun _ h => Or.inl h) hk⟩
theorem st_len (h : St n0 w0 w b room high l vp P) : Calls Try.prog 26 #[.pointer (some ⟨b, 0, none⟩)] w fun e w' => e = .returned (.int .i64 l.length) ∧ w = w' := by
  obtain ⟨v, f, cs, h⟩ := h; exact len_ok h.ring
theorem st_high (h : St n0 w0 w b room high l vp P) : Calls Try.prog 28 #[.pointer (some ⟨b, 0, none⟩)] w fun e w' => e = .returned (.int .i64 high) ∧ w = w' := by
  obtain ⟨v, f, cs, h⟩ := h; exact high_ok h.ring

/-- the list is turned: another slice, its blocks the old one's or new -/
theorem St.list {w1 : World} {vp' : Value} {P' : List Int} (h : St n0 w0 w b room high l vp P) (k : Kept (fun k => vp.ownBlock = some k) w w1) (hr : Row w1 3 1 vp' P'.length (P'.map (Value.int .i64))) (ho : ∀ g, vp'.ownBlock = some g → vp.ownBlock = some g ∨ w.heap.size ≤ g) : St n0 w0 w1 b room high l vp' P' := by
  have hz := h.size
  obtain ⟨v, f, cs, h⟩ := h
  exact ⟨v, f, cs, h.ring.kept k (fun i hi e => h.dis i hi e), hr, h.low, fun i hi => (ho i hi).elim (h.low' i) (fun e => by omega), fun i hi e => (ho i e).elim (h.dis i hi) (fun h1 => by have := h.ring.lt i hi; omega), h.below.trans (k.below hz h.low')⟩
end

theorem st_new {w : World} {room : Nat} {w1 : World} (h : IsRing w1 w.heap.size (.slice none 0 0) room 0 0 [] []) (k : Kept (fun _ => False) w w1) : St w.heap.size w w1 w.heap.size room 0 [] (.slice none 0 0) [] :=
  ⟨_, _, _, h, World.ownsRow_nil _ _ _ _, by rintro i (rfl | h); exact Nat.le_refl _; simp [Value.ownBlock] at h, by simp [Value.ownBlock], by simp [Value.ownBlock], k.below (Nat.le_refl _) (fun _ h => h.elim)⟩

end Go.Proofs.Ytibgoipdaeaigaa.RK
