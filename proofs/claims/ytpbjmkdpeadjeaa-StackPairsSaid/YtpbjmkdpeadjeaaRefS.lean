/- Contracts of the document's stack (tappetref14): the same list of numbers, the lowest first. -/
import Derived.Test.YtpbjmkdpeadjeaaStkV
namespace Go.Proofs.Ytpbjmkdpeadjeaa.RS
open Go.RowKit Go.Fr Go.Proofs.Ytpbjmkdpeadjeaa.SI

def IsRef (w : World) (b : Nat) (v : Value) (m : Bool) (d h : Int) (l : List Int) : Prop :=
  Blk w b [.bool m, .int .i64 d, v, .int .i64 h] 37 ∧ Row w 3 1 v l.length (l.map (Value.int .i64)) ∧ v.ownBlock ≠ some b ∧ l.length ≤ 2147483647

theorem IsRef.kept {w w' : World} {b : Nat} {v : Value} {m : Bool} {d h : Int} {l : List Int} {S : Nat → Prop} (hs : IsRef w b v m d h l) (k : Kept S w w') (hn : ∀ i, foot b v i → ¬ S i) : IsRef w' b v m d h l :=
  ⟨hs.1.kept k (hn _ (Or.inl rfl)), row_kept hs.2.1 k (fun g hg => hn _ (Or.inr hg)), hs.2.2⟩
theorem IsRef.lt {w : World} {b : Nat} {v : Value} {m : Bool} {d h : Int} {l : List Int} (hs : IsRef w b v m d h l) : ∀ i, foot b v i → i < w.heap.size := by
  rintro i (rfl | hi)
  · exact hs.1.lt
  · exact row_lt hs.2.1 hi
theorem IsRef.drew {w : World} {b : Nat} {v : Value} {m : Bool} {d h : Int} {l : List Int} (n : Nat) (hs : IsRef w b v m d h l) : IsRef (w.drewN n) b v m d h l := hs

theorem new_ok (d : Int) (w : World) (h0 : 0 ≤ d) (h1 : d ≤ 1024) : Calls Try.prog 12 #[.int .i64 d] w fun e w' =>
   e = .returned (.tuple #[.pointer (some ⟨w.heap.size, 0, none⟩), .int .i64 0]) ∧ IsRef w' w.heap.size (.slice none 0 0) true d 0 [] ∧ Kept (fun _ => False) w w' ∧ w.heap.size < w'.heap.size := by
  go_enter Try.func12, Try.ntmps12
  go_wp2
  go_ret2
  refine ⟨rfl, ⟨Blk.new _ _ _, World.ownsRow_nil _ _ _ _, by simp [Value.ownBlock], by simp⟩, (Kept.refl _ _).alloc _, by simp⟩

theorem new_no (d : Int) (w : World) (h : d < 0 ∨ 1024 < d) : Calls Try.prog 12 #[.int .i64 d] w fun e w' =>
   e = .returned (.tuple #[.pointer (some ⟨w.heap.size, 0, none⟩), .int .i64 140]) ∧ IsRef w' w.heap.size (.slice none 0 0) false 0 0 [] ∧ Kept (fun _ => False) w w' ∧ w.heap.size < w'.heap.size := by
  rcases h with h | h
  · go_enter Try.func12, Try.ntmps12
    go_wp2
    go_ret2
    refine ⟨rfl, ⟨Blk.new _ _ _, World.ownsRow_nil _ _ _ _, by simp [Value.ownBlock], by simp⟩, (Kept.refl _ _).alloc _, by simp⟩
  · have h' : ¬ d < 0 := by omega
    go_enter Try.func12, Try.ntmps12
    go_wp2
    go_ret2
    refine ⟨rfl, ⟨Blk.new _ _ _, World.ownsRow_nil _ _ _ _, by simp [Value.ownBlock], by simp⟩, (Kept.refl _ _).alloc _, by simp⟩

section
variable {w : World} {b : Nat} {v : Value} {m : Bool} {d h : Int} {l : List Int}

theorem push_nil (x : Int) (hs : IsRef w b v false d h l) : Calls Try.prog 16 #[.pointer (some ⟨b, 0, none⟩), .int .i64 x] w fun e w' => e = .returned (.int .i64 1) ∧ w = w' := by
  have c0 := hs.1.cell 0 rfl
  go_enter Try.func16, Try.ntmps16
  go_wp2
  go_ret
  exact ⟨rfl, rfl⟩

set_option maxRecDepth 100000 in
theorem push_full (x : Int) (hs : IsRef w b v true d h l) (hd : d ≤ l.length) : Calls Try.prog 16 #[.pointer (some ⟨b, 0, none⟩), .int .i64 x] w fun e w' => e = .returned (.int .i64 141) ∧ ∃ n, w' = w.drewN n := by
  have c0 := hs.1.cell 0 rfl
  have c1 := hs.1.cell 1 rfl
  have c2 := hs.1.cell 2 rfl
  obtain ⟨ao, c, rfl, hc⟩ := row_any hs.2.1
  go_enter Try.func16, Try.ntmps16
  go_wp2
  go_quiet (fail)
  go_wp2
  go_ret
  exact ⟨rfl, _, rfl⟩

set_option maxRecDepth 100000 in
set_option maxHeartbeats 1000000 in
theorem push_room (x : Int) (hs : IsRef w b v true d h l) (hd : l.length < d) (hd2 : d ≤ 1024) : Calls Try.prog 16 #[.pointer (some ⟨b, 0, none⟩), .int .i64 x] w fun e w' => e = .returned (.int .i64 0) ∧
    ∃ v', IsRef w' b v' true d (mxi h (l.length + 1)) (l ++ [x]) ∧ Kept (foot b v) w w' ∧ (∀ i, foot b v' i → foot b v i ∨ w.heap.size ≤ i) := by
  obtain ⟨hb, hr, ho, hn⟩ := hs
  have hlt := hb.lt
  have c0 := hb.cell 0 rfl
  have c1 := hb.cell 1 rfl
  have c2 := hb.cell 2 rfl
  have f2 := hb.frozen 2
  obtain ⟨i0, hi, hz0, hz1, hz2⟩ := info_parts info
  obtain ⟨ao, c, rfl, hc⟩ := row_any hr
  have hbs : ¬ b = w.heap.size := by omega
  go_enter Try.func16, Try.ntmps16
  go_wp2
  go_quiet (fail)
  go_wp2_with (at_builtin; refine wpList_append_any rfl (.tmp 24) (.tmp 26) 35 rfl 3 i0 (.int .i64 0) 1 8 Try.underlying35 hi hz0 hz1 hz2 rfl (by decide) _ _ _ (l.map (Value.int .i64)) rfl ?hrow _ 1 1 [.int .i64 x] rfl ?hnew (by simp [Value.oneCell']) ?b1 ?b2 ?_)
  case hrow => exact row_heap (row_alloc hr (.cells #[.int .i64 x] 3)) (fun _ _ => rfl)
  case hnew => exact shows_new _ [_] _ (by simp) rfl
  case b1 => unfold maxLen; omega
  case b2 => omega
  intro ao' c' w1 r1 r2 r3
  have hb1 := blk_after r2 (hb.alloc (.cells #[.int .i64 x] 3)) rfl ho
  have k2 := hb1.frozen 2
  have k12 := hb1.cell 2 rfl
  have hb2 := hb1.set 2 (.slice ao' (l.length + 1) c')
  have k22 := hb2.cell 2 rfl
  have k23 := hb2.cell 3 rfl
  have f23 := hb2.frozen 3
  have hgb : (Value.slice ao' (l.length + 1) c').ownBlock ≠ some b := fun e => (r3 b e).elim ho (fun h => by omega)
  have hrow2 := row_setCell_other r1 (a := ⟨b, 2, none⟩) hgb (.slice ao' (l.length + 1) c')
  have hk2 := ((((Kept.refl (foot b (.slice ao l.length c)) w).drewN 0).alloc (.cells #[.int .i64 x] 3)).grown (w' := w1) ⟨r2.os, r2.tape, r2.output, r2.size, r2.block⟩ (fun k hk => Or.inl (Or.inr hk))).set (b := b) 2 (Or.inl (Or.inl rfl)) (.slice ao' (l.length + 1) c')
  have hft : ∀ i, foot b (.slice ao' (l.length + 1) c') i → foot b (.slice ao l.length c) i ∨ w.heap.size ≤ i := by
    rintro i (rfl | hi)
    · exact Or.inl (Or.inl rfl)
    · exact (r3 i hi).imp Or.inr (fun h => by omega)
  have Hr := Lib.hid hrow2
  have Hk := Lib.hid hk2
  have Hf := Lib.hid hft
  have Hg := Lib.hid hgb
  clear hrow2 hk2 hft hgb r1 r2 r3
  by_cases hh : h < (l.length : Int) + 1
  · have hm : mxi h (l.length + 1) = (l.length : Int) + 1 := if_pos hh
    have HM := Lib.hid hm
    clear hm
    go_wp2
    go_quiet (fail)
    go_wp2
    go_ret
    refine ⟨rfl, _, ⟨?_, ?_, Hg.out, by simp; omega⟩, ?_, Hf.out⟩
    · rw [HM.out]; exact Blk.heap (hb2.set 3 _) rfl
    · exact row_to (row_setCell_other Hr.out (a := ⟨b, 3, none⟩) Hg.out (.int .i64 ((l.length : Int) + 1))) (by simp) (by simp) (fun _ _ => rfl)
    · exact (Hk.out.set (b := b) 3 (Or.inl (Or.inl rfl)) _).same rfl rfl rfl rfl
  · have hm : mxi h (l.length + 1) = h := if_neg hh
    have HM := Lib.hid hm
    clear hm
    go_wp2
    go_quiet (fail)
    go_wp2
    go_ret
    refine ⟨rfl, _, ⟨?_, ?_, Hg.out, by simp; omega⟩, ?_, Hf.out⟩
    · rw [HM.out]; exact Blk.heap hb2 rfl
    · exact row_to Hr.out (by simp) (by simp) (fun _ _ => rfl)
    · exact Hk.out.same rfl rfl rfl rfl
end
end Go.Proofs.Ytpbjmkdpeadjeaa.RS
