/- Copy of ring.Ring[int]; puts and takes said in one form. -/
import Derived.Test.YtdjdnfjfomeldaaRiU
namespace Go.Proofs.Ytdjdnfjfomeldaa.RI
open Go.RowKit Go.Fr

section
variable {w : World} {b : Nat} {v : Value} {room f : Nat} {high : Int} {cs l : List Int}

set_option maxRecDepth 100000 in
set_option maxHeartbeats 1000000 in
theorem copy_ok (hs : IsRing w b v room f high cs l) : Calls Try.prog 49 #[.pointer (some ⟨b, 0, none⟩)] w fun e w' =>
    ∃ b' v', e = .returned (.pointer (some ⟨b', 0, none⟩)) ∧ IsRing w' b' v' room f high cs l ∧ (∀ i, foot b' v' i → w.heap.size ≤ i) ∧ Kept (fun _ => False) w w' := by
  obtain ⟨i0, hi, hz0, hz1, hz2⟩ := info_parts info
  have hlt := hs.1.lt
  have hcr := hs.2.2.2.1
  have hrm := hs.2.2.2.2.1
  obtain ⟨ao, c, rfl, hc⟩ := row_any hs.2.1
  have c0 := hs.1.cell 0 rfl
  have c1 := hs.1.cell 1 rfl
  have c2 := hs.1.cell 2 rfl
  have c3 := hs.1.cell 3 rfl
  have c4 := hs.1.cell 4 rfl
  have c5 := hs.1.cell 5 rfl
  have ha := alive_ok hs
  obtain ⟨N, hN⟩ : ∃ N, w.heap.size = N := ⟨_, rfl⟩
  have nb := Blk.new w [.bool true, .int .i64 room, .slice ao cs.length c, .int .i64 f, .int .i64 l.length, .int .i64 high] 94
  have k1 := (Kept.refl (fun _ => False) w).alloc (.cells #[.bool true, .int .i64 room, .slice ao cs.length c, .int .i64 f, .int .i64 l.length, .int .i64 high] 94)
  have hs1 := hs.kept k1 (fun _ _ h => h)
  go_enter Try.func49, Try.ntmps49
  go_upto_region 4 with (go_at_call 52; refine ha.mono ?_; rintro e w' ⟨rfl, rfl⟩)
  obtain ⟨w1, hw1⟩ : ∃ w1, w.alloc (.cells #[.bool true, .int .i64 room, .slice ao cs.length c, .int .i64 f, .int .i64 l.length, .int .i64 high] 94) = w1 := ⟨_, rfl⟩
  have z1 : w1.heap.size = N + 1 := by rw [← hw1, World.size_alloc, hN]
  simp only [hN] at nb ⊢
  rw [hw1] at nb k1 hs1 ⊢
  have HS := Lib.hid hs
  have H1 := Lib.hid hs1
  have NB := Lib.hid nb
  have K1 := Lib.hid k1
  have HW := Lib.hid hw1
  clear hw1 c0 c1 c2 c3 c4 c5 hs ha k1
  have c2 := hs1.1.cell 2 rfl
  have d2 := nb.cell 2 rfl
  have e2 := nb.frozen 2
  have hbN : ¬ b = N := by omega
  clear hs1 nb
  go_wp2_with (at_builtin; refine wpList_append_any rfl (.const (.slice none 0 0)) (.tmp 13) 75 rfl 3 i0 (.int .i64 0) 1 8 Try.underlying75 hi hz0 hz1 hz2 rfl (by decide) none 0 0 [] rfl (World.ownsRow_nil _ _ _ _) ao cs.length c (cs.map (Value.int .i64)) rfl H1.out.2.1.shows (ints_one cs) (by unfold maxLen; omega) (by omega) ?_)
  intro ao' c' w2 r1 r2 r3
  try simp only [Nat.zero_add, List.nil_append] at r1 r3
  have nb2 := NB.out.grown r2 (fun e => by cases e)
  have k2 : Kept (fun _ => False) w1 w2 := (Kept.refl _ w1).grown r2 (fun k hk => by cases hk)
  have e2' := nb2.frozen 2
  have d2' := nb2.cell 2 rfl
  have hge : ∀ g, (Value.slice ao' cs.length c').ownBlock = some g → N + 1 ≤ g := fun g hg => (r3 g hg).elim (fun e => by cases e) (fun h => by omega)
  have hno : (Value.slice ao' cs.length c').ownBlock ≠ some N := fun e => by have := hge _ e; omega
  have NB2 := Lib.hid nb2
  have K2 := Lib.hid k2
  have R1 := Lib.hid r1
  clear nb2 k2 r1 r2 r3 d2 e2 c2
  try simp only [Nat.zero_add]
  go_wp2
  go_ret
  refine ⟨N, .slice ao' cs.length c', rfl, ⟨NB2.out.set 2 _, row_setCell_other R1.out (a := ⟨N, 2, none⟩) hno _, hno, hcr, hrm, HS.out.2.2.2.2.2⟩, ?_, ?_⟩
  · rintro i (h | h)
    · omega
    · have := hge i h; omega
  · exact (K1.out.then K2.out (fun _ h => h.elim)).set (b := N) 2 (Or.inr (by omega)) _
end
end Go.Proofs.Ytdjdnfjfomeldaa.RI
