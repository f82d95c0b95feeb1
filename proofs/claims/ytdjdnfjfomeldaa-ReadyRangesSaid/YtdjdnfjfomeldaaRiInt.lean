/- Contracts of the methods of ring.Ring[int] (made by New), the ring said as a list of numbers, the first one first. -/
import Derived.Test.YtdjdnfjfomeldaaRngP
import Derived.Test.YtdjdnfjfomeldaaRows
import Derived.StillTailTactics
namespace Go.Proofs.Ytdjdnfjfomeldaa.RI
open Go.RowKit Go.Fr

/-- block b is a ring of this room and this high; its things l lie in the cells cs of the row of the slice v from place f on -/
def IsRing (w : World) (b : Nat) (v : Value) (room : Nat) (f : Nat) (high : Int) (cs l : List Int) : Prop :=
  Blk w b [.bool true, .int .i64 room, v, .int .i64 f, .int .i64 l.length, .int .i64 high] 94 ∧ Row w 3 1 v cs.length (cs.map (Value.int .i64)) ∧ v.ownBlock ≠ some b ∧ cs.length ≤ room ∧ room ≤ 65536 ∧ Ringed cs f l

def foot (b : Nat) (v : Value) : Nat → Prop := fun k => k = b ∨ v.ownBlock = some k

theorem info : (Try.prog.info? 3).map (fun i => (i.zero, i.size, i.bytes)) = some (some (.int .i64 0), 1, 8) := by kernel_rfl

theorem IsRing.kept {w w' : World} {b : Nat} {v : Value} {room f : Nat} {high : Int} {cs l : List Int} {S : Nat → Prop} (hs : IsRing w b v room f high cs l) (k : Kept S w w') (hn : ∀ i, foot b v i → ¬ S i) : IsRing w' b v room f high cs l :=
  ⟨hs.1.kept k (hn _ (Or.inl rfl)), row_kept hs.2.1 k (fun _ hg => hn _ (Or.inr hg)), hs.2.2⟩
theorem IsRing.lt {w : World} {b : Nat} {v : Value} {room f : Nat} {high : Int} {cs l : List Int} (hs : IsRing w b v room f high cs l) : ∀ i, foot b v i → i < w.heap.size := by
  rintro i (rfl | hi)
  · exact hs.1.lt
  · exact row_lt hs.2.1 hi
theorem IsRing.drewN {w : World} {b : Nat} {v : Value} {room f : Nat} {high : Int} {cs l : List Int} (n : Nat) (hs : IsRing w b v room f high cs l) : IsRing (w.drewN n) b v room f high cs l := hs
theorem IsRing.len {w : World} {b : Nat} {v : Value} {room f : Nat} {high : Int} {cs l : List Int} (hs : IsRing w b v room f high cs l) : l.length ≤ room := Nat.le_trans hs.2.2.2.2.2.le hs.2.2.2.1

theorem new_ok (d : Nat) (w : World) (h1 : d ≤ 65536) : Calls Try.prog 50 #[.int .i64 d] w fun e w' =>
   e = .returned (.tuple #[.pointer (some ⟨w.heap.size, 0, none⟩), .int .i64 0]) ∧ IsRing w' w.heap.size (.slice none 0 0) d 0 0 [] [] ∧ Kept (fun _ => False) w w' ∧ w.heap.size < w'.heap.size := by
  have h0 : ¬ (d : Int) < 0 := by omega
  have h2 : ¬ (65536 : Int) < d := by omega
  go_enter Try.func50, Try.ntmps50
  go_wp2
  go_ret2
  refine ⟨rfl, ⟨Blk.new _ _ _, World.ownsRow_nil _ _ _ _, by simp [Value.ownBlock], by simp, h1, Ringed.nil⟩, (Kept.refl _ _).alloc _, by simp⟩

theorem new_no (d : Int) (w : World) (h : d < 0 ∨ 65536 < d) : Calls Try.prog 50 #[.int .i64 d] w fun e w' =>
   e = .returned (.tuple #[.pointer none, .int .i64 120]) ∧ w = w' := by
  rcases h with h | h
  · go_enter Try.func50, Try.ntmps50
    go_wp2
    go_ret2
    exact ⟨rfl, rfl⟩
  · have h' : ¬ d < 0 := by omega
    go_enter Try.func50, Try.ntmps50
    go_wp2
    go_ret2
    exact ⟨rfl, rfl⟩

section
variable {w : World} {b : Nat} {v : Value} {room f : Nat} {high : Int} {cs l : List Int}

theorem alive_ok (hs : IsRing w b v room f high cs l) : Calls Try.prog 52 #[.pointer (some ⟨b, 0, none⟩)] w fun e w' =>
    e = .returned (.bool true) ∧ w = w' := by
  have c0 := hs.1.cell 0 rfl
  go_enter Try.func52, Try.ntmps52
  go_wp2
  go_ret
  exact ⟨rfl, rfl⟩

theorem len_ok (hs : IsRing w b v room f high cs l) : Calls Try.prog 38 #[.pointer (some ⟨b, 0, none⟩)] w fun e w' =>
    e = .returned (.int .i64 l.length) ∧ w = w' := by
  have c4 := hs.1.cell 4 rfl
  go_enter Try.func38, Try.ntmps38
  go_wp2_with (go_at_call 52; refine (alive_ok hs).mono ?_; rintro e w' ⟨rfl, rfl⟩)
  go_ret
  exact ⟨rfl, rfl⟩

theorem high_ok (hs : IsRing w b v room f high cs l) : Calls Try.prog 56 #[.pointer (some ⟨b, 0, none⟩)] w fun e w' =>
    e = .returned (.int .i64 high) ∧ w = w' := by
  have c5 := hs.1.cell 5 rfl
  go_enter Try.func56, Try.ntmps56
  go_wp2_with (go_at_call 52; refine (alive_ok hs).mono ?_; rintro e w' ⟨rfl, rfl⟩)
  go_ret
  exact ⟨rfl, rfl⟩

set_option maxRecDepth 100000 in
set_option maxHeartbeats 1000000 in
theorem list_ok (hs : IsRing w b v room f high cs l) : Calls Try.prog 55 #[.pointer (some ⟨b, 0, none⟩)] w fun e w' =>
    ∃ ao c, e = .returned (.slice ao l.length c) ∧ Row w' 3 1 (.slice ao l.length c) l.length (l.map (Value.int .i64)) ∧ (∀ g, (Value.slice ao l.length c).ownBlock = some g → w.heap.size ≤ g) ∧ Kept (fun _ => False) w w' := by
  have hbl := hs.1.lt
  have c2 := hs.1.cell 2 rfl
  have c3 := hs.1.cell 3 rfl
  have c4 := hs.1.cell 4 rfl
  have hrow := hs.2.1
  have hcr := hs.2.2.2.1
  have hrm := hs.2.2.2.2.1
  have hR := hs.2.2.2.2.2
  have hle := hR.le
  obtain ⟨i0, hi, hz0, hz1, hz2⟩ := info_parts info
  obtain ⟨ao, c, rfl, hc⟩ := row_any hs.2.1
  go_enter Try.func55, Try.ntmps55
  go_wp2
  go_loopw [3, 9] (fun o i wr => ∃ (k : Nat) (ao' : Option Addr) (c' : Nat), i = .int .i64 k ∧ k ≤ l.length ∧ o = .slice ao' k c' ∧ Row wr 3 1 (.slice ao' k c') k ((l.take k).map (Value.int .i64)) ∧
      Hid (∀ g, (Value.slice ao' k c').ownBlock = some g → w.heap.size ≤ g) ∧ Kept (fun _ => False) w wr) (fun _ i _ => l.length - (intOf i).toNat)
  case atStart => exact ⟨0, none, 0, rfl, Nat.zero_le _, rfl, by simpa using World.ownsRow_nil w 0 _ 1, (fun g hg => by simp [Value.ownBlock] at hg), Kept.refl _ _⟩
  case round =>
    obtain ⟨k, ao', c', rfl, hk, rfl, hrw, hfr, hkp⟩ := hrel
    by_cases hlt : k < l.length
    · have hk0 : (0 : Int) ≤ (k : Int) := Int.natCast_nonneg _
      have hk1 : (k : Int) < (l.length : Int) := by omega
      have hf := hR.pos (by omega)
      obtain ⟨x, hx, hcx⟩ := hR.get hlt
      obtain ⟨p, hp⟩ : ∃ p, (f + k) % cs.length = p := ⟨_, rfl⟩
      have hpl : p < cs.length := by rw [← hp]; exact Nat.mod_lt _ (by omega)
      rw [hp] at hcx
      have hadd : IntKind.i64.wrap ((f : Int) + k) = (f : Int) + k := IntWalk.i64_in _ (by omega)
      have hmod : ((f : Int) + k).tmod (cs.length : Int) = (p : Int) := by rw [← hp]; rfl
      have hmod2 : ((f : Int) + k) % (cs.length : Int) = (p : Int) := by rw [← hp]; rfl
      have c2' : wr.cell? ⟨b, 2, none⟩ = some (.slice ao cs.length c) := (hkp.cell (p := ⟨b, 2, none⟩) hbl (fun h => h)).trans c2
      have c3' : wr.cell? ⟨b, 3, none⟩ = some (.int .i64 f) := (hkp.cell (p := ⟨b, 3, none⟩) hbl (fun h => h)).trans c3
      have hcell : ∃ g, ao = some ⟨g, 0, none⟩ ∧ g < w.heap.size ∧ wr.cell? ⟨g, p, none⟩ = some (.int .i64 x) := by
        rcases row_forms hrow with ⟨_, h0⟩ | ⟨g, c'', hv, _, _, hgl⟩
        · omega
        · cases hv
          exact ⟨g, rfl, hgl, (hkp.cell (p := ⟨g, p, none⟩) hgl (fun h => h)).trans (row_cell hrow p (by rw [List.getElem?_map, hcx]; rfl))⟩
      obtain ⟨g, rfl, hgl, hcl⟩ := hcell
      have nb : (Value.slice ao' k c').ownBlock ≠ some b := fun e => by have := hfr.out _ e; omega
      have ng : (Value.slice ao' k c').ownBlock ≠ some g := fun e => by have := hfr.out _ e; omega
      have e2 : (l.take (k + 1)) = l.take k ++ [x] := by rw [List.take_add_one, hx]; rfl
      have E2 := Lib.hid e2
      have hp0 : (0 : Int) ≤ (p : Int) := Int.natCast_nonneg _
      have hp1 : (p : Int) < (cs.length : Int) := by omega
      clear e2 hx hp hcx
      have hC0 : ((cs.length : Int) == 0) = false := by simp; rintro rfl; simp at hpl
      have hC1 : ¬ ((cs.length : Int) = 0) := by omega
      have hC2 : ¬ (cs = []) := by rintro rfl; simp at hpl
      go_wp2
      have hrw' := Lib.hid hrw
      have b1 : k + 1 ≤ maxLen := by unfold maxLen; omega
      have b2 : (k + 1) * 8 ≤ 140737488355328 := by omega
      refine wp_region_noPanic ?_
      go_region_held3 (fun w' => w'.cell? ⟨b, 2, none⟩ = some (.slice (some ⟨g, 0, none⟩) cs.length c) ∧ w'.cell? ⟨b, 3, none⟩ = some (.int .i64 f) ∧ w'.cell? ⟨g, p, none⟩ = some (.int .i64 x))
        (first | (simp [*, World.cell?_alloc_some]; done) | (go_split_ands; exact ⟨grown_cell r2 (by assumption) nb, grown_cell r2 (by assumption) nb, grown_cell r2 (by assumption) ng⟩) | fail)
        (first | (refine step_append_any (by rfl) (.tmp 12) (.tmp 31) 75 (by rfl) 3 i0 (.int .i64 0) 1 8 Try.underlying75 hi hz0 hz1 hz2 (by rfl) (by decide) ao' k c' ((l.take k).map (Value.int .i64)) (by rfl) (by exact row_alloc (row_drewN hrw'.out _) _) _ 1 1 [.int .i64 x] (by rfl) (shows_new _ [_] _ (by simp) rfl) (by simp [Value.oneCell']) b1 b2 ?_; intro ao3 c3 w3 r1 r2 r3))
      refine NoPanic.normal ?_
      go_wp2
      go_roundw
      case rel =>
        refine ⟨k + 1, ao3, c3, by go_num, by omega, rfl, ?_, fun g' hg' => ?_, ((hkp.drewN _).alloc _).grown r2 (fun i hi => Or.inr (hfr.out i hi))⟩
        · rw [E2.out, List.map_append]; exact r1
        · have := hkp.size
          rcases r3 g' hg' with h3 | h3
          · exact hfr.out _ h3
          · simp at h3; omega
      case measure => simp [intOf]; omega
    · obtain rfl : k = l.length := by omega
      go_wp2
      go_ret
      exact ⟨ao', c', rfl, by simpa using hrw, hfr.out, hkp⟩
end
end Go.Proofs.Ytdjdnfjfomeldaa.RI
