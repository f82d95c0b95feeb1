/- Package event: New and Copy. -/
import Derived.Test.YtmljnhhjjaibbaaEvt
import Derived.Laws.Rows
import Derived.Deep.WholeRow
namespace Go.Proofs.Ytmljnhhjjaibbaa.EV
open Go.RowKit Go.Fr

/-- the zero table's cells -/
def Z : Array Value := ([Value.bool false, Value.int .i64 0] ++ (fill []).flatMap encE).toArray
theorem z_run (w : World) : (zeroValue 59).run Try.prog w = .ok (.agg Z) w := by kernel_rfl
theorem z_size : Z.size = 1026 := by
  unfold Z
  rw [List.size_toArray, List.length_append, flat_length encE_len, fill_len (by simp)]
  rfl
theorem z_ne : (Z = #[]) = False := by
  have := z_size
  apply propext; constructor
  · intro h; rw [h] at this; simp at this
  · intro h; exact h.elim
theorem z_two (n : Nat) : (Z.setIfInBounds 0 (.bool true)).setIfInBounds 1 (.int .i64 n) = ([Value.bool true, Value.int .i64 n] ++ (fill []).flatMap encE).toArray := by
  unfold Z
  generalize (fill []).flatMap encE = r
  simp
theorem fill_rep {n : Nat} (h : n ≤ 256) : fill [] = fill (List.replicate n (0, 0, 0, false)) := by
  unfold fill; simp only [List.nil_append, List.length_nil, List.length_replicate, List.replicate_append_replicate]; congr 1; omega

def mk0 (m : Int) : Ev := (m, 0, 0, false)
def part (ms : List Int) (k : Nat) : List Ev := (ms.take k).map mk0 ++ List.replicate (ms.length - k) (0, 0, 0, false)
theorem part_len (ms : List Int) {k : Nat} (h : k ≤ ms.length) : (part ms k).length = ms.length := by simp [part]; omega
theorem part_at {ms : List Int} {k : Nat} (h : k < ms.length) : (part ms k)[k]? = some (0, 0, 0, false) := by
  unfold part
  rw [List.getElem?_append_right (by simp; omega), List.getElem?_replicate]
  simp; omega
theorem part_set {ms : List Int} {k : Nat} {x : Int} (h : ms[k]? = some x) : (part ms k).set k (x, 0, 0, false) = part ms (k + 1) := by
  have hk := (List.getElem?_eq_some_iff.1 h).1
  unfold part
  rw [List.set_append_right _ _ (by simp; omega), List.take_add_one, h]
  have e : k - (List.map mk0 (List.take k ms)).length = 0 := by simp; omega
  obtain ⟨r, hr⟩ : ∃ r, ms.length - k = r + 1 := ⟨ms.length - k - 1, by omega⟩
  rw [e, hr, List.replicate_succ, List.set_cons_zero, show ms.length - (k + 1) = r by omega]
  simp [mk0]

set_option maxRecDepth 100000 in
set_option maxHeartbeats 1000000 in
theorem new_big (ao : Option Addr) (n c : Nat) (w : World) (h : 256 < n) : Calls Try.prog 6 #[.slice ao n c] w fun e w' => e = .returned (.tuple #[.pointer none, .int .i64 150]) ∧ w = w' := by
  go_enter Try.func6, Try.ntmps6
  go_wp2
  go_ret2
  exact ⟨rfl, rfl⟩

set_option maxRecDepth 100000 in
set_option maxHeartbeats 1000000 in
theorem new_ok (ao : Option Addr) (c : Nat) (ms : List Int) (w : World) (h : ms.length ≤ 256) (hc : CameL w 1 (encK .u32) ao ms) : Calls Try.prog 6 #[.slice ao ms.length c] w fun e w' =>
    e = .returned (.tuple #[.pointer (some ⟨w.heap.size, 0, none⟩), .int .i64 0]) ∧ IsEvt w' w.heap.size ms.length (ms.map mk0) ∧ Kept (fun _ => False) w w' := by
  have hb := z_run
  have hs := z_size
  have hn := z_ne
  have h2 := z_two
  go_enter Try.func6, Try.ntmps6
  go_wp2
  clear hb hs hn h2
  have hcell : ∀ k x, ms[k]? = some x → ∃ g off, ao = some ⟨g, off, none⟩ ∧ g < w.heap.size ∧ w.cell? ⟨g, off + k, none⟩ = some (.int .u32 x) := fun k x hx => by
    obtain ⟨g, off, e, hg, hcc⟩ := hc (by rintro rfl; simp at hx)
    exact ⟨g, off, e, hg, by have := hcc k x hx 0 _ rfl; simpa using this⟩
  have HC := Lib.hid hcell
  have E0 : Hid (IsEvt (w.alloc (Obj.cells (Value.bool true :: Value.int IntKind.i64 ms.length :: List.flatMap encE (fill [])).toArray 59)) w.heap.size ms.length (part ms 0)) := by
    refine ⟨?_, part_len ms (Nat.zero_le _), h⟩
    have := Blk.new w ([Value.bool true, Value.int .i64 ms.length] ++ (fill []).flatMap encE) 59
    rw [fill_rep h] at this ⊢
    exact this
  have K0 : Hid (Kept (fun _ => False) w (w.alloc (Obj.cells (Value.bool true :: Value.int IntKind.i64 ms.length :: List.flatMap encE (fill [])).toArray 59))) := (Kept.refl _ w).alloc _
  clear hcell hc
  obtain ⟨w1, hw1⟩ : ∃ w1, w.alloc (Obj.cells (Value.bool true :: Value.int IntKind.i64 ms.length :: List.flatMap encE (fill [])).toArray 59) = w1 := ⟨_, rfl⟩
  rw [hw1] at E0 K0 ⊢
  clear hw1
  go_loopw [16] (fun i wr => ∃ k : Nat, k ≤ ms.length ∧ i = .int .i64 k ∧ IsEvt wr w.heap.size ms.length (part ms k) ∧ Kept (fun _ => False) w wr) (fun i _ => ms.length - (intOf i).toNat)
  case atStart => exact ⟨0, Nat.zero_le _, rfl, E0.out, K0.out⟩
  case round =>
    obtain ⟨k, hk, rfl, hE, hK⟩ := hrel
    clear E0 K0
    by_cases hlt : k < ms.length
    · obtain ⟨x, hx⟩ : ∃ x, ms[k]? = some x := ⟨_, List.getElem?_eq_getElem hlt⟩
      obtain ⟨g, off, rfl, hg, hcx⟩ := HC.out k x hx
      have hcx' : wr.cell? ⟨g, off + k, none⟩ = some (.int .u32 x) := (hK.cell (p := ⟨g, off + k, none⟩) hg (fun h => h)).trans hcx
      have hE2 := hE.put (i := 0) (x, 0, 0, false) (part_at hlt) (by decide) (u := .int .u32 x) rfl
      rw [part_set hx] at hE2
      have hE3 := Lib.hid hE2
      have e0 := (hE.cells (part_at hlt)).1
      have f0 := hE.free (2 + k * 4)
      have hk0 : (0 : Int) ≤ (k : Int) := by omega
      have hk1 : (k : Int) < (ms.length : Int) := by omega
      have hk2 : (k : Int) < 256 := by omega
      clear hx hcx hE2
      go_wp2
      go_roundw
      case rel => exact ⟨k + 1, by omega, by go_num, hE3.out, hK.setCell (p := ⟨w.heap.size, 2 + k * 4, none⟩) (Or.inr (Nat.le_refl _)) _⟩
      case measure => simp [intOf]; omega
    · have hkk : k = ms.length := by omega
      subst hkk
      have e : part ms ms.length = ms.map mk0 := by simp [part]
      rw [e] at hE
      clear e
      go_wp2
      go_ret2
      exact ⟨rfl, hE, hK⟩

section
variable {w : World} {b n : Nat} {l : List Ev}
set_option maxRecDepth 100000 in
set_option maxHeartbeats 1000000 in
theorem copy_ok (hs : IsEvt w b n l) : Calls Try.prog 23 #[.pointer (some ⟨b, 0, none⟩)] w fun e w' =>
    e = .returned (.pointer (some ⟨w.heap.size, 0, none⟩)) ∧ IsEvt w' w.heap.size n l ∧ Kept (fun _ => False) w w' := by
  have c0 := hs.blk.cell 0 rfl
  obtain ⟨cs, hcs⟩ : ∃ cs, ([Value.bool true, Value.int .i64 n] ++ (fill l).flatMap encE).toArray = cs := ⟨_, rfl⟩
  have hsz : cs.size = 1026 := by
    rw [← hcs, List.size_toArray, List.length_append, flat_length encE_len, fill_len (by have := hs.len; have := hs.n256; omega)]; rfl
  have hone : cs.all (·.oneCell') = true := by
    rw [← hcs, Array.all_eq_true_iff_forall_mem]
    intro v hv
    simp only [List.mem_toArray, List.mem_append, List.mem_cons, List.not_mem_nil, or_false, List.mem_flatMap] at hv
    rcases hv with (rfl | rfl) | ⟨a, _, ha⟩
    · rfl
    · rfl
    · simp only [encE, List.mem_cons, List.not_mem_nil, or_false] at ha
      rcases ha with rfl | rfl | rfl | rfl <;> rfl
  have hg : w.heap[b]? = some (.cells cs 59 (0, 0)) := by rw [← hcs]; exact hs.blk
  have hi : (Try.prog.info? 59).map (·.size) = some cs.size := by rw [hsz]; kernel_rfl
  have hst := run_storeCells_new (P := Try.prog) w 59 Z cs hi (by rw [z_size, hsz]) hone
  have hb := z_run
  have hbl : IsEvt (w.alloc (.cells cs 59)) w.heap.size n l := by
    refine ⟨?_, hs.len, hs.n256⟩
    unfold Blk
    rw [← hcs]
    exact heap_alloc_new w _
  clear hcs
  go_enter Try.func23, Try.ntmps23
  go_wp2_with (refine wpList_load_row rfl 59 _ rfl b rfl 59 cs (0, 0) _ hg Try.underlying59 rfl hi ?_)
  go_ret
  exact ⟨rfl, hbl, (Kept.refl _ w).alloc _⟩
end
end Go.Proofs.Ytmljnhhjjaibbaa.EV
