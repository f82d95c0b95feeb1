/- Take of ring.Ring[Text]. -/
import Derived.Test.YtibgoipdaeaigaaRtxT
import Derived.Lib.SliceRun
import Derived.Laws.ResultCell
namespace Go.Proofs.Ytibgoipdaeaigaa.RX
open Go.RowKit Go.Fr

theorem run_clear_one2 {P : Program} (w : World) (t e ty : TypeId) (z a0 a1 : Value) (ht : P.underlying t = some (.slice e)) (hv : ∀ w, (zeroValue e).run P w = .ok z w) (hz : z.cells = #[a0, a1]) (h0 : a0.oneCell' = true) (h1 : a1.oneCell' = true) (b o c : Nat)
    (hc0 : (w.cell? ⟨b, o, none⟩).isSome = true) (hc1 : (w.cell? ⟨b, o + 1, none⟩).isSome = true) (hf0 : w.frozen? ⟨b, o, none⟩ = false) (hf1 : w.frozen? ⟨b, o + 1, none⟩ = false) :
    (Builtin.clear_ #[t] ty #[.slice (some ⟨b, o, none⟩) 1 c]).run P w = .ok (.tuple #[]) ((w.setCell ⟨b, o, none⟩ a0).setCell ⟨b, o + 1, none⟩ a1) := by
  have hzc : (Builtin.zeroCells z.cells 1).toList = [a0, a1] := by
    rw [hz]
    simp [Builtin.zeroCells]
    apply List.ext_getElem
    · simp
    · intro i h1 h2
      simp at h1
      match i, h1 with
      | 0, _ => simp
      | 1, _ => simp
  have hst := run_storeCells_cells (P := P) b o [a0, a1] 0 w (by intro j hj; simp at hj; match j, hj with | 0, _ => exact hc0 | 1, _ => exact hc1) (by intro j hj; simp at hj; match j, hj with | 0, _ => exact hf0 | 1, _ => exact hf1) (by intro v hv'; simp at hv'; rcases hv' with rfl | rfl; exact h0; exact h1)
  simp only [Nat.add_zero] at hst
  simp [Builtin.clear_, run_underlying ht, hv, hzc, hst, World.setCells]

section
variable {w : World} {b : Nat} {v : Value} {room f : Nat} {high : Int} {cs l : List Tx}

set_option maxRecDepth 100000 in
set_option maxHeartbeats 4000000 in
theorem take_none (hs : IsRing w b v room f high cs []) : Calls Try.prog 18 #[.pointer (some ⟨b, 0, none⟩)] w fun e w' =>
    e = .returned (.tuple #[.agg #[.string ⟨#[]⟩, .int .i64 0], .int .i64 122]) ∧ Kept (fun _ => False) w w' := by
  have kA := ((Kept.refl (fun _ => False) w).alloc (.cells #[.string ⟨#[]⟩, .int .i64 0] 31)).alloc (.cells #[.string ⟨#[]⟩, .int .i64 0] 31)
  have hs2 := hs.kept kA (fun _ _ h => h)
  have hal := alive_ok hs2
  have c4 := hs2.1.cell 4 rfl
  simp only [List.length_nil] at c4
  go_enter Try.func18, Try.ntmps18
  go_wp2_with (go_at_call 46; refine hal.mono ?_; rintro e w' ⟨rfl, rfl⟩)
  refine bodyPost_ret (v := .tuple #[.agg #[.string ⟨#[]⟩, .int .i64 0], .int .i64 122]) (by rw [results_cell_tmp rfl]; go_simp) rfl ⟨rfl, kA⟩

set_option maxRecDepth 100000 in
set_option maxHeartbeats 4000000 in
theorem at_no (i : Int) (hs : IsRing w b v room f high cs l) (h : i < 0 ∨ l.length ≤ i) : Calls Try.prog 20 #[.pointer (some ⟨b, 0, none⟩), .int .i64 i] w fun e w' =>
    e = .returned (.tuple #[.agg #[.string ⟨#[]⟩, .int .i64 0], .bool false]) ∧ Kept (fun _ => False) w w' := by
  have kA := ((Kept.refl (fun _ => False) w).alloc (.cells #[.string ⟨#[]⟩, .int .i64 0] 31)).alloc (.cells #[.string ⟨#[]⟩, .int .i64 0] 31)
  have hs2 := hs.kept kA (fun _ _ h => h)
  have hal := alive_ok hs2
  have c4 := hs2.1.cell 4 rfl
  by_cases h0 : i < 0
  · go_enter Try.func20, Try.ntmps20
    go_wp2_with (go_at_call 46; refine hal.mono ?_; rintro e w' ⟨rfl, rfl⟩)
    refine bodyPost_ret (v := .tuple #[.agg #[.string ⟨#[]⟩, .int .i64 0], .bool false]) (by rw [results_cell_tmp rfl]; go_simp) rfl ⟨rfl, kA⟩
  · have h1 : (l.length : Int) ≤ i := by omega
    go_enter Try.func20, Try.ntmps20
    go_wp2_with (go_at_call 46; refine hal.mono ?_; rintro e w' ⟨rfl, rfl⟩)
    refine bodyPost_ret (v := .tuple #[.agg #[.string ⟨#[]⟩, .int .i64 0], .bool false]) (by rw [results_cell_tmp rfl]; go_simp) rfl ⟨rfl, kA⟩

set_option maxRecDepth 100000 in
set_option maxHeartbeats 4000000 in
theorem at_ok (i : Nat) (x : Tx) (hs : IsRing w b v room f high cs l) (hx : l[i]? = some x) : Calls Try.prog 20 #[.pointer (some ⟨b, 0, none⟩), .int .i64 i] w fun e w' =>
    e = .returned (.tuple #[valX x, .bool true]) ∧ Kept (fun _ => False) w w' := by
  have kA := ((Kept.refl (fun _ => False) w).alloc (.cells #[.string ⟨#[]⟩, .int .i64 0] 31)).alloc (.cells #[.string ⟨#[]⟩, .int .i64 0] 31)
  have b0 := (Blk.new w [.string ⟨#[]⟩, .int .i64 0] 31).alloc (.cells #[.string ⟨#[]⟩, .int .i64 0] 31)
  have hs := hs.kept kA (fun _ _ h => h)
  have hR := hs.2.2.2.2.2
  have hcr := hs.2.2.2.1
  have hrm := hs.2.2.2.2.1
  have hil := (List.getElem?_eq_some_iff.1 hx).1
  have hle := hR.le
  have hf := hR.pos (by omega)
  obtain ⟨p, hp⟩ : ∃ p, (f + i) % cs.length = p := ⟨_, rfl⟩
  have hpl : p < cs.length := by rw [← hp]; exact Nat.mod_lt _ (by omega)
  have hcx := hR.place i x hx
  rw [hp] at hcx
  obtain ⟨g, c, y, rfl, hgb, hy, hcl, hcl1, hfl, hfl1⟩ := hs.spot hpl
  obtain rfl : x = y := by rw [hcx] at hy; exact Option.some.inj hy
  have hadd : IntKind.i64.wrap ((f : Int) + i) = (f : Int) + i := IntWalk.i64_in _ (by omega)
  have hmod : ((f : Int) + i).tmod (cs.length : Int) = (p : Int) := by rw [← hp]; rfl
  have hmod2 : ((f : Int) + i) % (cs.length : Int) = (p : Int) := by rw [← hp]; rfl
  have hC1 : ¬ ((cs.length : Int) = 0) := by omega
  have hC2 : ¬ (cs = []) := by rintro rfl; simp at hpl
  have hp0 : (0 : Int) ≤ (p : Int) := Int.natCast_nonneg _
  have hp1 : (p : Int) < (cs.length : Int) := by omega
  have h0 : ¬ (i : Int) < 0 := by omega
  have h1 : ¬ (l.length : Int) ≤ i := by omega
  have c2 := hs.1.cell 2 rfl
  have c3 := hs.1.cell 3 rfl
  have c4 := hs.1.cell 4 rfl
  have ha := alive_ok hs
  have z0 := b0.cell 0 rfl
  have z1 := b0.cell 1 rfl
  have g0 := b0.frozen 0
  have g1 := b0.frozen 1
  have KA := Lib.hid kA
  clear hs hx hp hR hf hy kA b0
  go_enter Try.func20, Try.ntmps20
  go_wp2_with (go_at_call 46; refine ha.mono ?_; rintro e w' ⟨rfl, rfl⟩)
  refine wp_region_noPanic ?_
  go_region_law fail
  all_goals
    refine NoPanic.normal ?_
    go_wp2
    refine bodyPost_ret (v := .tuple #[valX x, .bool true]) (by rw [results_cell_tmp rfl]; go_simp) rfl ⟨rfl, ?_⟩
    exact (((Kept.refl (fun _ => False) w).alloc _).alloc _).drew
end
end Go.Proofs.Ytibgoipdaeaigaa.RX
