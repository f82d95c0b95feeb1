/- Small facts for the walks of the laws of the ring. -/
import Derived.Test.YtibgoipdaeaigaaRngK
namespace Go.Proofs.Ytibgoipdaeaigaa.RK
open Go.RowKit Go.Fr Go.Proofs.Ytibgoipdaeaigaa.RI

theorem elem_int {w wr : World} {ao : Option Addr} {l : List Int} (hc : CameL w 1 (encK .i64) ao l) (hb : Below w.heap.size w wr) {k : Nat} {x : Int} (hx : l[k]? = some x) :
    ∃ ab off, ao = some ⟨ab, off, none⟩ ∧ ab < w.heap.size ∧ wr.cell? ⟨ab, off + k, none⟩ = some (.int .i64 x) := by
  obtain ⟨ab, off, rfl, hab, hcl⟩ := hc (by rintro rfl; simp at hx)
  refine ⟨ab, off, rfl, hab, ?_⟩
  rw [hb.cell (by exact hab)]; simpa using hcl k _ hx 0 _ rfl
theorem elem_bool {w wr : World} {ao : Option Addr} {l : List Bool} (hc : CameL w 1 encB ao l) (hb : Below w.heap.size w wr) {k : Nat} {x : Bool} (hx : l[k]? = some x) :
    ∃ ab off, ao = some ⟨ab, off, none⟩ ∧ ab < w.heap.size ∧ wr.cell? ⟨ab, off + k, none⟩ = some (.bool x) := by
  obtain ⟨ab, off, rfl, hab, hcl⟩ := hc (by rintro rfl; simp at hx)
  refine ⟨ab, off, rfl, hab, ?_⟩
  rw [hb.cell (by exact hab)]; simpa using hcl k _ hx 0 _ rfl
theorem cell_int {w wr : World} {ab off : Nat} {l : List Int} (hc : CameL w 1 (encK .i64) (some ⟨ab, off, none⟩) l) (hb : Below w.heap.size w wr) {k : Nat} {x : Int} (hx : l[k]? = some x) : wr.cell? ⟨ab, off + k, none⟩ = some (.int .i64 x) := by
  obtain ⟨ab', off', e, _, h1⟩ := elem_int hc hb hx
  cases e; exact h1
theorem row_int {w : World} {ao : Option Addr} {c : Nat} {Q : List Int} (h : Row w 3 1 (.slice ao Q.length c) Q.length (Q.map (Value.int .i64))) {o : Nat} {z : Int} (hz : Q[o]? = some z) : ∃ g, ao = some ⟨g, 0, none⟩ ∧ w.cell? ⟨g, o, none⟩ = some (.int .i64 z) := by
  have hlt := (List.getElem?_eq_some_iff.1 hz).1
  rcases row_forms h with ⟨_, h0⟩ | ⟨g, c', hv, _⟩
  · omega
  · cases hv
    exact ⟨g, rfl, row_cell h o (by rw [List.getElem?_map, hz]; rfl)⟩
theorem drop_at {Q : List Int} {o : Nat} {z : Int} (hz : Q[o]? = some z) : Q.drop o = z :: Q.drop (o + 1) := by
  obtain ⟨h, rfl⟩ := List.getElem?_eq_some_iff.1 hz
  exact List.drop_eq_getElem_cons h

theorem mxi_succ (n : Nat) : mxi n (n + 1) = ((n + 1 : Nat) : Int) := by
  unfold mxi
  rw [if_pos (by omega)]
  omega
end Go.Proofs.Ytibgoipdaeaigaa.RK
