/- The document's clock (tappetref16): has, cycle, put, Rel, Abs, Set. -/
import Derived.Test.YtialldmepphloaaClkC
import Derived.Test.YtialldmepphloaaClkB
namespace Go.Proofs.Ytialldmepphloaa.CR
open Go.RowKit Go.Fr Go.Proofs.Ytialldmepphloaa.CK

def IsRef (w : World) (b : Nat) (v : Value) (nm : ByteArray) (bs most least value : Nat) (l : List (Bool × Nat × Nat)) : Prop :=
  Blk w b [.bool true, .string nm, .int .u32 most, .int .u32 bs, .int .u32 least, .int .u32 value, v] 60 ∧ Row w 87 3 v l.length (l.flatMap encA) ∧ v.ownBlock ≠ some b

section
variable {w : World} {b : Nat} {v : Value} {nm : ByteArray} {bs m n x : Nat} {l : List (Bool × Nat × Nat)}
theorem IsRef.kept {w' : World} {S : Nat → Prop} (hs : IsRef w b v nm bs m n x l) (k : Kept S w w') (hn : ∀ i, foot b v i → ¬ S i) : IsRef w' b v nm bs m n x l :=
  ⟨hs.1.kept k (hn _ (Or.inl rfl)), row_kept hs.2.1 k (fun _ hg => hn _ (Or.inr hg)), hs.2.2⟩
theorem IsRef.lt (hs : IsRef w b v nm bs m n x l) : ∀ i, foot b v i → i < w.heap.size := by
  rintro i (rfl | hi)
  · exact hs.1.lt
  · exact row_lt hs.2.1 hi

theorem has_ok (i : Int) (hs : IsRef w b v nm bs m n x l) : Calls Try.prog 60 #[.pointer (some ⟨b, 0, none⟩), .int .i64 i] w fun e w' => e = .returned (.bool (decide (0 ≤ i) && decide (i < l.length))) ∧ w = w' := by
  have c6 := hs.1.cell 6 rfl
  obtain ⟨ao, c, rfl, hc⟩ := row_any hs.2.1
  by_cases h : 0 ≤ i
  · have d0 : decide (0 ≤ i) = true := by simpa using h
    go_enter Try.func60, Try.ntmps60
    go_wp2
    go_ret
    exact ⟨by simp [h], rfl⟩
  · have d0 : decide (0 ≤ i) = false := by simpa using h
    go_enter Try.func60, Try.ntmps60
    go_wp2
    go_ret
    exact ⟨by simp, rfl⟩

set_option maxRecDepth 100000 in
theorem cycle_ok (cy : Nat) (hs : IsRef w b v nm bs m n x l) : Calls Try.prog 59 #[.pointer (some ⟨b, 0, none⟩), .int .u32 cy] w fun e w' => e = .returned (.bool (cycB n m cy)) ∧ w = w' := by
  have c2 := hs.1.cell 2 rfl
  have c4 := hs.1.cell 4 rfl
  unfold cycB
  by_cases h0 : cy = 0
  · subst h0
    go_enter Try.func59, Try.ntmps59
    go_wp2
    go_ret
    exact ⟨by simp, rfl⟩
  · have e0 : ((cy : Int) == 0) = false := by simpa using h0
    have e0' : ¬ ((cy : Int) = 0) := by omega
    by_cases h1 : n ≤ cy
    · have d1 : decide ((n : Int) ≤ (cy : Int)) = true := by simpa using h1
      by_cases h2 : cy ≤ m
      · have d2 : decide ((cy : Int) ≤ (m : Int)) = true := by simpa using h2
        go_enter Try.func59, Try.ntmps59
        go_wp2
        go_ret
        exact ⟨by simp [h0, h1, h2], rfl⟩
      · have d2 : decide ((cy : Int) ≤ (m : Int)) = false := by simp; omega
        go_enter Try.func59, Try.ntmps59
        go_wp2
        go_ret
        exact ⟨by simp [h0, h1, h2], rfl⟩
    · have d1 : decide ((n : Int) ≤ (cy : Int)) = false := by simp; omega
      go_enter Try.func59, Try.ntmps59
      go_wp2
      go_ret
      exact ⟨by simp [h0, h1], rfl⟩

set_option maxRecDepth 100000 in
set_option maxHeartbeats 2000000 in
theorem put_no (i : Int) (fine : Bool) (lf cy : Nat) (hs : IsRef w b v nm bs m n x l) (h : (decide (0 ≤ i) && decide (i < l.length)) = false) : Calls Try.prog 58 #[.pointer (some ⟨b, 0, none⟩), .int .i64 i, .bool fine, .int .u64 lf, .int .u32 cy] w fun e w' =>
    e = .returned (.int .i64 3) ∧ w = w' := by
  have hh := has_ok i hs
  rw [h] at hh
  go_enter Try.func58, Try.ntmps58
  go_wp2_with (go_at_call 60; refine hh.mono ?_; rintro e w' ⟨rfl, rfl⟩)
  go_ret
  exact ⟨rfl, rfl⟩

theorem IsRef.spot (hs : IsRef w b v nm bs m n x l) {k : Nat} {s : Bool} {lf cy : Nat} (h : l[k]? = some (s, lf, cy)) : ∃ g c, v = .slice (some ⟨g, 0, none⟩) l.length c ∧ g ≠ b ∧
    w.cell? ⟨g, k * 3, none⟩ = some (.bool s) ∧ w.cell? ⟨g, k * 3 + 1, none⟩ = some (.int .u64 lf) ∧ w.cell? ⟨g, k * 3 + 2, none⟩ = some (.int .u32 cy) ∧
    w.frozen? ⟨g, k * 3, none⟩ = false ∧ w.frozen? ⟨g, k * 3 + 1, none⟩ = false ∧ w.frozen? ⟨g, k * 3 + 2, none⟩ = false := by
  have hk := (List.getElem?_eq_some_iff.1 h).1
  rcases row_forms hs.2.1 with ⟨_, h0⟩ | ⟨g, c, rfl, _, _, hg⟩
  · omega
  · exact ⟨g, c, rfl, fun e => hs.2.2 (by rw [← e]; rfl), rows_cell (i := 0) encA_len hs.2.1 h rfl, rows_cell (i := 1) encA_len hs.2.1 h rfl, rows_cell (i := 2) encA_len hs.2.1 h rfl, row_frozen hs.2.1 _, row_frozen hs.2.1 _, row_frozen hs.2.1 _⟩
theorem rowa_set {w : World} {g c N k : Nat} {l : List (Bool × Nat × Nat)} {a : Bool × Nat × Nat} (a' : Bool × Nat × Nat) (h : Row w 87 3 (.slice (some ⟨g, 0, none⟩) N c) N (l.flatMap encA)) (hx : l[k]? = some a) :
    Row (((w.setCell ⟨g, k * 3, none⟩ (.bool a'.1)).setCell ⟨g, k * 3 + 1, none⟩ (.int .u64 a'.2.1)).setCell ⟨g, k * 3 + 2, none⟩ (.int .u32 a'.2.2)) 87 3 (.slice (some ⟨g, 0, none⟩) N c) N ((l.set k a').flatMap encA) := by
  have hk := (List.getElem?_eq_some_iff.1 hx).1
  obtain ⟨s, lf, cy⟩ := a
  obtain ⟨s', lf', cy'⟩ := a'
  have r1 := rows_set (i := 0) encA_len h (s', lf, cy) (u := .bool s') hx (by decide) rfl
  have r2 := rows_set (k := k) (i := 1) (x := (s', lf, cy)) encA_len r1 (s', lf', cy) (u := .int .u64 lf') (by rw [List.getElem?_set_self hk]) (by decide) rfl
  rw [List.set_set] at r2
  have r3 := rows_set (k := k) (i := 2) (x := (s', lf', cy)) encA_len r2 (s', lf', cy') (u := .int .u32 cy') (by rw [List.getElem?_set_self hk]) (by decide) rfl
  rw [List.set_set] at r3
  exact r3
end
end Go.Proofs.Ytialldmepphloaa.CR
