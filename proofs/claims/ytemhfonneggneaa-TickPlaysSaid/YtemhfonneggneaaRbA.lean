/- The document's board: there, Left, Cancel, Request, Serve. -/
import Derived.Test.YtemhfonneggneaaTbC
import Derived.Test.YtemhfonneggneaaMem
import Derived.Test.YtemhfonneggneaaKcB
import Derived.Test.YtemhfonneggneaaRows
import Derived.Lib.Hide
import Derived.BigQuiet
import Derived.StillTailTactics
/- The document's board: where its parts lie. -/
namespace Go.Proofs.Ytemhfonneggneaa.RB
open Go.RowKit Go.Fr Go.Tb Go.Proofs.Ytemhfonneggneaa.CK
attribute [local go_sem] Oper.semAt_some

/-- where the three lists lie: values, alarms, requests -/
structure Rm where
  v : Value
  a : Value
  r : Value
def encL (a : Bool × Nat × Nat) : List Value := [.bool a.1, .int .u32 a.2.1, .int .u32 a.2.2]
theorem encL_len (a : Bool × Nat × Nat) : (encL a).length = 3 := rfl
def vu (x : Nat) : Value := .int .u32 x
def rcells (M : Rm) (T : Tb) : List Value := T.cells ++ [M.v, M.a, M.r]
def rfoot (p : Nat) (M : Rm) (g : Nat) : Prop := g = p ∨ M.v.ownBlock = some g ∨ M.a.ownBlock = some g ∨ M.r.ownBlock = some g

structure IsRb (w : World) (p : Nat) (M : Rm) (T : Tb) (V : List Nat) (A : List (Bool × Nat × Nat)) (R : List Bool) : Prop where
  blk : Blk w p (rcells M T) 109
  rv : Row w 22 1 M.v V.length (V.map vu)
  ra : Row w 129 3 M.a A.length (A.flatMap encL)
  rr : Row w 4 1 M.r R.length (R.map Value.bool)
  lens : V.length = T.counters.length ∧ A.length = T.alarms.length ∧ R.length = T.isrs.length
  pv : ∀ g, M.v.ownBlock = some g → g ≠ p ∧ M.a.ownBlock ≠ some g ∧ M.r.ownBlock ≠ some g
  pa : ∀ g, M.a.ownBlock = some g → g ≠ p ∧ M.r.ownBlock ≠ some g
  pr : ∀ g, M.r.ownBlock = some g → g ≠ p

section
variable {w w' : World} {p : Nat} {M : Rm} {T : Tb} {V : List Nat} {A : List (Bool × Nat × Nat)} {R : List Bool} {S : Nat → Prop}
theorem IsRb.lt (hs : IsRb w p M T V A R) : ∀ g, rfoot p M g → g < w.heap.size := by
  rintro g (rfl | h | h | h)
  · exact hs.blk.lt
  · exact row_lt hs.rv h
  · exact row_lt hs.ra h
  · exact row_lt hs.rr h
theorem IsRb.kept (hs : IsRb w p M T V A R) (k : Kept S w w') (hn : ∀ g, rfoot p M g → ¬ S g) : IsRb w' p M T V A R :=
  { hs with
    blk := hs.blk.kept k (hn _ (Or.inl rfl))
    rv := row_kept hs.rv k (fun g hg => hn g (Or.inr (Or.inl hg)))
    ra := row_kept hs.ra k (fun g hg => hn g (Or.inr (Or.inr (Or.inl hg))))
    rr := row_kept hs.rr k (fun g hg => hn g (Or.inr (Or.inr (Or.inr hg)))) }
theorem IsRb.same (hs : IsRb w p M T V A R) (k : Kept (fun _ => False) w w') : IsRb w' p M T V A R := hs.kept k (fun _ _ x => x)
/-- the board's own cells -/
theorem IsRb.tab (hs : IsRb w p M T V A R) : w.cell? ⟨p, 0, none⟩ = some (.int .i64 T.uses) ∧ w.cell? ⟨p, 1, none⟩ = some (.int .i64 T.modes) ∧ w.cell? ⟨p, 5, none⟩ = some (.slice T.ca T.counters.length T.cc) ∧ w.cell? ⟨p, 6, none⟩ = some (.slice T.aa T.alarms.length T.ac) ∧ w.cell? ⟨p, 7, none⟩ = some (.slice T.ia T.isrs.length T.ic) :=
  ⟨hs.blk.cell 0 rfl, hs.blk.cell 1 rfl, hs.blk.cell 5 rfl, hs.blk.cell 6 rfl, hs.blk.cell 7 rfl⟩
theorem IsRb.lists (hs : IsRb w p M T V A R) : ∃ o1 k1 o2 k2 o3 k3, M.v = .slice o1 V.length k1 ∧ M.a = .slice o2 A.length k2 ∧ M.r = .slice o3 R.length k3 ∧
    w.cell? ⟨p, 13, none⟩ = some (.slice o1 V.length k1) ∧ w.cell? ⟨p, 14, none⟩ = some (.slice o2 A.length k2) ∧ w.cell? ⟨p, 15, none⟩ = some (.slice o3 R.length k3) := by
  obtain ⟨o1, k1, h1, _⟩ := row_any hs.rv
  obtain ⟨o2, k2, h2, _⟩ := row_any hs.ra
  obtain ⟨o3, k3, h3, _⟩ := row_any hs.rr
  refine ⟨o1, k1, o2, k2, o3, k3, h1, h2, h3, ?_, ?_, ?_⟩
  · rw [← h1]; exact hs.blk.cell 13 rfl
  · rw [← h2]; exact hs.blk.cell 14 rfl
  · rw [← h3]; exact hs.blk.cell 15 rfl
/-- an alarm: its cells -/
theorem IsRb.look (hs : IsRb w p M T V A R) {k : Nat} {a : Bool × Nat × Nat} (ha : A[k]? = some a) : ∃ g c, M.a = .slice (some ⟨g, 0, none⟩) A.length c ∧ w.cell? ⟨p, 14, none⟩ = some (.slice (some ⟨g, 0, none⟩) A.length c) ∧
    w.cell? ⟨g, k * 3, none⟩ = some (.bool a.1) ∧ w.cell? ⟨g, k * 3 + 1, none⟩ = some (.int .u32 a.2.1) ∧ w.cell? ⟨g, k * 3 + 2, none⟩ = some (.int .u32 a.2.2) ∧ g < w.heap.size ∧ (∀ j, w.frozen? ⟨g, j, none⟩ = false) ∧ g ≠ p := by
  have hk : k < A.length := (List.getElem?_eq_some_iff.1 ha).1
  rcases row_forms hs.ra with ⟨_, h0⟩ | ⟨g, c, hv, _, _, hg⟩
  · omega
  have hr := hs.ra
  rw [hv] at hr
  have q0 := rows_cell (i := 0) encL_len hr ha rfl
  have q1 := rows_cell (i := 1) encL_len hr ha rfl
  have q2 := rows_cell (i := 2) encL_len hr ha rfl
  refine ⟨g, c, hv, by rw [← hv]; exact hs.blk.cell 14 rfl, by simpa using q0, q1, q2, hg, fun j => row_frozen hr j, (hs.pa g (by rw [hv]; rfl)).1⟩
theorem IsRb.val (hs : IsRb w p M T V A R) {k : Nat} {v : Nat} (ha : V[k]? = some v) : ∃ g c, M.v = .slice (some ⟨g, 0, none⟩) V.length c ∧ w.cell? ⟨p, 13, none⟩ = some (.slice (some ⟨g, 0, none⟩) V.length c) ∧
    w.cell? ⟨g, k, none⟩ = some (.int .u32 v) ∧ g < w.heap.size ∧ (∀ j, w.frozen? ⟨g, j, none⟩ = false) ∧ g ≠ p := by
  have hk : k < V.length := (List.getElem?_eq_some_iff.1 ha).1
  rcases row_forms hs.rv with ⟨_, h0⟩ | ⟨g, c, hv, _, _, hg⟩
  · omega
  have hr := hs.rv
  rw [hv] at hr
  exact ⟨g, c, hv, by rw [← hv]; exact hs.blk.cell 13 rfl, row_cell hr k (by rw [List.getElem?_map, ha]; rfl), hg, fun j => row_frozen hr j, (hs.pv g (by rw [hv]; rfl)).1⟩
theorem IsRb.req (hs : IsRb w p M T V A R) {k : Nat} {v : Bool} (ha : R[k]? = some v) : ∃ g c, M.r = .slice (some ⟨g, 0, none⟩) R.length c ∧ w.cell? ⟨p, 15, none⟩ = some (.slice (some ⟨g, 0, none⟩) R.length c) ∧
    w.cell? ⟨g, k, none⟩ = some (.bool v) ∧ g < w.heap.size ∧ (∀ j, w.frozen? ⟨g, j, none⟩ = false) ∧ g ≠ p := by
  have hk : k < R.length := (List.getElem?_eq_some_iff.1 ha).1
  rcases row_forms hs.rr with ⟨_, h0⟩ | ⟨g, c, hv, _, _, hg⟩
  · omega
  have hr := hs.rr
  rw [hv] at hr
  exact ⟨g, c, hv, by rw [← hv]; exact hs.blk.cell 15 rfl, row_cell hr k (by rw [List.getElem?_map, ha]; rfl), hg, fun j => row_frozen hr j, hs.pr g (by rw [hv]; rfl)⟩
/-- a value is set -/
theorem IsRb.setV {k g c : Nat} (hs : IsRb w p M T V A R) (hv : M.v = .slice (some ⟨g, 0, none⟩) V.length c) (_ : k < V.length) (x : Nat) : IsRb (w.setCell ⟨g, k, none⟩ (.int .u32 x)) p M T (V.set k x) A R ∧ Kept (rfoot p M) w (w.setCell ⟨g, k, none⟩ (.int .u32 x)) := by
  have ho : M.v.ownBlock = some g := by rw [hv]; rfl
  obtain ⟨h1, h2, h3⟩ := hs.pv g ho
  have kk : Kept (fun i => i = g) w (w.setCell ⟨g, k, none⟩ (.int .u32 x)) := (Kept.refl (fun i => i = g) w).setCell (p := ⟨g, k, none⟩) (Or.inl rfl) _
  refine ⟨{ hs with
    blk := hs.blk.kept kk (fun e => h1 e.symm)
    rv := ?_
    ra := row_kept hs.ra kk (fun i hi e => h2 (e ▸ hi))
    rr := row_kept hs.rr kk (fun i hi e => h3 (e ▸ hi))
    lens := by rw [List.length_set]; exact hs.lens }, kk.mono (fun i _ hi => by rw [hi]; exact Or.inr (Or.inl ho))⟩
  have hr := hs.rv
  rw [hv] at hr ⊢
  have := row_set hr k (.int .u32 x)
  rw [List.length_set, List.map_set]
  exact this
/-- a request is set -/
theorem IsRb.setR {k g c : Nat} (hs : IsRb w p M T V A R) (hv : M.r = .slice (some ⟨g, 0, none⟩) R.length c) (_ : k < R.length) (x : Bool) : IsRb (w.setCell ⟨g, k, none⟩ (.bool x)) p M T V A (R.set k x) ∧ Kept (rfoot p M) w (w.setCell ⟨g, k, none⟩ (.bool x)) := by
  have ho : M.r.ownBlock = some g := by rw [hv]; rfl
  have kk : Kept (fun i => i = g) w (w.setCell ⟨g, k, none⟩ (.bool x)) := (Kept.refl (fun i => i = g) w).setCell (p := ⟨g, k, none⟩) (Or.inl rfl) _
  refine ⟨{ hs with
    blk := hs.blk.kept kk (fun e => hs.pr g ho e.symm)
    rr := ?_
    ra := row_kept hs.ra kk (fun i hi e => (hs.pa i hi).2 (e ▸ ho))
    rv := row_kept hs.rv kk (fun i hi e => (hs.pv i hi).2.2 (e ▸ ho))
    lens := by rw [List.length_set]; exact hs.lens }, kk.mono (fun i _ hi => by rw [hi]; exact Or.inr (Or.inr (Or.inr ho)))⟩
  have hr := hs.rr
  rw [hv] at hr ⊢
  have := row_set hr k (.bool x)
  rw [List.length_set, List.map_set]
  exact this
/-- one cell of an alarm is set -/
theorem IsRb.setA {k g c i : Nat} {a : Bool × Nat × Nat} (hs : IsRb w p M T V A R) (hv : M.a = .slice (some ⟨g, 0, none⟩) A.length c) (ha : A[k]? = some a) (a' : Bool × Nat × Nat) {u : Value} (hi : i < 3) (he : encL a' = (encL a).set i u) :
    IsRb (w.setCell ⟨g, k * 3 + i, none⟩ u) p M T V (A.set k a') R ∧ Kept (rfoot p M) w (w.setCell ⟨g, k * 3 + i, none⟩ u) := by
  have ho : M.a.ownBlock = some g := by rw [hv]; rfl
  have kk : Kept (fun i => i = g) w (w.setCell ⟨g, k * 3 + i, none⟩ u) := (Kept.refl (fun i => i = g) w).setCell (p := ⟨g, k * 3 + i, none⟩) (Or.inl rfl) _
  refine ⟨{ hs with
    blk := hs.blk.kept kk (fun e => (hs.pa g ho).1 e.symm)
    ra := ?_
    rv := row_kept hs.rv kk (fun i hi e => (hs.pv i hi).2.1 (e ▸ ho))
    rr := row_kept hs.rr kk (fun i hi e => (hs.pa g ho).2 (e ▸ hi))
    lens := by rw [List.length_set]; exact hs.lens }, kk.mono (fun i _ hi => by rw [hi]; exact Or.inr (Or.inr (Or.inl ho)))⟩
  have hr := hs.ra
  rw [hv] at hr ⊢
  have := rows_set (enc := encL) encL_len hr (i := i) a' ha hi he
  rw [List.length_set]
  exact this
/-- an alarm is set whole -/
theorem IsRb.setA3 {k g c : Nat} {a : Bool × Nat × Nat} (hs : IsRb w p M T V A R) (hv : M.a = .slice (some ⟨g, 0, none⟩) A.length c) (ha : A[k]? = some a) (s : Bool) (lf cy : Nat) :
    IsRb (((w.setCell ⟨g, k * 3, none⟩ (.bool s)).setCell ⟨g, k * 3 + 1, none⟩ (.int .u32 lf)).setCell ⟨g, k * 3 + 2, none⟩ (.int .u32 cy)) p M T V (A.set k (s, lf, cy)) R ∧
    Kept (rfoot p M) w (((w.setCell ⟨g, k * 3, none⟩ (.bool s)).setCell ⟨g, k * 3 + 1, none⟩ (.int .u32 lf)).setCell ⟨g, k * 3 + 2, none⟩ (.int .u32 cy)) := by
  have hk : k < A.length := (List.getElem?_eq_some_iff.1 ha).1
  obtain ⟨q0, k0⟩ := hs.setA hv ha (i := 0) (s, a.2.1, a.2.2) (u := .bool s) (by decide) rfl
  obtain ⟨q1, k1⟩ := q0.setA (k := k) (c := c) (a := (s, a.2.1, a.2.2)) (by rw [List.length_set]; exact hv) (by rw [List.getElem?_set_self hk]) (i := 1) (s, lf, a.2.2) (u := .int .u32 lf) (by decide) rfl
  obtain ⟨q2, k2⟩ := q1.setA (k := k) (c := c) (a := (s, lf, a.2.2)) (by rw [List.length_set, List.length_set]; exact hv) (by rw [List.getElem?_set_self (by simpa using hk)]) (i := 2) (s, lf, cy) (u := .int .u32 cy) (by decide) rfl
  rw [List.set_set, List.set_set] at q2
  exact ⟨q2, (k0.then k1 (fun _ h => Or.inl h)).then k2 (fun _ h => Or.inl h)⟩
end
end Go.Proofs.Ytemhfonneggneaa.RB
namespace Go.Proofs.Ytemhfonneggneaa.RB
open Go.RowKit Go.Fr Go.Tb Go.Proofs.Ytemhfonneggneaa.CK
attribute [local go_sem] Oper.semAt_some

section
variable {w w' : World} {p : Nat} {M : Rm} {T : Tb} {V : List Nat} {A : List (Bool × Nat × Nat)} {R : List Bool} {S : Nat → Prop}
theorem there_ok (i : Int) (hs : IsRb w p M T V A R) : Calls Try.prog 76 #[.pointer (some ⟨p, 0, none⟩), .int .i64 i] w fun e w' => e = .returned (.bool (decide (0 ≤ i) && decide (i < A.length))) ∧ w = w' := by
  obtain ⟨o1, k1, o2, k2, o3, k3, _, _, _, _, c14, _⟩ := hs.lists
  by_cases h : 0 ≤ i
  · have d0 : decide (0 ≤ i) = true := by simpa using h
    go_enter Try.func76, Try.ntmps76
    go_wp2
    go_ret
    exact ⟨by simp [h], rfl⟩
  · have d0 : decide (0 ≤ i) = false := by simpa using h
    go_enter Try.func76, Try.ntmps76
    go_wp2
    go_ret
    exact ⟨by simp, rfl⟩
theorem there_in {k : Nat} (hs : IsRb w p M T V A R) (hk : k < A.length) : Calls Try.prog 76 #[.pointer (some ⟨p, 0, none⟩), .int .i64 k] w fun e w' => e = .returned (.bool true) ∧ w = w' := by
  refine (there_ok k hs).mono ?_
  rintro e w' ⟨rfl, rfl⟩
  refine ⟨?_, rfl⟩
  have h1 : (0 : Int) ≤ (k : Int) := by omega
  have h2 : (k : Int) < (A.length : Int) := by omega
  simp [hk]
theorem there_no {i : Int} (hs : IsRb w p M T V A R) (hi : ¬ (0 ≤ i ∧ i < A.length)) : Calls Try.prog 76 #[.pointer (some ⟨p, 0, none⟩), .int .i64 i] w fun e w' => e = .returned (.bool false) ∧ w = w' := by
  refine (there_ok i hs).mono ?_
  rintro e w' ⟨rfl, rfl⟩
  refine ⟨?_, rfl⟩
  by_cases h : 0 ≤ i
  · have : ¬ i < A.length := fun h2 => hi ⟨h, h2⟩
    simp [this]
  · simp [h]

theorem left_no {i : Int} (hs : IsRb w p M T V A R) (hi : ¬ (0 ≤ i ∧ i < A.length)) : Calls Try.prog 42 #[.pointer (some ⟨p, 0, none⟩), .int .i64 i] w fun e w' => e = .returned (.tuple #[.int .u32 0, .int .i64 3]) ∧ w = w' := by
  go_enter Try.func42, Try.ntmps42
  go_wp2_with (go_at_call 76; refine (there_no hs hi).mono ?_; rintro e w' ⟨rfl, rfl⟩)
  go_ret2
  exact ⟨rfl, rfl⟩
set_option maxRecDepth 100000 in
theorem left_in {k : Nat} {a : Bool × Nat × Nat} (hs : IsRb w p M T V A R) (ha : A[k]? = some a) (_ : A.length ≤ 64) : Calls Try.prog 42 #[.pointer (some ⟨p, 0, none⟩), .int .i64 k] w fun e w' =>
    e = .returned (.tuple (if a.1 then #[.int .u32 a.2.1, .int .i64 0] else #[.int .u32 0, .int .i64 5])) ∧ w = w' := by
  obtain ⟨g, c, _, c14, q0, q1, q2, _⟩ := hs.look ha
  have hk : k < A.length := (List.getElem?_eq_some_iff.1 ha).1
  have hk0 : (0 : Int) ≤ (k : Int) := by omega
  have hk1 : (k : Int) < (A.length : Int) := by omega
  have HT := Lib.hid (there_in hs hk)
  obtain ⟨s, lf, cy⟩ := a
  dsimp only at q0 q1 q2 ⊢
  clear ha hs
  cases s
  all_goals
    go_enter Try.func42, Try.ntmps42
    go_wp2_with (go_at_call 76; refine HT.out.mono ?_; rintro e w' ⟨rfl, rfl⟩)
    go_ret2
    exact ⟨rfl, rfl⟩
theorem cancel_no {i : Int} (hs : IsRb w p M T V A R) (hi : ¬ (0 ≤ i ∧ i < A.length)) : Calls Try.prog 45 #[.pointer (some ⟨p, 0, none⟩), .int .i64 i] w fun e w' => e = .returned (.int .i64 3) ∧ w = w' := by
  go_enter Try.func45, Try.ntmps45
  go_wp2_with (go_at_call 76; refine (there_no hs hi).mono ?_; rintro e w' ⟨rfl, rfl⟩)
  go_ret
  exact ⟨rfl, rfl⟩
set_option maxRecDepth 100000 in
theorem cancel_in {k : Nat} {a : Bool × Nat × Nat} (hs : IsRb w p M T V A R) (ha : A[k]? = some a) (_ : A.length ≤ 64) : Calls Try.prog 45 #[.pointer (some ⟨p, 0, none⟩), .int .i64 k] w fun e w' =>
    e = .returned (.int .i64 (cancelL A k).2) ∧ IsRb w' p M T V (cancelL A k).1 R ∧ Kept (rfoot p M) w w' := by
  obtain ⟨g, c, hv, c14, q0, q1, q2, _, hf, hgp⟩ := hs.look ha
  have hk : k < A.length := (List.getElem?_eq_some_iff.1 ha).1
  have hk0 : (0 : Int) ≤ (k : Int) := by omega
  have hk1 : (k : Int) < (A.length : Int) := by omega
  have HT := Lib.hid (there_in hs hk)
  have hc : cancelL A (k : Int) = if a.1 then (A.set k (false, 0, 0), 0) else (A, 5) := by
    unfold cancelL
    rw [if_pos hk0, show ((k : Nat) : Int).toNat = k from Int.toNat_natCast k, ha]
  have hset := hs.setA3 hv ha false 0 0
  rw [hc]
  have f0 := hf (k * 3)
  have f1 := hf (k * 3 + 1)
  have f2 := hf (k * 3 + 2)
  obtain ⟨s, lf, cy⟩ := a
  dsimp only at q0 q1 q2 ⊢
  have HSET := Lib.hid hset
  have HS := Lib.hid hs
  clear ha hset hc hs hf
  cases s with
  | false =>
    go_enter Try.func45, Try.ntmps45
    go_wp2_with (go_at_call 76; refine HT.out.mono ?_; rintro e w' ⟨rfl, rfl⟩)
    go_ret
    exact ⟨rfl, HS.out, Kept.refl _ _⟩
  | true =>
    go_enter Try.func45, Try.ntmps45
    go_wp2_with (go_at_call 76; refine HT.out.mono ?_; rintro e w' ⟨rfl, rfl⟩)
    go_ret
    exact ⟨rfl, HSET.out.1, HSET.out.2⟩
end
end Go.Proofs.Ytemhfonneggneaa.RB
