/- Package clock: Rel, Abs, Set. -/
import Derived.Test.YtemhfonneggneaaKcP
namespace Go.Proofs.Ytemhfonneggneaa.CK
open Go.RowKit Go.Fr

section
variable {w : World} {b : Nat} {v : Value} {m n x : Nat} {l : List (Bool × Nat × Nat)}

/-- the three boxes of such a call -/
def boxes (w : World) (b t cy : Nat) : World := ((w.alloc (.cells #[.pointer (some ⟨b, 0, none⟩)] 85)).alloc (.cells #[.int .u32 t] 22)).alloc (.cells #[.int .u32 cy] 22)
theorem boxes_kept (w : World) (b t cy : Nat) : Kept (fun _ => False) w (boxes w b t cy) := (((Kept.refl _ w).alloc _).alloc _).alloc _
theorem boxes_size (w : World) (b t cy : Nat) : (boxes w b t cy).heap.size = w.heap.size + 1 + 1 + 1 := by simp [boxes]
theorem boxes_c (w : World) (b t cy : Nat) : (boxes w b t cy).cell? ⟨w.heap.size, 0, none⟩ = some (.pointer (some ⟨b, 0, none⟩)) :=
  (((Blk.new w [.pointer (some ⟨b, 0, none⟩)] 85).alloc _).alloc _).cell 0 rfl
theorem boxes_t (w : World) (b t cy : Nat) : (boxes w b t cy).cell? ⟨w.heap.size + 1, 0, none⟩ = some (.int .u32 t) := by
  have h := Blk.new (w.alloc (.cells #[.pointer (some ⟨b, 0, none⟩)] 85)) [.int .u32 t] 22
  rw [World.size_alloc] at h
  exact (h.alloc _).cell 0 rfl
theorem boxes_y (w : World) (b t cy : Nat) : (boxes w b t cy).cell? ⟨w.heap.size + 1 + 1, 0, none⟩ = some (.int .u32 cy) := by
  have h := Blk.new ((w.alloc (.cells #[.pointer (some ⟨b, 0, none⟩)] 85)).alloc (.cells #[.int .u32 t] 22)) [.int .u32 cy] 22
  rw [World.size_alloc, World.size_alloc] at h
  exact h.cell 0 rfl

set_option maxRecDepth 100000 in
set_option maxHeartbeats 2000000 in
theorem put_no {W : World} (i : Int) (cy : Nat) {fr fl : Value} (hs : IsClk W b v m n x l) (hh : (decide (0 ≤ i) && decide (i < l.length)) = false) :
    Calls Try.prog 63 #[.pointer (some ⟨b, 0, none⟩), .int .i64 i, fr, fl, .int .u32 cy] W fun e w' => e = .returned (.int .i64 3) ∧ w' = W := by
  have hhas := has_ok i hs
  rw [hh] at hhas
  go_enter Try.func63, Try.ntmps63
  go_wp2_with (go_at_call 86; refine hhas.mono ?_; rintro e w' ⟨rfl, rfl⟩)
  go_ret
  exact ⟨rfl, rfl⟩

set_option maxRecDepth 100000 in
set_option maxHeartbeats 2000000 in
theorem put_set {W : World} {k lf c' : Nat} (cy : Nat) {fr fl : Value} (hs : IsClk W b v m n x l) (hx : l[k]? = some (true, lf, c')) :
    Calls Try.prog 63 #[.pointer (some ⟨b, 0, none⟩), .int .i64 k, fr, fl, .int .u32 cy] W fun e w' => e = .returned (.int .i64 7) ∧ w' = W := by
  have hkl := (List.getElem?_eq_some_iff.1 hx).1
  have hhas := has_ok k hs
  rw [show (decide (0 ≤ (k : Int)) && decide ((k : Int) < l.length)) = true by simp; omega] at hhas
  obtain ⟨g, c, rfl, hgb, hg, d0, d1, d2⟩ := hs.alarm hx
  have c4 := hs.1.cell 4 rfl
  have hk0 : (0 : Int) ≤ (k : Int) := Int.natCast_nonneg _
  have hk1 : (k : Int) < (l.length : Int) := by omega
  go_enter Try.func63, Try.ntmps63
  go_wp2_with (go_at_call 86; refine hhas.mono ?_; rintro e w' ⟨rfl, rfl⟩)
  go_ret
  exact ⟨rfl, rfl⟩

section
variable {g1 : Array Value}

set_option maxRecDepth 100000 in
set_option maxHeartbeats 2000000 in
theorem putrel_bad {W : World} {k lf c' cy : Nat} {cr : Array Value} {fl : Value} (hs : IsClk W b v m n x l) (hx : l[k]? = some (false, lf, c')) (hright : Calls Try.prog 68 cr W fun e w' => e = .returned (.bool false) ∧ ∃ q, w' = W.drewN q) :
    Calls Try.prog 63 #[.pointer (some ⟨b, 0, none⟩), .int .i64 k, .func (.func 68) #[] cr, fl, .int .u32 cy] W fun e w' => e = .returned (.int .i64 8) ∧ ∃ q, w' = W.drewN q := by
  have hkl := (List.getElem?_eq_some_iff.1 hx).1
  have hhas := has_ok k hs
  rw [show (decide (0 ≤ (k : Int)) && decide ((k : Int) < l.length)) = true by simp; omega] at hhas
  obtain ⟨g, c, rfl, hgb, hg, d0, d1, d2⟩ := hs.alarm hx
  have c4 := hs.1.cell 4 rfl
  have hk0 : (0 : Int) ≤ (k : Int) := Int.natCast_nonneg _
  have hk1 : (k : Int) < (l.length : Int) := by omega
  go_enter Try.func63, Try.ntmps63
  go_wp2_with (first
    | (go_at_call 86; refine hhas.mono ?_; rintro e w' ⟨rfl, rfl⟩)
    | (go_at_call 68; refine hright.mono ?_; rintro e w' ⟨rfl, q, rfl⟩))
  go_ret
  exact ⟨rfl, q, rfl⟩

set_option maxRecDepth 100000 in
set_option maxHeartbeats 2000000 in
theorem putrel_ok {W : World} {k lf c' cy lf' : Nat} {cr cl : Array Value} (hs : IsClk W b v m n x l) (hx : l[k]? = some (false, lf, c')) (hright : Calls Try.prog 68 cr W fun e w' => e = .returned (.bool true) ∧ ∃ q, w' = W.drewN q)
    (hleft : ∀ q, Calls Try.prog 69 cl (W.drewN q) fun e w' => e = .returned (.int .u64 lf') ∧ ∃ q', w' = (W.drewN q).drewN q') (h1 : 1 ≤ lf' ∧ lf' ≤ 4294967296) (h2 : cy ≤ m) :
    Calls Try.prog 63 #[.pointer (some ⟨b, 0, none⟩), .int .i64 k, .func (.func 68) #[] cr, .func (.func 69) #[] cl, .int .u32 cy] W fun e w' => e = .returned (.int .i64 0) ∧ IsClk w' b v m n x (l.set k (true, lf', cy)) ∧ Kept (foot b v) W w' := by
  have hkl := (List.getElem?_eq_some_iff.1 hx).1
  have hhas := has_ok k hs
  rw [show (decide (0 ≤ (k : Int)) && decide ((k : Int) < l.length)) = true by simp; omega] at hhas
  obtain ⟨g, c, rfl, hgb, hg, d0, d1, d2⟩ := hs.alarm hx
  have c4 := hs.1.cell 4 rfl
  have hk0 : (0 : Int) ≤ (k : Int) := Int.natCast_nonneg _
  have hk1 : (k : Int) < (l.length : Int) := by omega
  have f0 := row_frozen hs.2.1 (k * 3)
  have f1 := row_frozen hs.2.1 (k * 3 + 1)
  have f2 := row_frozen hs.2.1 (k * 3 + 2)
  go_enter Try.func63, Try.ntmps63
  go_wp2_with (first
    | (go_at_call 86; refine hhas.mono ?_; rintro e w' ⟨rfl, rfl⟩)
    | (go_at_call 68; refine hright.mono ?_; rintro e w' ⟨rfl, q, rfl⟩))
  go_region_with (first
      | (go_at_call 69; refine (hleft _).mono ?_; rintro e w5 ⟨rfl, q', rfl⟩))
  all_goals
    go_wp2
    go_ret
    refine ⟨rfl, IsClk.write (w := W.drewN (q + 1 + q')) (s' := true) (lf' := lf') (cy' := cy) hs hx h1.2 h2 (fun _ => h1.1), ?_⟩
    exact ((((Kept.refl _ W).drewN _).setCell (p := ⟨g, k * 3, none⟩) (Or.inl (Or.inr rfl)) _).setCell (p := ⟨g, k * 3 + 1, none⟩) (Or.inl (Or.inr rfl)) _).setCell (p := ⟨g, k * 3 + 2, none⟩) (Or.inl (Or.inr rfl)) _
end

set_option maxRecDepth 100000 in
set_option maxHeartbeats 2000000 in
theorem rel_no (i : Int) (t cy : Nat) (hs : IsClk w b v m n x l) (hh : (decide (0 ≤ i) && decide (i < l.length)) = false) :
    Calls Try.prog 33 #[.pointer (some ⟨b, 0, none⟩), .int .i64 i, .int .u32 t, .int .u32 cy] w fun e w' => e = .returned (.int .i64 3) ∧ Kept (fun _ => False) w w' := by
  have hmf : ∀ (fn : Fn) (first cap : Array Value) (w : World), (Instr.makeFunc fn first cap).run Try.prog w = .ok (.func fn first cap) w := fun _ _ _ _ => rfl
  have k0 := boxes_kept w b t cy
  have hs0 := hs.kept k0 (fun _ _ h => h)
  have dc := boxes_c w b t cy
  have dy := boxes_y w b t cy
  unfold boxes at *
  go_enter Try.func33, Try.ntmps33
  go_wp2_with fail
  refine (put_no i cy hs0 hh).mono ?_
  rintro e w1 ⟨rfl, rfl⟩
  go_wp2
  go_ret
  exact ⟨rfl, k0⟩

set_option maxRecDepth 100000 in
set_option maxHeartbeats 2000000 in
theorem rel_set {k lf c' : Nat} (t cy : Nat) (hs : IsClk w b v m n x l) (hx : l[k]? = some (true, lf, c')) :
    Calls Try.prog 33 #[.pointer (some ⟨b, 0, none⟩), .int .i64 k, .int .u32 t, .int .u32 cy] w fun e w' => e = .returned (.int .i64 7) ∧ Kept (fun _ => False) w w' := by
  have hmf : ∀ (fn : Fn) (first cap : Array Value) (w : World), (Instr.makeFunc fn first cap).run Try.prog w = .ok (.func fn first cap) w := fun _ _ _ _ => rfl
  have k0 := boxes_kept w b t cy
  have hs0 := hs.kept k0 (fun _ _ h => h)
  have dc := boxes_c w b t cy
  have dy := boxes_y w b t cy
  unfold boxes at *
  go_enter Try.func33, Try.ntmps33
  go_wp2_with fail
  refine (put_set cy hs0 hx).mono ?_
  rintro e w1 ⟨rfl, rfl⟩
  go_wp2
  go_ret
  exact ⟨rfl, k0⟩

set_option maxRecDepth 100000 in
set_option maxHeartbeats 2000000 in
theorem rel_bad {k lf c' t cy : Nat} (_ : t ≤ 4294967295) (hs : IsClk w b v m n x l) (hx : l[k]? = some (false, lf, c')) (hf : (decide (1 ≤ t) && decide (t ≤ m) && cycB n m cy) = false) :
    Calls Try.prog 33 #[.pointer (some ⟨b, 0, none⟩), .int .i64 k, .int .u32 t, .int .u32 cy] w fun e w' => e = .returned (.int .i64 8) ∧ Kept (fun _ => False) w w' := by
  have hmf : ∀ (fn : Fn) (first cap : Array Value) (w : World), (Instr.makeFunc fn first cap).run Try.prog w = .ok (.func fn first cap) w := fun _ _ _ _ => rfl
  have k0 := boxes_kept w b t cy
  have hs0 := hs.kept k0 (fun _ _ h => h)
  have dc := boxes_c w b t cy
  have dt := boxes_t w b t cy
  have dy := boxes_y w b t cy
  have hright := rel1_ok hs0 dt dc dy
  rw [hf] at hright
  unfold boxes at *
  go_enter Try.func33, Try.ntmps33
  go_wp2_with fail
  refine (putrel_bad hs0 hx hright).mono ?_
  rintro e w1 ⟨rfl, q, rfl⟩
  go_wp2
  go_ret
  exact ⟨rfl, k0.drewN q⟩

set_option maxRecDepth 100000 in
set_option maxHeartbeats 2000000 in
theorem rel_ok {k lf c' t cy : Nat} (ht : t ≤ 4294967295) (hs : IsClk w b v m n x l) (hx : l[k]? = some (false, lf, c')) (hf : (decide (1 ≤ t) && decide (t ≤ m) && cycB n m cy) = true) (h1 : 1 ≤ t ∧ t ≤ 4294967296) (h2 : cy ≤ m) :
    Calls Try.prog 33 #[.pointer (some ⟨b, 0, none⟩), .int .i64 k, .int .u32 t, .int .u32 cy] w fun e w' => e = .returned (.int .i64 0) ∧ IsClk w' b v m n x (l.set k (true, t, cy)) ∧ Kept (foot b v) w w' := by
  have hmf : ∀ (fn : Fn) (first cap : Array Value) (w : World), (Instr.makeFunc fn first cap).run Try.prog w = .ok (.func fn first cap) w := fun _ _ _ _ => rfl
  have k0 := boxes_kept w b t cy
  have hs0 := hs.kept k0 (fun _ _ h => h)
  have dc := boxes_c w b t cy
  have dt := boxes_t w b t cy
  have dy := boxes_y w b t cy
  have hright := rel1_ok hs0 dt dc dy
  rw [hf] at hright
  have hleft : ∀ q, Calls Try.prog 69 #[.pointer (some ⟨w.heap.size + 1, 0, none⟩)] ((boxes w b t cy).drewN q) fun e w' => e = .returned (.int .u64 t) ∧ ∃ q', w' = ((boxes w b t cy).drewN q).drewN q' := fun q => (rel2_ok (w := (boxes w b t cy).drewN q) ht dt).mono (by rintro e w' ⟨rfl, rfl⟩; exact ⟨rfl, 0, rfl⟩)
  unfold boxes at *
  go_enter Try.func33, Try.ntmps33
  go_wp2_with fail
  refine (putrel_ok hs0 hx hright hleft h1 h2).mono ?_
  rintro e w1 ⟨rfl, hs1, k1⟩
  go_wp2
  go_ret
  exact ⟨rfl, hs1, (k0.mono (fun _ _ h => h.elim)).then k1 (fun _ h => Or.inl h)⟩

section
variable {g1 : Array Value}

set_option maxRecDepth 100000 in
set_option maxHeartbeats 2000000 in
theorem putabs_bad {W : World} {k lf c' cy : Nat} {cr : Array Value} {fl : Value} (hs : IsClk W b v m n x l) (hx : l[k]? = some (false, lf, c')) (hright : Calls Try.prog 64 cr W fun e w' => e = .returned (.bool false) ∧ ∃ q, w' = W.drewN q) :
    Calls Try.prog 63 #[.pointer (some ⟨b, 0, none⟩), .int .i64 k, .func (.func 64) #[] cr, fl, .int .u32 cy] W fun e w' => e = .returned (.int .i64 8) ∧ ∃ q, w' = W.drewN q := by
  have hkl := (List.getElem?_eq_some_iff.1 hx).1
  have hhas := has_ok k hs
  rw [show (decide (0 ≤ (k : Int)) && decide ((k : Int) < l.length)) = true by simp; omega] at hhas
  obtain ⟨g, c, rfl, hgb, hg, d0, d1, d2⟩ := hs.alarm hx
  have c4 := hs.1.cell 4 rfl
  have hk0 : (0 : Int) ≤ (k : Int) := Int.natCast_nonneg _
  have hk1 : (k : Int) < (l.length : Int) := by omega
  go_enter Try.func63, Try.ntmps63
  go_wp2_with (first
    | (go_at_call 86; refine hhas.mono ?_; rintro e w' ⟨rfl, rfl⟩)
    | (go_at_call 64; refine hright.mono ?_; rintro e w' ⟨rfl, q, rfl⟩))
  go_ret
  exact ⟨rfl, q, rfl⟩

set_option maxRecDepth 100000 in
set_option maxHeartbeats 2000000 in
theorem putabs_ok {W : World} {k lf c' cy lf' : Nat} {cr cl : Array Value} (hs : IsClk W b v m n x l) (hx : l[k]? = some (false, lf, c')) (hright : Calls Try.prog 64 cr W fun e w' => e = .returned (.bool true) ∧ ∃ q, w' = W.drewN q)
    (hleft : ∀ q, Calls Try.prog 66 cl (W.drewN q) fun e w' => e = .returned (.int .u64 lf') ∧ ∃ q', w' = (W.drewN q).drewN q') (h1 : 1 ≤ lf' ∧ lf' ≤ 4294967296) (h2 : cy ≤ m) :
    Calls Try.prog 63 #[.pointer (some ⟨b, 0, none⟩), .int .i64 k, .func (.func 64) #[] cr, .func (.func 66) #[] cl, .int .u32 cy] W fun e w' => e = .returned (.int .i64 0) ∧ IsClk w' b v m n x (l.set k (true, lf', cy)) ∧ Kept (foot b v) W w' := by
  have hkl := (List.getElem?_eq_some_iff.1 hx).1
  have hhas := has_ok k hs
  rw [show (decide (0 ≤ (k : Int)) && decide ((k : Int) < l.length)) = true by simp; omega] at hhas
  obtain ⟨g, c, rfl, hgb, hg, d0, d1, d2⟩ := hs.alarm hx
  have c4 := hs.1.cell 4 rfl
  have hk0 : (0 : Int) ≤ (k : Int) := Int.natCast_nonneg _
  have hk1 : (k : Int) < (l.length : Int) := by omega
  have f0 := row_frozen hs.2.1 (k * 3)
  have f1 := row_frozen hs.2.1 (k * 3 + 1)
  have f2 := row_frozen hs.2.1 (k * 3 + 2)
  go_enter Try.func63, Try.ntmps63
  go_wp2_with (first
    | (go_at_call 86; refine hhas.mono ?_; rintro e w' ⟨rfl, rfl⟩)
    | (go_at_call 64; refine hright.mono ?_; rintro e w' ⟨rfl, q, rfl⟩))
  go_region_with (first
      | (go_at_call 66; refine (hleft _).mono ?_; rintro e w5 ⟨rfl, q', rfl⟩))
  all_goals
    go_wp2
    go_ret
    refine ⟨rfl, IsClk.write (w := W.drewN (q + 1 + q')) (s' := true) (lf' := lf') (cy' := cy) hs hx h1.2 h2 (fun _ => h1.1), ?_⟩
    exact ((((Kept.refl _ W).drewN _).setCell (p := ⟨g, k * 3, none⟩) (Or.inl (Or.inr rfl)) _).setCell (p := ⟨g, k * 3 + 1, none⟩) (Or.inl (Or.inr rfl)) _).setCell (p := ⟨g, k * 3 + 2, none⟩) (Or.inl (Or.inr rfl)) _
end

set_option maxRecDepth 100000 in
set_option maxHeartbeats 2000000 in
theorem abs_no (i : Int) (t cy : Nat) (hs : IsClk w b v m n x l) (hh : (decide (0 ≤ i) && decide (i < l.length)) = false) :
    Calls Try.prog 32 #[.pointer (some ⟨b, 0, none⟩), .int .i64 i, .int .u32 t, .int .u32 cy] w fun e w' => e = .returned (.int .i64 3) ∧ Kept (fun _ => False) w w' := by
  have hmf : ∀ (fn : Fn) (first cap : Array Value) (w : World), (Instr.makeFunc fn first cap).run Try.prog w = .ok (.func fn first cap) w := fun _ _ _ _ => rfl
  have k0 := boxes_kept w b t cy
  have hs0 := hs.kept k0 (fun _ _ h => h)
  have dc := boxes_c w b t cy
  have dy := boxes_y w b t cy
  unfold boxes at *
  go_enter Try.func32, Try.ntmps32
  go_wp2_with fail
  refine (put_no i cy hs0 hh).mono ?_
  rintro e w1 ⟨rfl, rfl⟩
  go_wp2
  go_ret
  exact ⟨rfl, k0⟩

set_option maxRecDepth 100000 in
set_option maxHeartbeats 2000000 in
theorem abs_set {k lf c' : Nat} (t cy : Nat) (hs : IsClk w b v m n x l) (hx : l[k]? = some (true, lf, c')) :
    Calls Try.prog 32 #[.pointer (some ⟨b, 0, none⟩), .int .i64 k, .int .u32 t, .int .u32 cy] w fun e w' => e = .returned (.int .i64 7) ∧ Kept (fun _ => False) w w' := by
  have hmf : ∀ (fn : Fn) (first cap : Array Value) (w : World), (Instr.makeFunc fn first cap).run Try.prog w = .ok (.func fn first cap) w := fun _ _ _ _ => rfl
  have k0 := boxes_kept w b t cy
  have hs0 := hs.kept k0 (fun _ _ h => h)
  have dc := boxes_c w b t cy
  have dy := boxes_y w b t cy
  unfold boxes at *
  go_enter Try.func32, Try.ntmps32
  go_wp2_with fail
  refine (put_set cy hs0 hx).mono ?_
  rintro e w1 ⟨rfl, rfl⟩
  go_wp2
  go_ret
  exact ⟨rfl, k0⟩

set_option maxRecDepth 100000 in
set_option maxHeartbeats 2000000 in
theorem abs_bad {k lf c' t cy : Nat} (_ : t ≤ 4294967295) (hs : IsClk w b v m n x l) (hx : l[k]? = some (false, lf, c')) (hf : (decide (t ≤ m) && cycB n m cy) = false) :
    Calls Try.prog 32 #[.pointer (some ⟨b, 0, none⟩), .int .i64 k, .int .u32 t, .int .u32 cy] w fun e w' => e = .returned (.int .i64 8) ∧ Kept (fun _ => False) w w' := by
  have hmf : ∀ (fn : Fn) (first cap : Array Value) (w : World), (Instr.makeFunc fn first cap).run Try.prog w = .ok (.func fn first cap) w := fun _ _ _ _ => rfl
  have k0 := boxes_kept w b t cy
  have hs0 := hs.kept k0 (fun _ _ h => h)
  have dc := boxes_c w b t cy
  have dt := boxes_t w b t cy
  have dy := boxes_y w b t cy
  have hright := abs1_ok hs0 dt dc dy
  rw [hf] at hright
  unfold boxes at *
  go_enter Try.func32, Try.ntmps32
  go_wp2_with fail
  refine (putabs_bad hs0 hx hright).mono ?_
  rintro e w1 ⟨rfl, q, rfl⟩
  go_wp2
  go_ret
  exact ⟨rfl, k0.drewN q⟩

set_option maxRecDepth 100000 in
set_option maxHeartbeats 2000000 in
theorem abs_ok {k lf c' t cy : Nat} (ht : t ≤ 4294967295) (hs : IsClk w b v m n x l) (hx : l[k]? = some (false, lf, c')) (hf : (decide (t ≤ m) && cycB n m cy) = true) (h1 : 1 ≤ (until' m x t) ∧ (until' m x t) ≤ 4294967296) (h2 : cy ≤ m) :
    Calls Try.prog 32 #[.pointer (some ⟨b, 0, none⟩), .int .i64 k, .int .u32 t, .int .u32 cy] w fun e w' => e = .returned (.int .i64 0) ∧ IsClk w' b v m n x (l.set k (true, (until' m x t), cy)) ∧ Kept (foot b v) w w' := by
  have hmf : ∀ (fn : Fn) (first cap : Array Value) (w : World), (Instr.makeFunc fn first cap).run Try.prog w = .ok (.func fn first cap) w := fun _ _ _ _ => rfl
  have k0 := boxes_kept w b t cy
  have hs0 := hs.kept k0 (fun _ _ h => h)
  have dc := boxes_c w b t cy
  have dt := boxes_t w b t cy
  have dy := boxes_y w b t cy
  have hright := abs1_ok hs0 dt dc dy
  rw [hf] at hright
  have hleft : ∀ q, Calls Try.prog 66 #[.pointer (some ⟨w.heap.size, 0, none⟩), .pointer (some ⟨w.heap.size + 1, 0, none⟩)] ((boxes w b t cy).drewN q) fun e w' => e = .returned (.int .u64 (until' m x t)) ∧ ∃ q', w' = ((boxes w b t cy).drewN q).drewN q' := fun q => abs2_ok (w := (boxes w b t cy).drewN q) ht hs0 dt dc
  unfold boxes at *
  go_enter Try.func32, Try.ntmps32
  go_wp2_with fail
  refine (putabs_ok hs0 hx hright hleft h1 h2).mono ?_
  rintro e w1 ⟨rfl, hs1, k1⟩
  go_wp2
  go_ret
  exact ⟨rfl, hs1, (k0.mono (fun _ _ h => h.elim)).then k1 (fun _ h => Or.inl h)⟩

section
variable {g1 : Array Value}

set_option maxRecDepth 100000 in
set_option maxHeartbeats 2000000 in
theorem putset_bad {W : World} {k lf c' cy : Nat} {cr : Array Value} {fl : Value} (hs : IsClk W b v m n x l) (hx : l[k]? = some (false, lf, c')) (hright : Calls Try.prog 90 cr W fun e w' => e = .returned (.bool false) ∧ ∃ q, w' = W.drewN q) :
    Calls Try.prog 63 #[.pointer (some ⟨b, 0, none⟩), .int .i64 k, .func (.func 90) #[] cr, fl, .int .u32 cy] W fun e w' => e = .returned (.int .i64 8) ∧ ∃ q, w' = W.drewN q := by
  have hkl := (List.getElem?_eq_some_iff.1 hx).1
  have hhas := has_ok k hs
  rw [show (decide (0 ≤ (k : Int)) && decide ((k : Int) < l.length)) = true by simp; omega] at hhas
  obtain ⟨g, c, rfl, hgb, hg, d0, d1, d2⟩ := hs.alarm hx
  have c4 := hs.1.cell 4 rfl
  have hk0 : (0 : Int) ≤ (k : Int) := Int.natCast_nonneg _
  have hk1 : (k : Int) < (l.length : Int) := by omega
  go_enter Try.func63, Try.ntmps63
  go_wp2_with (first
    | (go_at_call 86; refine hhas.mono ?_; rintro e w' ⟨rfl, rfl⟩)
    | (go_at_call 90; refine hright.mono ?_; rintro e w' ⟨rfl, q, rfl⟩))
  go_ret
  exact ⟨rfl, q, rfl⟩

set_option maxRecDepth 100000 in
set_option maxHeartbeats 2000000 in
theorem putset_ok {W : World} {k lf c' cy lf' : Nat} {cr cl : Array Value} (hs : IsClk W b v m n x l) (hx : l[k]? = some (false, lf, c')) (hright : Calls Try.prog 90 cr W fun e w' => e = .returned (.bool true) ∧ ∃ q, w' = W.drewN q)
    (hleft : ∀ q, Calls Try.prog 91 cl (W.drewN q) fun e w' => e = .returned (.int .u64 lf') ∧ ∃ q', w' = (W.drewN q).drewN q') (h1 : 1 ≤ lf' ∧ lf' ≤ 4294967296) (h2 : cy ≤ m) :
    Calls Try.prog 63 #[.pointer (some ⟨b, 0, none⟩), .int .i64 k, .func (.func 90) #[] cr, .func (.func 91) #[] cl, .int .u32 cy] W fun e w' => e = .returned (.int .i64 0) ∧ IsClk w' b v m n x (l.set k (true, lf', cy)) ∧ Kept (foot b v) W w' := by
  have hkl := (List.getElem?_eq_some_iff.1 hx).1
  have hhas := has_ok k hs
  rw [show (decide (0 ≤ (k : Int)) && decide ((k : Int) < l.length)) = true by simp; omega] at hhas
  obtain ⟨g, c, rfl, hgb, hg, d0, d1, d2⟩ := hs.alarm hx
  have c4 := hs.1.cell 4 rfl
  have hk0 : (0 : Int) ≤ (k : Int) := Int.natCast_nonneg _
  have hk1 : (k : Int) < (l.length : Int) := by omega
  have f0 := row_frozen hs.2.1 (k * 3)
  have f1 := row_frozen hs.2.1 (k * 3 + 1)
  have f2 := row_frozen hs.2.1 (k * 3 + 2)
  go_enter Try.func63, Try.ntmps63
  go_wp2_with (first
    | (go_at_call 86; refine hhas.mono ?_; rintro e w' ⟨rfl, rfl⟩)
    | (go_at_call 90; refine hright.mono ?_; rintro e w' ⟨rfl, q, rfl⟩))
  go_region_with (first
      | (go_at_call 91; refine (hleft _).mono ?_; rintro e w5 ⟨rfl, q', rfl⟩))
  all_goals
    go_wp2
    go_ret
    refine ⟨rfl, IsClk.write (w := W.drewN (q + 1 + q')) (s' := true) (lf' := lf') (cy' := cy) hs hx h1.2 h2 (fun _ => h1.1), ?_⟩
    exact ((((Kept.refl _ W).drewN _).setCell (p := ⟨g, k * 3, none⟩) (Or.inl (Or.inr rfl)) _).setCell (p := ⟨g, k * 3 + 1, none⟩) (Or.inl (Or.inr rfl)) _).setCell (p := ⟨g, k * 3 + 2, none⟩) (Or.inl (Or.inr rfl)) _
end

set_option maxRecDepth 100000 in
set_option maxHeartbeats 2000000 in
theorem set_no (i : Int) (t cy : Nat) (hs : IsClk w b v m n x l) (hh : (decide (0 ≤ i) && decide (i < l.length)) = false) :
    Calls Try.prog 77 #[.pointer (some ⟨b, 0, none⟩), .int .i64 i, .int .u32 t, .int .u32 cy] w fun e w' => e = .returned (.int .i64 3) ∧ Kept (fun _ => False) w w' := by
  have hmf : ∀ (fn : Fn) (first cap : Array Value) (w : World), (Instr.makeFunc fn first cap).run Try.prog w = .ok (.func fn first cap) w := fun _ _ _ _ => rfl
  have k0 := boxes_kept w b t cy
  have hs0 := hs.kept k0 (fun _ _ h => h)
  have dc := boxes_c w b t cy
  have dy := boxes_y w b t cy
  unfold boxes at *
  go_enter Try.func77, Try.ntmps77
  go_wp2_with fail
  refine (put_no i cy hs0 hh).mono ?_
  rintro e w1 ⟨rfl, rfl⟩
  go_wp2
  go_ret
  exact ⟨rfl, k0⟩

set_option maxRecDepth 100000 in
set_option maxHeartbeats 2000000 in
theorem set_set {k lf c' : Nat} (t cy : Nat) (hs : IsClk w b v m n x l) (hx : l[k]? = some (true, lf, c')) :
    Calls Try.prog 77 #[.pointer (some ⟨b, 0, none⟩), .int .i64 k, .int .u32 t, .int .u32 cy] w fun e w' => e = .returned (.int .i64 7) ∧ Kept (fun _ => False) w w' := by
  have hmf : ∀ (fn : Fn) (first cap : Array Value) (w : World), (Instr.makeFunc fn first cap).run Try.prog w = .ok (.func fn first cap) w := fun _ _ _ _ => rfl
  have k0 := boxes_kept w b t cy
  have hs0 := hs.kept k0 (fun _ _ h => h)
  have dc := boxes_c w b t cy
  have dy := boxes_y w b t cy
  unfold boxes at *
  go_enter Try.func77, Try.ntmps77
  go_wp2_with fail
  refine (put_set cy hs0 hx).mono ?_
  rintro e w1 ⟨rfl, rfl⟩
  go_wp2
  go_ret
  exact ⟨rfl, k0⟩

set_option maxRecDepth 100000 in
set_option maxHeartbeats 2000000 in
theorem set_bad {k lf c' t cy : Nat} (ht : t ≤ 4294967295) (hs : IsClk w b v m n x l) (hx : l[k]? = some (false, lf, c')) (hf : (decide (1 ≤ t) && decide (t ≤ m + 1) && decide (cy ≤ m)) = false) :
    Calls Try.prog 77 #[.pointer (some ⟨b, 0, none⟩), .int .i64 k, .int .u32 t, .int .u32 cy] w fun e w' => e = .returned (.int .i64 8) ∧ Kept (fun _ => False) w w' := by
  have hmf : ∀ (fn : Fn) (first cap : Array Value) (w : World), (Instr.makeFunc fn first cap).run Try.prog w = .ok (.func fn first cap) w := fun _ _ _ _ => rfl
  have k0 := boxes_kept w b t cy
  have hs0 := hs.kept k0 (fun _ _ h => h)
  have dc := boxes_c w b t cy
  have dt := boxes_t w b t cy
  have dy := boxes_y w b t cy
  have hright := set1_ok ht hs0 dt dc dy
  rw [hf] at hright
  unfold boxes at *
  go_enter Try.func77, Try.ntmps77
  go_wp2_with fail
  refine (putset_bad hs0 hx hright).mono ?_
  rintro e w1 ⟨rfl, q, rfl⟩
  go_wp2
  go_ret
  exact ⟨rfl, k0.drewN q⟩

set_option maxRecDepth 100000 in
set_option maxHeartbeats 2000000 in
theorem set_ok {k lf c' t cy : Nat} (ht : t ≤ 4294967295) (hs : IsClk w b v m n x l) (hx : l[k]? = some (false, lf, c')) (hf : (decide (1 ≤ t) && decide (t ≤ m + 1) && decide (cy ≤ m)) = true) (h1 : 1 ≤ t ∧ t ≤ 4294967296) (h2 : cy ≤ m) :
    Calls Try.prog 77 #[.pointer (some ⟨b, 0, none⟩), .int .i64 k, .int .u32 t, .int .u32 cy] w fun e w' => e = .returned (.int .i64 0) ∧ IsClk w' b v m n x (l.set k (true, t, cy)) ∧ Kept (foot b v) w w' := by
  have hmf : ∀ (fn : Fn) (first cap : Array Value) (w : World), (Instr.makeFunc fn first cap).run Try.prog w = .ok (.func fn first cap) w := fun _ _ _ _ => rfl
  have k0 := boxes_kept w b t cy
  have hs0 := hs.kept k0 (fun _ _ h => h)
  have dc := boxes_c w b t cy
  have dt := boxes_t w b t cy
  have dy := boxes_y w b t cy
  have hright := set1_ok ht hs0 dt dc dy
  rw [hf] at hright
  have hleft : ∀ q, Calls Try.prog 91 #[.pointer (some ⟨w.heap.size + 1, 0, none⟩)] ((boxes w b t cy).drewN q) fun e w' => e = .returned (.int .u64 t) ∧ ∃ q', w' = ((boxes w b t cy).drewN q).drewN q' := fun q => (set2_ok (w := (boxes w b t cy).drewN q) ht dt).mono (by rintro e w' ⟨rfl, rfl⟩; exact ⟨rfl, 0, rfl⟩)
  unfold boxes at *
  go_enter Try.func77, Try.ntmps77
  go_wp2_with fail
  refine (putset_ok hs0 hx hright hleft h1 h2).mono ?_
  rintro e w1 ⟨rfl, hs1, k1⟩
  go_wp2
  go_ret
  exact ⟨rfl, hs1, (k0.mono (fun _ _ h => h.elim)).then k1 (fun _ h => Or.inl h)⟩
end
end Go.Proofs.Ytemhfonneggneaa.CK
