/- tappetlaw21: does. -/
import Derived.Test.YtemhfonneggneaaBsK
import Derived.Deep.RegionHeld3
import Derived.ChangeKeysEq
namespace Go.Proofs.Ytemhfonneggneaa.BP
open Go.RowKit Go.Fr Go.Tb Go.Proofs.Ytemhfonneggneaa.CK Go.Proofs.Ytemhfonneggneaa.BD Go.Proofs.Ytemhfonneggneaa.RB Go.Proofs.Ytemhfonneggneaa.BS
attribute [local go_sem] Oper.semAt_some
/-- the two boards are alike -/
def Alike (W w : World) (b : Nat) (M : Bm) (p : Nat) (T : Tb) : Prop := ∃ Q V A R, Bo W w b M p Q T V A R
/-- a call of each answers the same, and the two stay alike -/
def TwoF (W w : World) (b : Nat) (M : Bm) (p : Nat) (Q : Rm) (T : Tb) (F : Value → Prop) (f1 : Nat) (a1 : Array Value) (f2 : Nat) (a2 : Array Value) : Prop :=
  Calls Try.prog f1 a1 w fun e w1 => ∃ v, F v ∧ e = .returned v ∧ Kept (bfoot b M) w w1 ∧ ∀ w2, Kept (fun g => w.heap.size ≤ g) w1 w2 → Calls Try.prog f2 a2 w2 fun e w3 => e = .returned v ∧ Alike W w3 b M p T ∧ Kept (rfoot p Q) w2 w3
theorem Two.all {W w : World} {b : Nat} {M : Bm} {p : Nat} {Q : Rm} {T : Tb} {V' : List Nat} {A' : List (Bool × Nat × Nat)} {R' : List Bool} {f1 f2 : Nat} {a1 a2 : Array Value} {v : Value} {F : Value → Prop} (h : Two W w b M p Q T V' A' R' f1 a1 f2 a2 v v) (hF : F v) : TwoF W w b M p Q T F f1 a1 f2 a2 := by
  refine Calls.mono h ?_
  rintro e w1 ⟨rfl, k1, hD⟩
  refine ⟨v, hF, rfl, k1, fun w2 k2 => (hD w2 k2).mono ?_⟩
  rintro e w3 ⟨rfl, hB, k3⟩
  exact ⟨rfl, ⟨_, _, _, _, hB⟩, k3⟩
theorem eq1 (x : Int) (w : World) : (Op.equalIn 9999 22 (.int .u32 x) (.int .u32 x)).run Try.prog w = .ok true w := by
  have h : (Op.equalIn 9999 22 (.int .u32 x) (.int .u32 x)).run Try.prog w = .ok (x == x) w := by kernel_rfl
  rw [h]
  simp
theorem part3 (x y z : Int) (w : World) : (part 22 #[.int .u32 x, .int .u32 y, .int .u32 z] 0).run Try.prog w = .ok (.int .u32 x) w ∧ (part 22 #[.int .u32 x, .int .u32 y, .int .u32 z] 1).run Try.prog w = .ok (.int .u32 y) w ∧ (part 22 #[.int .u32 x, .int .u32 y, .int .u32 z] 2).run Try.prog w = .ok (.int .u32 z) w := ⟨by kernel_rfl, by kernel_rfl, by kernel_rfl⟩
theorem eq3 (x y z : Int) (w : World) : (Op.equalIn 10000 114 (.agg #[.int .u32 x, .int .u32 y, .int .u32 z]) (.agg #[.int .u32 x, .int .u32 y, .int .u32 z])).run Try.prog w = .ok true w := by
  obtain ⟨i0, hi, _⟩ := info_parts RB.infoU
  have hc : Try.prog.cellsOf 22 = 1 := by kernel_rfl
  rw [run_equalIn_array w 9999 _ _ Try.underlying114 hi, hc, show List.range 3 = [0, 1, 2] from rfl]
  obtain ⟨p0, p1, p2⟩ := part3 x y z w
  simp only [Op.eqItems, Sem.run_bind, Nat.mul_one, p0, p1, p2, eq1, Result.andThen_ok, Bool.not_true, Bool.false_eq_true, if_false, Sem.run_pure]
def isI (v : Value) : Prop := ∃ z : Int, v = .int .i64 z
section
variable {W w : World} {b : Nat} {M : Bm} {p : Nat} {Q : Rm} {T : Tb} {V : List Nat} {A : List (Bool × Nat × Nat)} {R : List Bool}
set_option maxRecDepth 100000 in
set_option maxHeartbeats 8000000 in
theorem does_rel (n : Int) (a c : Nat) (s : Bool) (al os : Int) (ha : a ≤ 4294967295) (hE : Ev W T) (h : Bo W w b M p Q T V A R) :
    Calls Try.prog 20 #[.pointer (some ⟨b, 0, none⟩), .pointer (some ⟨p, 0, none⟩), .agg #[.int .i64 4, .int .i64 n, .int .u32 (a : Int), .int .u32 (c : Int), .bool s, .int .i64 al, .int .i64 os]] w fun e w' => e = .returned (.bool true) ∧ Alike W w' b M p T := by
  have k0 := (Kept.refl (fun _ => False) w).alloc (.cells #[.int .i64 4, .int .i64 n, .int .u32 (a : Int), .int .u32 (c : Int), .bool s, .int .i64 al, .int .i64 os] 48)
  have hbx := Blk.new w [.int .i64 4, .int .i64 n, .int .u32 (a : Int), .int .u32 (c : Int), .bool s, .int .i64 al, .int .i64 os] 48
  have hB0 := h.same k0
  have hlp : ∀ i, rfoot p Q i → i < w.heap.size := h.ltp
  have hnb : ∀ i, bfoot b M i → ¬ i = w.heap.size := fun i hi e => by have := h.ltb i hi; omega
  have hnp : ∀ i, rfoot p Q i → ¬ i = w.heap.size := fun i hi e => by have := h.ltp i hi; omega
  obtain ⟨w0, hw0⟩ : ∃ w0, w.alloc (.cells #[.int .i64 4, .int .i64 n, .int .u32 (a : Int), .int .u32 (c : Int), .bool s, .int .i64 al, .int .i64 os] 48) = w0 := ⟨_, rfl⟩
  obtain ⟨S, hS⟩ : ∃ S, w.heap.size = S := ⟨_, rfl⟩
  rw [hw0] at hB0 hbx
  rw [hS] at hbx
  simp only [hS] at hnb hnp hlp
  have c0 := hbx.cell 0 rfl
  have c1 := hbx.cell 1 rfl
  have c2 := hbx.cell 2 rfl
  have c3 := hbx.cell 3 rfl
  have hbl := hbx.lt
  have HT : Hid (∀ wz, Kept (fun _ => False) w0 wz → TwoF W wz b M p Q T isI 11 #[.pointer (some ⟨b, 0, none⟩), .int .i64 n, .int .u32 (a : Int), .int .u32 (c : Int)] 43 #[.pointer (some ⟨p, 0, none⟩), .int .i64 n, .int .u32 (a : Int), .int .u32 (c : Int)]) := fun wz kz => by
    have h0 := fun wz kz => hB0.same (w' := wz) kz
    obtain ⟨z, A', hz⟩ := two_rel hE (h0 wz kz) n a c ha
    exact hz.all ⟨z, rfl⟩
  clear hB0 h hE k0 hbx
  go_enter Try.func20, Try.ntmps20
  go_upto_region 16 with fail
  clear hw0 hS c0
  refine wp_region_noPanic ?_
  go_region_held3 (fun w' => w'.cell? ⟨S, 1, none⟩ = some (.int .i64 n) ∧ w'.cell? ⟨S, 2, none⟩ = some (.int .u32 (a : Int)) ∧ w'.cell? ⟨S, 3, none⟩ = some (.int .u32 (c : Int)))
    (first
      | (simp [*]; done)
      | exact ⟨(k3.cell (p := ⟨S, 1, none⟩) (Nat.lt_of_lt_of_le hbl k1.undrew.size) (fun h => hnp _ h rfl)).trans ((k1.cell (p := ⟨S, 1, none⟩) hbl (fun h => hnb _ h rfl)).trans c1), (k3.cell (p := ⟨S, 2, none⟩) (Nat.lt_of_lt_of_le hbl k1.undrew.size) (fun h => hnp _ h rfl)).trans ((k1.cell (p := ⟨S, 2, none⟩) hbl (fun h => hnb _ h rfl)).trans c2), (k3.cell (p := ⟨S, 3, none⟩) (Nat.lt_of_lt_of_le hbl k1.undrew.size) (fun h => hnp _ h rfl)).trans ((k1.cell (p := ⟨S, 3, none⟩) hbl (fun h => hnb _ h rfl)).trans c3)⟩
      | exact ⟨(k1.cell (p := ⟨S, 1, none⟩) hbl (fun h => hnb _ h rfl)).trans c1, (k1.cell (p := ⟨S, 2, none⟩) hbl (fun h => hnb _ h rfl)).trans c2, (k1.cell (p := ⟨S, 3, none⟩) hbl (fun h => hnb _ h rfl)).trans c3⟩
      | fail)
    (first
      | (go_at_call 11; refine Calls.mono (HT.out _ (by exact (Kept.refl _ _).same rfl rfl rfl rfl)) ?_; rintro e w1 ⟨_, ⟨z, rfl⟩, rfl, k1, hD⟩)
      | (go_at_call 43; refine Calls.mono (hD _ (by exact (Kept.refl _ _).same rfl rfl rfl rfl)) ?_; rintro e w2 ⟨rfl, hA, k3⟩))
  refine NoPanic.normal ?_
  have Q := Lib.hid hA
  clear hA k1 k3 hD
  go_wp2
  go_ret
  exact ⟨rfl, Q.out⟩
set_option maxRecDepth 100000 in
set_option maxHeartbeats 8000000 in
theorem does_abs (n : Int) (a c : Nat) (s : Bool) (al os : Int) (ha : a ≤ 4294967295) (hE : Ev W T) (h : Bo W w b M p Q T V A R) :
    Calls Try.prog 20 #[.pointer (some ⟨b, 0, none⟩), .pointer (some ⟨p, 0, none⟩), .agg #[.int .i64 5, .int .i64 n, .int .u32 (a : Int), .int .u32 (c : Int), .bool s, .int .i64 al, .int .i64 os]] w fun e w' => e = .returned (.bool true) ∧ Alike W w' b M p T := by
  have k0 := (Kept.refl (fun _ => False) w).alloc (.cells #[.int .i64 5, .int .i64 n, .int .u32 (a : Int), .int .u32 (c : Int), .bool s, .int .i64 al, .int .i64 os] 48)
  have hbx := Blk.new w [.int .i64 5, .int .i64 n, .int .u32 (a : Int), .int .u32 (c : Int), .bool s, .int .i64 al, .int .i64 os] 48
  have hB0 := h.same k0
  have hlp : ∀ i, rfoot p Q i → i < w.heap.size := h.ltp
  have hnb : ∀ i, bfoot b M i → ¬ i = w.heap.size := fun i hi e => by have := h.ltb i hi; omega
  have hnp : ∀ i, rfoot p Q i → ¬ i = w.heap.size := fun i hi e => by have := h.ltp i hi; omega
  obtain ⟨w0, hw0⟩ : ∃ w0, w.alloc (.cells #[.int .i64 5, .int .i64 n, .int .u32 (a : Int), .int .u32 (c : Int), .bool s, .int .i64 al, .int .i64 os] 48) = w0 := ⟨_, rfl⟩
  obtain ⟨S, hS⟩ : ∃ S, w.heap.size = S := ⟨_, rfl⟩
  rw [hw0] at hB0 hbx
  rw [hS] at hbx
  simp only [hS] at hnb hnp hlp
  have c0 := hbx.cell 0 rfl
  have c1 := hbx.cell 1 rfl
  have c2 := hbx.cell 2 rfl
  have c3 := hbx.cell 3 rfl
  have hbl := hbx.lt
  have HT : Hid (∀ wz, Kept (fun _ => False) w0 wz → TwoF W wz b M p Q T isI 10 #[.pointer (some ⟨b, 0, none⟩), .int .i64 n, .int .u32 (a : Int), .int .u32 (c : Int)] 44 #[.pointer (some ⟨p, 0, none⟩), .int .i64 n, .int .u32 (a : Int), .int .u32 (c : Int)]) := fun wz kz => by
    have h0 := fun wz kz => hB0.same (w' := wz) kz
    obtain ⟨z, A', hz⟩ := two_abs hE (h0 wz kz) n a c ha
    exact hz.all ⟨z, rfl⟩
  clear hB0 h hE k0 hbx
  go_enter Try.func20, Try.ntmps20
  go_upto_region 18 with fail
  clear hw0 hS c0
  refine wp_region_noPanic ?_
  go_region_held3 (fun w' => w'.cell? ⟨S, 1, none⟩ = some (.int .i64 n) ∧ w'.cell? ⟨S, 2, none⟩ = some (.int .u32 (a : Int)) ∧ w'.cell? ⟨S, 3, none⟩ = some (.int .u32 (c : Int)))
    (first
      | (simp [*]; done)
      | exact ⟨(k3.cell (p := ⟨S, 1, none⟩) (Nat.lt_of_lt_of_le hbl k1.undrew.size) (fun h => hnp _ h rfl)).trans ((k1.cell (p := ⟨S, 1, none⟩) hbl (fun h => hnb _ h rfl)).trans c1), (k3.cell (p := ⟨S, 2, none⟩) (Nat.lt_of_lt_of_le hbl k1.undrew.size) (fun h => hnp _ h rfl)).trans ((k1.cell (p := ⟨S, 2, none⟩) hbl (fun h => hnb _ h rfl)).trans c2), (k3.cell (p := ⟨S, 3, none⟩) (Nat.lt_of_lt_of_le hbl k1.undrew.size) (fun h => hnp _ h rfl)).trans ((k1.cell (p := ⟨S, 3, none⟩) hbl (fun h => hnb _ h rfl)).trans c3)⟩
      | exact ⟨(k1.cell (p := ⟨S, 1, none⟩) hbl (fun h => hnb _ h rfl)).trans c1, (k1.cell (p := ⟨S, 2, none⟩) hbl (fun h => hnb _ h rfl)).trans c2, (k1.cell (p := ⟨S, 3, none⟩) hbl (fun h => hnb _ h rfl)).trans c3⟩
      | fail)
    (first
      | (go_at_call 10; refine Calls.mono (HT.out _ (by exact (Kept.refl _ _).same rfl rfl rfl rfl)) ?_; rintro e w1 ⟨_, ⟨z, rfl⟩, rfl, k1, hD⟩)
      | (go_at_call 44; refine Calls.mono (hD _ (by exact (Kept.refl _ _).same rfl rfl rfl rfl)) ?_; rintro e w2 ⟨rfl, hA, k3⟩))
  refine NoPanic.normal ?_
  have Q := Lib.hid hA
  clear hA k1 k3 hD
  go_wp2
  go_ret
  exact ⟨rfl, Q.out⟩
set_option maxRecDepth 100000 in
set_option maxHeartbeats 8000000 in
theorem does_cancel (n : Int) (a c : Nat) (s : Bool) (al os : Int) (_ : a ≤ 4294967295) (hE : Ev W T) (h : Bo W w b M p Q T V A R) :
    Calls Try.prog 20 #[.pointer (some ⟨b, 0, none⟩), .pointer (some ⟨p, 0, none⟩), .agg #[.int .i64 6, .int .i64 n, .int .u32 (a : Int), .int .u32 (c : Int), .bool s, .int .i64 al, .int .i64 os]] w fun e w' => e = .returned (.bool true) ∧ Alike W w' b M p T := by
  have k0 := (Kept.refl (fun _ => False) w).alloc (.cells #[.int .i64 6, .int .i64 n, .int .u32 (a : Int), .int .u32 (c : Int), .bool s, .int .i64 al, .int .i64 os] 48)
  have hbx := Blk.new w [.int .i64 6, .int .i64 n, .int .u32 (a : Int), .int .u32 (c : Int), .bool s, .int .i64 al, .int .i64 os] 48
  have hB0 := h.same k0
  have hlp : ∀ i, rfoot p Q i → i < w.heap.size := h.ltp
  have hnb : ∀ i, bfoot b M i → ¬ i = w.heap.size := fun i hi e => by have := h.ltb i hi; omega
  have hnp : ∀ i, rfoot p Q i → ¬ i = w.heap.size := fun i hi e => by have := h.ltp i hi; omega
  obtain ⟨w0, hw0⟩ : ∃ w0, w.alloc (.cells #[.int .i64 6, .int .i64 n, .int .u32 (a : Int), .int .u32 (c : Int), .bool s, .int .i64 al, .int .i64 os] 48) = w0 := ⟨_, rfl⟩
  obtain ⟨S, hS⟩ : ∃ S, w.heap.size = S := ⟨_, rfl⟩
  rw [hw0] at hB0 hbx
  rw [hS] at hbx
  simp only [hS] at hnb hnp hlp
  have c0 := hbx.cell 0 rfl
  have c1 := hbx.cell 1 rfl


  have hbl := hbx.lt
  have HT : Hid (∀ wz, Kept (fun _ => False) w0 wz → TwoF W wz b M p Q T isI 12 #[.pointer (some ⟨b, 0, none⟩), .int .i64 n] 45 #[.pointer (some ⟨p, 0, none⟩), .int .i64 n]) := fun wz kz => by
    have h0 := fun wz kz => hB0.same (w' := wz) kz
    obtain ⟨z, A', hz⟩ := two_cancel hE (h0 wz kz) n
    exact hz.all ⟨z, rfl⟩
  clear hB0 h hE k0 hbx
  go_enter Try.func20, Try.ntmps20
  go_upto_region 20 with fail
  clear hw0 hS c0
  refine wp_region_noPanic ?_
  go_region_held3 (fun w' => w'.cell? ⟨S, 1, none⟩ = some (.int .i64 n))
    (first
      | (simp [*]; done)
      | exact (k3.cell (p := ⟨S, 1, none⟩) (Nat.lt_of_lt_of_le hbl k1.undrew.size) (fun h => hnp _ h rfl)).trans ((k1.cell (p := ⟨S, 1, none⟩) hbl (fun h => hnb _ h rfl)).trans c1)
      | exact (k1.cell (p := ⟨S, 1, none⟩) hbl (fun h => hnb _ h rfl)).trans c1
      | fail)
    (first
      | (go_at_call 12; refine Calls.mono (HT.out _ (by exact (Kept.refl _ _).same rfl rfl rfl rfl)) ?_; rintro e w1 ⟨_, ⟨z, rfl⟩, rfl, k1, hD⟩)
      | (go_at_call 45; refine Calls.mono (hD _ (by exact (Kept.refl _ _).same rfl rfl rfl rfl)) ?_; rintro e w2 ⟨rfl, hA, k3⟩))
  refine NoPanic.normal ?_
  have Q := Lib.hid hA
  clear hA k1 k3 hD
  go_wp2
  go_ret
  exact ⟨rfl, Q.out⟩
set_option maxRecDepth 100000 in
set_option maxHeartbeats 8000000 in
theorem does_request (n : Int) (a c : Nat) (s : Bool) (al os : Int) (_ : a ≤ 4294967295) (hE : Ev W T) (h : Bo W w b M p Q T V A R) :
    Calls Try.prog 20 #[.pointer (some ⟨b, 0, none⟩), .pointer (some ⟨p, 0, none⟩), .agg #[.int .i64 8, .int .i64 n, .int .u32 (a : Int), .int .u32 (c : Int), .bool s, .int .i64 al, .int .i64 os]] w fun e w' => e = .returned (.bool true) ∧ Alike W w' b M p T := by
  have k0 := (Kept.refl (fun _ => False) w).alloc (.cells #[.int .i64 8, .int .i64 n, .int .u32 (a : Int), .int .u32 (c : Int), .bool s, .int .i64 al, .int .i64 os] 48)
  have hbx := Blk.new w [.int .i64 8, .int .i64 n, .int .u32 (a : Int), .int .u32 (c : Int), .bool s, .int .i64 al, .int .i64 os] 48
  have hB0 := h.same k0
  have hlp : ∀ i, rfoot p Q i → i < w.heap.size := h.ltp
  have hnb : ∀ i, bfoot b M i → ¬ i = w.heap.size := fun i hi e => by have := h.ltb i hi; omega
  have hnp : ∀ i, rfoot p Q i → ¬ i = w.heap.size := fun i hi e => by have := h.ltp i hi; omega
  obtain ⟨w0, hw0⟩ : ∃ w0, w.alloc (.cells #[.int .i64 8, .int .i64 n, .int .u32 (a : Int), .int .u32 (c : Int), .bool s, .int .i64 al, .int .i64 os] 48) = w0 := ⟨_, rfl⟩
  obtain ⟨S, hS⟩ : ∃ S, w.heap.size = S := ⟨_, rfl⟩
  rw [hw0] at hB0 hbx
  rw [hS] at hbx
  simp only [hS] at hnb hnp hlp
  have c0 := hbx.cell 0 rfl
  have c1 := hbx.cell 1 rfl


  have hbl := hbx.lt
  have HT : Hid (∀ wz, Kept (fun _ => False) w0 wz → TwoF W wz b M p Q T isI 13 #[.pointer (some ⟨b, 0, none⟩), .int .i64 n] 48 #[.pointer (some ⟨p, 0, none⟩), .int .i64 n]) := fun wz kz => by
    have h0 := fun wz kz => hB0.same (w' := wz) kz
    obtain ⟨z, R', hz⟩ := two_request hE (h0 wz kz) n
    exact hz.all ⟨z, rfl⟩
  clear hB0 h hE k0 hbx
  go_enter Try.func20, Try.ntmps20
  go_upto_region 26 with fail
  clear hw0 hS c0
  refine wp_region_noPanic ?_
  go_region_held3 (fun w' => w'.cell? ⟨S, 1, none⟩ = some (.int .i64 n))
    (first
      | (simp [*]; done)
      | exact (k3.cell (p := ⟨S, 1, none⟩) (Nat.lt_of_lt_of_le hbl k1.undrew.size) (fun h => hnp _ h rfl)).trans ((k1.cell (p := ⟨S, 1, none⟩) hbl (fun h => hnb _ h rfl)).trans c1)
      | exact (k1.cell (p := ⟨S, 1, none⟩) hbl (fun h => hnb _ h rfl)).trans c1
      | fail)
    (first
      | (go_at_call 13; refine Calls.mono (HT.out _ (by exact (Kept.refl _ _).same rfl rfl rfl rfl)) ?_; rintro e w1 ⟨_, ⟨z, rfl⟩, rfl, k1, hD⟩)
      | (go_at_call 48; refine Calls.mono (hD _ (by exact (Kept.refl _ _).same rfl rfl rfl rfl)) ?_; rintro e w2 ⟨rfl, hA, k3⟩))
  refine NoPanic.normal ?_
  have Q := Lib.hid hA
  clear hA k1 k3 hD
  go_wp2
  go_ret
  exact ⟨rfl, Q.out⟩
set_option maxRecDepth 100000 in
set_option maxHeartbeats 8000000 in
theorem does_serve (n : Int) (a c : Nat) (s : Bool) (al os : Int) (_ : a ≤ 4294967295) (hE : Ev W T) (h : Bo W w b M p Q T V A R) :
    Calls Try.prog 20 #[.pointer (some ⟨b, 0, none⟩), .pointer (some ⟨p, 0, none⟩), .agg #[.int .i64 10, .int .i64 n, .int .u32 (a : Int), .int .u32 (c : Int), .bool s, .int .i64 al, .int .i64 os]] w fun e w' => e = .returned (.bool true) ∧ Alike W w' b M p T := by
  have k0 := (Kept.refl (fun _ => False) w).alloc (.cells #[.int .i64 10, .int .i64 n, .int .u32 (a : Int), .int .u32 (c : Int), .bool s, .int .i64 al, .int .i64 os] 48)
  have hbx := Blk.new w [.int .i64 10, .int .i64 n, .int .u32 (a : Int), .int .u32 (c : Int), .bool s, .int .i64 al, .int .i64 os] 48
  have hB0 := h.same k0
  have hlp : ∀ i, rfoot p Q i → i < w.heap.size := h.ltp
  have hnb : ∀ i, bfoot b M i → ¬ i = w.heap.size := fun i hi e => by have := h.ltb i hi; omega
  have hnp : ∀ i, rfoot p Q i → ¬ i = w.heap.size := fun i hi e => by have := h.ltp i hi; omega
  obtain ⟨w0, hw0⟩ : ∃ w0, w.alloc (.cells #[.int .i64 10, .int .i64 n, .int .u32 (a : Int), .int .u32 (c : Int), .bool s, .int .i64 al, .int .i64 os] 48) = w0 := ⟨_, rfl⟩
  obtain ⟨S, hS⟩ : ∃ S, w.heap.size = S := ⟨_, rfl⟩
  rw [hw0] at hB0 hbx
  rw [hS] at hbx
  simp only [hS] at hnb hnp hlp
  have c0 := hbx.cell 0 rfl
  have c1 := hbx.cell 1 rfl


  have hbl := hbx.lt
  have HT : Hid (∀ wz, Kept (fun _ => False) w0 wz → TwoF W wz b M p Q T isI 14 #[.pointer (some ⟨b, 0, none⟩), .int .i64 n] 50 #[.pointer (some ⟨p, 0, none⟩), .int .i64 n]) := fun wz kz => by
    have h0 := fun wz kz => hB0.same (w' := wz) kz
    obtain ⟨z, R', hz⟩ := two_serve hE (h0 wz kz) n
    exact hz.all ⟨z, rfl⟩
  clear hB0 h hE k0 hbx
  go_enter Try.func20, Try.ntmps20
  go_upto_region 32 with fail
  clear hw0 hS c0
  refine wp_region_noPanic ?_
  go_region_held3 (fun w' => w'.cell? ⟨S, 1, none⟩ = some (.int .i64 n))
    (first
      | (simp [*]; done)
      | exact (k3.cell (p := ⟨S, 1, none⟩) (Nat.lt_of_lt_of_le hbl k1.undrew.size) (fun h => hnp _ h rfl)).trans ((k1.cell (p := ⟨S, 1, none⟩) hbl (fun h => hnb _ h rfl)).trans c1)
      | exact (k1.cell (p := ⟨S, 1, none⟩) hbl (fun h => hnb _ h rfl)).trans c1
      | fail)
    (first
      | (go_at_call 14; refine Calls.mono (HT.out _ (by exact (Kept.refl _ _).same rfl rfl rfl rfl)) ?_; rintro e w1 ⟨_, ⟨z, rfl⟩, rfl, k1, hD⟩)
      | (go_at_call 50; refine Calls.mono (hD _ (by exact (Kept.refl _ _).same rfl rfl rfl rfl)) ?_; rintro e w2 ⟨rfl, hA, k3⟩))
  refine NoPanic.normal ?_
  have Q := Lib.hid hA
  clear hA k1 k3 hD
  go_wp2
  go_ret
  exact ⟨rfl, Q.out⟩
set_option maxRecDepth 100000 in
set_option maxHeartbeats 8000000 in
theorem does_base (n : Int) (a c : Nat) (s : Bool) (al os : Int) (_ : a ≤ 4294967295) (hE : Ev W T) (h : Bo W w b M p Q T V A R) :
    Calls Try.prog 20 #[.pointer (some ⟨b, 0, none⟩), .pointer (some ⟨p, 0, none⟩), .agg #[.int .i64 2, .int .i64 n, .int .u32 (a : Int), .int .u32 (c : Int), .bool s, .int .i64 al, .int .i64 os]] w fun e w' => e = .returned (.bool true) ∧ Alike W w' b M p T := by
  have k0 := (Kept.refl (fun _ => False) w).alloc (.cells #[.int .i64 2, .int .i64 n, .int .u32 (a : Int), .int .u32 (c : Int), .bool s, .int .i64 al, .int .i64 os] 48)
  have hbx := Blk.new w [.int .i64 2, .int .i64 n, .int .u32 (a : Int), .int .u32 (c : Int), .bool s, .int .i64 al, .int .i64 os] 48
  have hB0 := h.same k0
  have hlp : ∀ i, rfoot p Q i → i < w.heap.size := h.ltp
  have hnb : ∀ i, bfoot b M i → ¬ i = w.heap.size := fun i hi e => by have := h.ltb i hi; omega
  have hnp : ∀ i, rfoot p Q i → ¬ i = w.heap.size := fun i hi e => by have := h.ltp i hi; omega
  obtain ⟨w0, hw0⟩ : ∃ w0, w.alloc (.cells #[.int .i64 2, .int .i64 n, .int .u32 (a : Int), .int .u32 (c : Int), .bool s, .int .i64 al, .int .i64 os] 48) = w0 := ⟨_, rfl⟩
  obtain ⟨S, hS⟩ : ∃ S, w.heap.size = S := ⟨_, rfl⟩
  rw [hw0] at hB0 hbx
  rw [hS] at hbx
  simp only [hS] at hnb hnp hlp
  have c0 := hbx.cell 0 rfl
  have c1 := hbx.cell 1 rfl
  have hbl := hbx.lt
  have HX := Lib.hid hbx
  have HT : Hid (∀ wz, Kept (fun _ => False) w0 wz → TwoF W wz b M p Q T (fun v => ∃ mx bs mn z : Int, v = .tuple #[.agg #[.int .u32 mx, .int .u32 bs, .int .u32 mn], .int .i64 z]) 40 #[.pointer (some ⟨b, 0, none⟩), .int .i64 n] 41 #[.pointer (some ⟨p, 0, none⟩), .int .i64 n]) := fun wz kz => by
    have h0 := fun wz kz => hB0.same (w' := wz) kz
    obtain ⟨x1, x2, x3, z, hz⟩ := two_base hE (h0 wz kz) n
    exact hz.all ⟨x1, x2, x3, z, rfl⟩
  clear hB0 h hE k0 hbx
  go_enter Try.func20, Try.ntmps20
  go_upto_region 8 with fail
  clear hw0 hS c0
  go_upto_region 9 with (go_at_call 40; refine Calls.mono (HT.out _ (by exact (Kept.refl _ _).same rfl rfl rfl rfl)) ?_; rintro e w1 ⟨_, ⟨x1, x2, x3, z, rfl⟩, rfl, k1, hD⟩; have d1 := (k1.cell (p := ⟨S, 1, none⟩) hbl (fun h => hnb _ h rfl)).trans c1)
  clear c1
  have kal := (Kept.refl (fun g => w0.heap.size ≤ g) w1).alloc (.cells #[.int .u32 x1, .int .u32 x2, .int .u32 x3] 114)
  have nb := Blk.new w1 [.int .u32 x1, .int .u32 x2, .int .u32 x3] 114
  have hz1 := k1.size
  have d1' := (((Kept.refl (fun _ => False) w1).alloc (.cells #[.int .u32 x1, .int .u32 x2, .int .u32 x3] 114)).cell (p := ⟨S, 1, none⟩) (Nat.lt_of_lt_of_le hbl k1.size) (fun x => x)).trans d1
  obtain ⟨w2, hw2⟩ : ∃ w2, w1.alloc (.cells #[.int .u32 x1, .int .u32 x2, .int .u32 x3] 114) = w2 := ⟨_, rfl⟩
  obtain ⟨g2, hg2⟩ : ∃ g2, w1.heap.size = g2 := ⟨_, rfl⟩
  rw [hw2] at kal nb d1' ⊢
  rw [hg2] at nb
  try rw [hg2]
  have HD := Lib.hid (hD _ kal)
  clear hD kal hw2 d1 k1
  go_upto_region 10 with (go_at_call 41; refine Calls.mono HD.out ?_; rintro e w3 ⟨rfl, hA, k3⟩)
  have nb3 := nb.kept k3 (fun e => by have := hlp _ e; omega)
  have kal := (Kept.refl (fun _ => False) w3).alloc (.cells #[.int .u32 x1, .int .u32 x2, .int .u32 x3] 114)
  have n4 := nb3.kept kal (fun x => x)
  have n5 := Blk.new w3 [.int .u32 x1, .int .u32 x2, .int .u32 x3] 114
  have y0 := n4.cell 0 rfl
  have y1 := n4.cell 1 rfl
  have y2 := n4.cell 2 rfl
  have v0 := n5.cell 0 rfl
  have v1 := n5.cell 1 rfl
  have v2 := n5.cell 2 rfl
  obtain ⟨Q, V, A, R, hA⟩ := hA
  have Q := Lib.hid (show Alike W _ b M p T from ⟨Q, V, A, R, hA.same kal⟩)
  clear hA k3 HD nb nb3 n4 n5 kal
  have he := eq3 x1 x2 x3
  go_wp2_with fail
  go_ret
  exact ⟨rfl, Q.out⟩
set_option maxRecDepth 100000 in
set_option maxHeartbeats 8000000 in
theorem does_left (n : Int) (a c : Nat) (s : Bool) (al os : Int) (_ : a ≤ 4294967295) (hE : Ev W T) (h : Bo W w b M p Q T V A R) :
    Calls Try.prog 20 #[.pointer (some ⟨b, 0, none⟩), .pointer (some ⟨p, 0, none⟩), .agg #[.int .i64 3, .int .i64 n, .int .u32 (a : Int), .int .u32 (c : Int), .bool s, .int .i64 al, .int .i64 os]] w fun e w' => e = .returned (.bool true) ∧ Alike W w' b M p T := by
  have k0 := (Kept.refl (fun _ => False) w).alloc (.cells #[.int .i64 3, .int .i64 n, .int .u32 (a : Int), .int .u32 (c : Int), .bool s, .int .i64 al, .int .i64 os] 48)
  have hbx := Blk.new w [.int .i64 3, .int .i64 n, .int .u32 (a : Int), .int .u32 (c : Int), .bool s, .int .i64 al, .int .i64 os] 48
  have hB0 := h.same k0
  have hlp : ∀ i, rfoot p Q i → i < w.heap.size := h.ltp
  have hnb : ∀ i, bfoot b M i → ¬ i = w.heap.size := fun i hi e => by have := h.ltb i hi; omega
  have hnp : ∀ i, rfoot p Q i → ¬ i = w.heap.size := fun i hi e => by have := h.ltp i hi; omega
  obtain ⟨w0, hw0⟩ : ∃ w0, w.alloc (.cells #[.int .i64 3, .int .i64 n, .int .u32 (a : Int), .int .u32 (c : Int), .bool s, .int .i64 al, .int .i64 os] 48) = w0 := ⟨_, rfl⟩
  obtain ⟨S, hS⟩ : ∃ S, w.heap.size = S := ⟨_, rfl⟩
  rw [hw0] at hB0 hbx
  rw [hS] at hbx
  simp only [hS] at hnb hnp hlp
  have c0 := hbx.cell 0 rfl
  have c1 := hbx.cell 1 rfl
  have hbl := hbx.lt
  have HX := Lib.hid hbx
  have HT : Hid (∀ wz, Kept (fun _ => False) w0 wz → TwoF W wz b M p Q T (fun v => ∃ l z : Int, v = .tuple #[.int .u32 l, .int .i64 z]) 15 #[.pointer (some ⟨b, 0, none⟩), .int .i64 n] 42 #[.pointer (some ⟨p, 0, none⟩), .int .i64 n]) := fun wz kz => by
    have h0 := fun wz kz => hB0.same (w' := wz) kz
    obtain ⟨l, z, hz⟩ := two_left hE (h0 wz kz) n
    exact hz.all ⟨l, z, rfl⟩
  clear hB0 h hE k0 hbx
  go_enter Try.func20, Try.ntmps20
  go_upto_region 12 with fail
  clear hw0 hS c0
  go_upto_region 13 with (go_at_call 15; refine Calls.mono (HT.out _ (by exact (Kept.refl _ _).same rfl rfl rfl rfl)) ?_; rintro e w1 ⟨_, ⟨l, z, rfl⟩, rfl, k1, hD⟩; have d1 := (k1.cell (p := ⟨S, 1, none⟩) hbl (fun h => hnb _ h rfl)).trans c1)
  clear c1
  go_upto_region 14 with (go_at_call 42; refine Calls.mono (hD _ (by exact (Kept.refl _ _).same rfl rfl rfl rfl)) ?_; rintro e w2 ⟨rfl, hA, k3⟩)
  have Q := Lib.hid hA
  clear hA k1 k3 hD
  go_wp2
  go_ret
  exact ⟨rfl, Q.out⟩
set_option maxRecDepth 100000 in
set_option maxHeartbeats 8000000 in
theorem does_auto (n : Int) (a c : Nat) (s : Bool) (al os : Int) (_ : a ≤ 4294967295) (hE : Ev W T) (h : Bo W w b M p Q T V A R) :
    Calls Try.prog 20 #[.pointer (some ⟨b, 0, none⟩), .pointer (some ⟨p, 0, none⟩), .agg #[.int .i64 7, .int .i64 n, .int .u32 (a : Int), .int .u32 (c : Int), .bool s, .int .i64 al, .int .i64 os]] w fun e w' => e = .returned (.bool true) ∧ Alike W w' b M p T := by
  have k0 := (Kept.refl (fun _ => False) w).alloc (.cells #[.int .i64 7, .int .i64 n, .int .u32 (a : Int), .int .u32 (c : Int), .bool s, .int .i64 al, .int .i64 os] 48)
  have hbx := Blk.new w [.int .i64 7, .int .i64 n, .int .u32 (a : Int), .int .u32 (c : Int), .bool s, .int .i64 al, .int .i64 os] 48
  have hB0 := h.same k0
  have hlp : ∀ i, rfoot p Q i → i < w.heap.size := h.ltp
  have hnb : ∀ i, bfoot b M i → ¬ i = w.heap.size := fun i hi e => by have := h.ltb i hi; omega
  have hnp : ∀ i, rfoot p Q i → ¬ i = w.heap.size := fun i hi e => by have := h.ltp i hi; omega
  obtain ⟨w0, hw0⟩ : ∃ w0, w.alloc (.cells #[.int .i64 7, .int .i64 n, .int .u32 (a : Int), .int .u32 (c : Int), .bool s, .int .i64 al, .int .i64 os] 48) = w0 := ⟨_, rfl⟩
  obtain ⟨S, hS⟩ : ∃ S, w.heap.size = S := ⟨_, rfl⟩
  rw [hw0] at hB0 hbx
  rw [hS] at hbx
  simp only [hS] at hnb hnp hlp
  have c0 := hbx.cell 0 rfl
  have c1 := hbx.cell 1 rfl
  have hbl := hbx.lt
  have HX := Lib.hid hbx
  have HT : Hid (∀ wz, Kept (fun _ => False) w0 wz → TwoF W wz b M p Q T (fun v => ∃ l z : Int, v = .tuple #[.int .i64 l, .int .i64 z]) 46 #[.pointer (some ⟨b, 0, none⟩), .int .i64 n] 47 #[.pointer (some ⟨p, 0, none⟩), .int .i64 n]) := fun wz kz => by
    have h0 := fun wz kz => hB0.same (w' := wz) kz
    obtain ⟨l, z, A', hz⟩ := two_auto hE (h0 wz kz) n
    exact hz.all ⟨l, z, rfl⟩
  clear hB0 h hE k0 hbx
  go_enter Try.func20, Try.ntmps20
  go_upto_region 22 with fail
  clear hw0 hS c0
  go_upto_region 23 with (go_at_call 46; refine Calls.mono (HT.out _ (by exact (Kept.refl _ _).same rfl rfl rfl rfl)) ?_; rintro e w1 ⟨_, ⟨l, z, rfl⟩, rfl, k1, hD⟩; have d1 := (k1.cell (p := ⟨S, 1, none⟩) hbl (fun h => hnb _ h rfl)).trans c1)
  clear c1
  go_upto_region 24 with (go_at_call 47; refine Calls.mono (hD _ (by exact (Kept.refl _ _).same rfl rfl rfl rfl)) ?_; rintro e w2 ⟨rfl, hA, k3⟩)
  have Q := Lib.hid hA
  clear hA k1 k3 hD
  go_wp2
  go_ret
  exact ⟨rfl, Q.out⟩
set_option maxRecDepth 100000 in
set_option maxHeartbeats 8000000 in
theorem does_next (n : Int) (a c : Nat) (s : Bool) (al os : Int) (ha : a ≤ 4294967295) (hE : Ev W T) (h : Bo W w b M p Q T V A R) :
    Calls Try.prog 20 #[.pointer (some ⟨b, 0, none⟩), .pointer (some ⟨p, 0, none⟩), .agg #[.int .i64 9, .int .i64 n, .int .u32 (a : Int), .int .u32 (c : Int), .bool s, .int .i64 al, .int .i64 os]] w fun e w' => e = .returned (.bool true) ∧ Alike W w' b M p T := by
  have k0 := (Kept.refl (fun _ => False) w).alloc (.cells #[.int .i64 9, .int .i64 n, .int .u32 (a : Int), .int .u32 (c : Int), .bool s, .int .i64 al, .int .i64 os] 48)
  have hbx := Blk.new w [.int .i64 9, .int .i64 n, .int .u32 (a : Int), .int .u32 (c : Int), .bool s, .int .i64 al, .int .i64 os] 48
  have hB0 := h.same k0
  have hlp : ∀ i, rfoot p Q i → i < w.heap.size := h.ltp
  have hnb : ∀ i, bfoot b M i → ¬ i = w.heap.size := fun i hi e => by have := h.ltb i hi; omega
  have hnp : ∀ i, rfoot p Q i → ¬ i = w.heap.size := fun i hi e => by have := h.ltp i hi; omega
  obtain ⟨w0, hw0⟩ : ∃ w0, w.alloc (.cells #[.int .i64 9, .int .i64 n, .int .u32 (a : Int), .int .u32 (c : Int), .bool s, .int .i64 al, .int .i64 os] 48) = w0 := ⟨_, rfl⟩
  obtain ⟨S, hS⟩ : ∃ S, w.heap.size = S := ⟨_, rfl⟩
  rw [hw0] at hB0 hbx
  rw [hS] at hbx
  simp only [hS] at hnb hnp hlp
  have c0 := hbx.cell 0 rfl
  have c2 := hbx.cell 2 rfl
  have c4 := hbx.cell 4 rfl
  have c5 := hbx.cell 5 rfl
  have c6 := hbx.cell 6 rfl
  have hbl := hbx.lt
  have HX := Lib.hid hbx
  have HT : Hid (∀ wz, Kept (fun _ => False) w0 wz → TwoF W wz b M p Q T (fun v => ∃ (l : Int) (z : Bool), v = .tuple #[.int .i64 l, .bool z]) 23 #[.pointer (some ⟨b, 0, none⟩), .int .i64 (a : Int), .agg #[.bool s, .int .i64 al, .int .i64 os]] 49 #[.pointer (some ⟨p, 0, none⟩), .int .i64 (a : Int), .agg #[.bool s, .int .i64 al, .int .i64 os]]) := fun wz kz => by
    have h0 := fun wz kz => hB0.same (w' := wz) kz
    obtain ⟨l, z, hz⟩ := two_next hE (h0 wz kz) (a : Int) s al os
    exact hz.all ⟨l, z, rfl⟩
  clear hB0 h hE k0 hbx
  go_enter Try.func20, Try.ntmps20
  go_upto_region 28 with fail
  clear hw0 hS c0
  have hcv : Int.emod (a : Int) 4294967296 = (a : Int) := Int.emod_eq_of_lt (by omega) (by omega)
  go_upto_region 29 with (go_at_call 23; refine Calls.mono (HT.out _ (by exact (Kept.refl _ _).same rfl rfl rfl rfl)) ?_; rintro e w1 ⟨_, ⟨l, z, rfl⟩, rfl, k1, hD⟩; have d2 := (k1.cell (p := ⟨S, 2, none⟩) hbl (fun h => hnb _ h rfl)).trans c2; have d4 := (k1.cell (p := ⟨S, 4, none⟩) hbl (fun h => hnb _ h rfl)).trans c4; have d5 := (k1.cell (p := ⟨S, 5, none⟩) hbl (fun h => hnb _ h rfl)).trans c5; have d6 := (k1.cell (p := ⟨S, 6, none⟩) hbl (fun h => hnb _ h rfl)).trans c6)
  clear c2 c4 c5 c6
  go_upto_region 30 with (go_at_call 49; refine Calls.mono (hD _ (by exact (Kept.refl _ _).same rfl rfl rfl rfl)) ?_; rintro e w2 ⟨rfl, hA, k3⟩)
  have Q := Lib.hid hA
  clear hA k1 k3 hD
  go_wp2
  go_ret
  exact ⟨rfl, Q.out⟩
end
end Go.Proofs.Ytemhfonneggneaa.BP
