/- tappetlaw21: does: Tick, Calm, whatever else; whole. -/
import Derived.Test.YtemhfonneggneaaBsL
import Derived.Test.YtemhfonneggneaaArgF
namespace Go.Proofs.Ytemhfonneggneaa.BP
open Go.RowKit Go.Fr Go.Tb Go.Proofs.Ytemhfonneggneaa.CK Go.Proofs.Ytemhfonneggneaa.BD Go.Proofs.Ytemhfonneggneaa.RB Go.Proofs.Ytemhfonneggneaa.BS
attribute [local go_sem] Oper.semAt_some
section
variable {W w : World} {b : Nat} {M : Bm} {p : Nat} {Q : Rm} {T : Tb} {V : List Nat} {A : List (Bool × Nat × Nat)} {R : List Bool}
theorem u32_nat {a : Int} (h : (Lit.int .u32 a).wf = true) : ∃ n : Nat, a = n ∧ n ≤ 4294967295 := by
  have hx : 0 ≤ a ∧ a ≤ 4294967295 := by simpa [Lit.wf, IntKind.min, IntKind.max, IntKind.signed, IntKind.bits] using h
  exact ⟨a.toNat, by omega, by omega⟩
def TwoT (W w : World) (b : Nat) (M : Bm) (p : Nat) (Q : Rm) (T : Tb) (n : Int) : Prop :=
  Calls Try.prog 9 #[.pointer (some ⟨b, 0, none⟩), .int .i64 n] w fun e w1 => ∃ O z ao cc, e = .returned (.tuple #[.slice ao (O : List Int).length cc, .int .i64 z]) ∧ Ob w w1 ao cc O ∧ Kept (bfoot b M) w w1 ∧
      ∀ w2, Kept (fun g => w.heap.size ≤ g) w1 w2 → Calls Try.prog 38 #[.pointer (some ⟨p, 0, none⟩), .int .i64 n] w2 fun e w3 => ∃ ao' cc', e = .returned (.tuple #[.slice ao' O.length cc', .int .i64 z]) ∧ Ob w2 w3 ao' cc' O ∧ Alike W w3 b M p T ∧ Kept (rfoot p Q) w2 w3
set_option maxRecDepth 100000 in
set_option maxHeartbeats 8000000 in
theorem does_tick (n : Int) (a c : Nat) (s : Bool) (al os : Int) (hE : Ev W T) (h : Bo W w b M p Q T V A R) :
    Calls Try.prog 20 #[.pointer (some ⟨b, 0, none⟩), .pointer (some ⟨p, 0, none⟩), .agg #[.int .i64 1, .int .i64 n, .int .u32 (a : Int), .int .u32 (c : Int), .bool s, .int .i64 al, .int .i64 os]] w fun e w' => e = .returned (.bool true) ∧ Alike W w' b M p T := by
  have k0 := (Kept.refl (fun _ => False) w).alloc (.cells #[.int .i64 1, .int .i64 n, .int .u32 (a : Int), .int .u32 (c : Int), .bool s, .int .i64 al, .int .i64 os] 48)
  have hbx := Blk.new w [.int .i64 1, .int .i64 n, .int .u32 (a : Int), .int .u32 (c : Int), .bool s, .int .i64 al, .int .i64 os] 48
  have hB0 := h.same k0
  have hlp : ∀ i, rfoot p Q i → i < w.heap.size := h.ltp
  have hnb : ∀ i, bfoot b M i → ¬ i = w.heap.size := fun i hi e => by have := h.ltb i hi; omega
  obtain ⟨w0, hw0⟩ : ∃ w0, w.alloc (.cells #[.int .i64 1, .int .i64 n, .int .u32 (a : Int), .int .u32 (c : Int), .bool s, .int .i64 al, .int .i64 os] 48) = w0 := ⟨_, rfl⟩
  obtain ⟨S, hS⟩ : ∃ S, w.heap.size = S := ⟨_, rfl⟩
  rw [hw0] at hB0 hbx
  rw [hS] at hbx
  simp only [hS] at hnb hlp
  have c0 := hbx.cell 0 rfl
  have c1 := hbx.cell 1 rfl
  have hbl := hbx.lt
  have HT : Hid (∀ wz, Kept (fun _ => False) w0 wz → TwoT W wz b M p Q T n) := fun wz kz => by
    obtain ⟨O, z, V', A', hz⟩ := two_tick hE (hB0.same kz) n
    refine Calls.mono hz ?_
    rintro e w1 ⟨ao, cc, rfl, o1, k1, hD⟩
    refine ⟨O, z, ao, cc, rfl, o1, k1, fun w2 k2 => (hD w2 k2).mono ?_⟩
    rintro e w3 ⟨ao', cc', rfl, o3, hB, k3⟩
    exact ⟨ao', cc', rfl, o3, ⟨_, _, _, _, hB⟩, k3⟩
  clear hB0 h hE k0 hbx
  go_enter Try.func20, Try.ntmps20
  go_upto_region 3 with fail
  clear hw0 hS c0
  go_upto_region 4 with (go_at_call 9; refine Calls.mono (HT.out _ (by exact (Kept.refl _ _).same rfl rfl rfl rfl)) ?_; rintro e w1 ⟨O, z, ao, cc, rfl, o1, k1, hD⟩; have d1 := (k1.cell (p := ⟨S, 1, none⟩) hbl (fun h => hnb _ h rfl)).trans c1)
  clear c1
  go_upto_region 5 with (go_at_call 38; refine Calls.mono (hD _ (by exact (Kept.refl _ _).same rfl rfl rfl rfl)) ?_; rintro e w2 ⟨ao', cc', rfl, o2, hA, k3⟩)
  have r1 := row_kept o1.row k3 (fun g hg e => by have h1 := hlp g e; have h2 : w0.heap.size ≤ g := o1.own g hg; omega)
  have HI := Lib.hid (ints_ok r1 o2.row)
  have Q := Lib.hid hA
  clear hA k1 k3 hD o1 o2 r1 d1
  go_upto_region 6 with (go_at_call 39; refine HI.out.mono ?_; rintro e w3 ⟨rfl, k4⟩)
  obtain ⟨Q1, V1, A1, R1, hB⟩ := Q.out
  have Q2 := Lib.hid (show Alike W w3 b M p T from ⟨Q1, V1, A1, R1, hB.same k4⟩)
  clear hB HI Q k4
  go_wp2_with fail
  go_ret
  exact ⟨rfl, Q2.out⟩
set_option maxRecDepth 100000 in
set_option maxHeartbeats 8000000 in
theorem does_calm (n : Int) (a c : Nat) (s : Bool) (al os : Int) (hE : Ev W T) (h : Bo W w b M p Q T V A R) :
    Calls Try.prog 20 #[.pointer (some ⟨b, 0, none⟩), .pointer (some ⟨p, 0, none⟩), .agg #[.int .i64 11, .int .i64 n, .int .u32 (a : Int), .int .u32 (c : Int), .bool s, .int .i64 al, .int .i64 os]] w fun e w' => e = .returned (.bool true) ∧ Alike W w' b M p T := by
  have k0 := (Kept.refl (fun _ => False) w).alloc (.cells #[.int .i64 11, .int .i64 n, .int .u32 (a : Int), .int .u32 (c : Int), .bool s, .int .i64 al, .int .i64 os] 48)
  have hbx := Blk.new w [.int .i64 11, .int .i64 n, .int .u32 (a : Int), .int .u32 (c : Int), .bool s, .int .i64 al, .int .i64 os] 48
  have hB0 := h.same k0
  have c0 := hbx.cell 0 rfl
  have HC := Lib.hid (two_calm hE hB0)
  clear hB0 h hE k0 hbx
  go_enter Try.func20, Try.ntmps20
  go_upto_region 35 with (go_at_call 51; refine HC.out.mono ?_; rintro e w1 ⟨rfl, k1, Q', hq, hD⟩)
  have HD := Lib.hid (hD _ (Kept.refl _ _))
  clear hD hq k1 HC c0
  go_wp2_with (go_at_call 19; refine HD.out.mono ?_; rintro e w2 ⟨rfl, hA, k3⟩)
  have Q := Lib.hid hA
  clear hA k3 HD
  go_ret
  exact ⟨rfl, _, _, _, _, Q.out⟩
set_option maxRecDepth 100000 in
set_option maxHeartbeats 8000000 in
theorem does_other (k n : Int) (a c : Nat) (s : Bool) (al os : Int) (h : Bo W w b M p Q T V A R) (hk : ¬ (1 ≤ k ∧ k ≤ 11)) :
    Calls Try.prog 20 #[.pointer (some ⟨b, 0, none⟩), .pointer (some ⟨p, 0, none⟩), .agg #[.int .i64 k, .int .i64 n, .int .u32 (a : Int), .int .u32 (c : Int), .bool s, .int .i64 al, .int .i64 os]] w fun e w' => e = .returned (.bool true) ∧ Alike W w' b M p T := by
  have hbx := Blk.new w [.int .i64 k, .int .i64 n, .int .u32 (a : Int), .int .u32 (c : Int), .bool s, .int .i64 al, .int .i64 os] 48
  have c0 := hbx.cell 0 rfl
  have e1 : ¬ k = 1 := by omega
  have e2 : ¬ k = 2 := by omega
  have e3 : ¬ k = 3 := by omega
  have e4 : ¬ k = 4 := by omega
  have e5 : ¬ k = 5 := by omega
  have e6 : ¬ k = 6 := by omega
  have e7 : ¬ k = 7 := by omega
  have e8 : ¬ k = 8 := by omega
  have e9 : ¬ k = 9 := by omega
  have e10 : ¬ k = 10 := by omega
  have e11 : ¬ k = 11 := by omega
  clear hk
  go_enter Try.func20, Try.ntmps20
  go_wp2
  go_ret
  exact ⟨rfl, _, _, _, _, h.same ((Kept.refl _ _).alloc _)⟩
theorem does_ok (x : CallR) (hx : x.wf) (hE : Ev W T) (h : Bo W w b M p Q T V A R) :
    Calls Try.prog 20 #[.pointer (some ⟨b, 0, none⟩), .pointer (some ⟨p, 0, none⟩), .agg (encCall x).toArray] w fun e w' => e = .returned (.bool true) ∧ Alike W w' b M p T := by
  obtain ⟨k, n, a, c, s, al, os⟩ := x
  obtain ⟨_, _, h1, h2, _, _⟩ := hx
  obtain ⟨a, rfl, ha⟩ := u32_nat h1
  obtain ⟨c, rfl, hc⟩ := u32_nat h2
  show Calls Try.prog 20 #[.pointer (some ⟨b, 0, none⟩), .pointer (some ⟨p, 0, none⟩), .agg #[.int .i64 k, .int .i64 n, .int .u32 (a : Int), .int .u32 (c : Int), .bool s, .int .i64 al, .int .i64 os]] w _
  by_cases hk : 1 ≤ k ∧ k ≤ 11
  · obtain rfl | rfl | rfl | rfl | rfl | rfl | rfl | rfl | rfl | rfl | rfl : k = 1 ∨ k = 2 ∨ k = 3 ∨ k = 4 ∨ k = 5 ∨ k = 6 ∨ k = 7 ∨ k = 8 ∨ k = 9 ∨ k = 10 ∨ k = 11 := by omega
    · exact does_tick n a c s al os hE h
    · exact does_base n a c s al os ha hE h
    · exact does_left n a c s al os ha hE h
    · exact does_rel n a c s al os ha hE h
    · exact does_abs n a c s al os ha hE h
    · exact does_cancel n a c s al os ha hE h
    · exact does_auto n a c s al os ha hE h
    · exact does_request n a c s al os ha hE h
    · exact does_next n a c s al os ha hE h
    · exact does_serve n a c s al os ha hE h
    · exact does_calm n a c s al os hE h
  · exact does_other k n a c s al os h hk
end
end Go.Proofs.Ytemhfonneggneaa.BP
