/- Package ready: a queue that New made; a ring that is not there; at, Highest, Bits, High. -/
import Derived.Test.YtdjdnfjfomeldaaRiV
import Derived.Test.YtdjdnfjfomeldaaRdyP
import Derived.Test.YtdjdnfjfomeldaaRdyL
namespace Go.Proofs.Ytdjdnfjfomeldaa.QD
open Go.RowKit Go.Fr Go.Rq

abbrev Rd := Nat × Value × Nat × List Int
/-- block b is a queue: its rings R, one for each of the rows st, lie where their priorities say -/
structure IsQ (w : World) (b : Nat) (cells : List Value) (R : List Rd) (st : List En) (B : Nat) (mk : Bool := true) : Prop where
  blk : Blk w b (.bool mk :: (cells ++ [.int .u64 B])) 60
  n64 : cells.length = 64
  len : R.length = st.length
  has : ∀ (i : Nat) (e : En) (r : Rd), st[i]? = some e → R[i]? = some r → cells[e.1]? = some (.pointer (some ⟨r.1, 0, none⟩)) ∧ RI.IsRing w r.1 r.2.1 e.2.1 r.2.2.1 e.2.2.1 r.2.2.2 e.2.2.2
  no : ∀ p : Nat, p < 64 → (∀ e ∈ st, e.1 ≠ p) → cells[p]? = some (.pointer none)
  apart : ∀ (i j : Nat) (r s : Rd), R[i]? = some r → R[j]? = some s → i ≠ j → ∀ k, RI.foot r.1 r.2.1 k → ¬ RI.foot s.1 s.2.1 k
  nb : ∀ r ∈ R, ¬ RI.foot r.1 r.2.1 b
  falls : Falls st
def qfoot (b : Nat) (R : List Rd) : Nat → Prop := fun i => i = b ∨ ∃ r ∈ R, RI.foot r.1 r.2.1 i

section
variable {w : World} {b : Nat} {cells : List Value} {R : List Rd} {st : List En} {B : Nat} {mk : Bool}

theorem IsQ.kept {w' : World} {S : Nat → Prop} (hs : IsQ w b cells R st B mk) (k : Kept S w w') (hn : ∀ i, qfoot b R i → ¬ S i) : IsQ w' b cells R st B mk :=
  { hs with blk := hs.blk.kept k (hn _ (Or.inl rfl)), has := fun i e r he hr => ⟨(hs.has i e r he hr).1, (hs.has i e r he hr).2.kept k (fun q hq => hn q (Or.inr ⟨r, List.mem_of_getElem? hr, hq⟩))⟩ }
theorem IsQ.same {w' : World} (hs : IsQ w b cells R st B mk) (k : Kept (fun _ => False) w w') : IsQ w' b cells R st B mk := hs.kept k (fun _ _ h => h)
theorem IsQ.at (hs : IsQ w b cells R st B mk) {i : Nat} {r : Rd} (hr : R[i]? = some r) : ∃ e, st[i]? = some e :=
  ⟨_, List.getElem?_eq_getElem (by rw [← hs.len]; exact (List.getElem?_eq_some_iff.1 hr).1)⟩
theorem IsQ.rd (hs : IsQ w b cells R st B mk) {i : Nat} {e : En} (he : st[i]? = some e) : ∃ r, R[i]? = some r :=
  ⟨_, List.getElem?_eq_getElem (by rw [hs.len]; exact (List.getElem?_eq_some_iff.1 he).1)⟩
theorem IsQ.lt (hs : IsQ w b cells R st B mk) : ∀ i, qfoot b R i → i < w.heap.size := by
  rintro i (rfl | ⟨r, hr, hi⟩)
  · exact hs.blk.lt
  · obtain ⟨j, hj⟩ := List.getElem?_of_mem hr
    obtain ⟨e, he⟩ := hs.at hj
    exact (hs.has j e r he hj).2.lt i hi
theorem IsQ.bits (hs : IsQ w b cells R st B mk) : w.cell? ⟨b, 65, none⟩ = some (.int .u64 B) := by
  refine hs.blk.cell 65 ?_
  rw [List.getElem?_cons_succ, List.getElem?_append_right (by have := hs.n64; omega), hs.n64]
  rfl
theorem IsQ.cell (hs : IsQ w b cells R st B mk) {p : Nat} {u : Value} (h : cells[p]? = some u) : w.cell? ⟨b, 1 + p, none⟩ = some u := by
  refine hs.blk.cell (1 + p) ?_
  rw [Nat.add_comm, List.getElem?_cons_succ, List.getElem?_append_left (List.getElem?_eq_some_iff.1 h).1]
  exact h

/-- the pointer to a priority's ring -/
def ringPtr (R : List Rd) (st : List En) (p : Int) : Option Addr := (idx st p).bind fun i => (R[i]?).map fun r => ⟨r.1, 0, none⟩
theorem ringPtr_none {p : Int} (h : idx st p = none) : ringPtr R st p = none := by unfold ringPtr; rw [h]; rfl
theorem ringPtr_some {p : Int} {i : Nat} {r : Rd} (h : idx st p = some i) (hr : R[i]? = some r) : ringPtr R st p = some ⟨r.1, 0, none⟩ := by unfold ringPtr; rw [h]; simp [hr]
theorem IsQ.slot (hs : IsQ w b cells R st B mk) {p : Nat} (hp : p < 64) : cells[p]? = some (.pointer (ringPtr R st (p : Int))) := by
  cases h : idx st (p : Int) with
  | none => rw [ringPtr_none h]; exact hs.no p hp (fun e he h2 => idx_none h e he (by omega))
  | some i =>
    obtain ⟨e, h1, h2, _⟩ := idx_some h
    obtain ⟨r, hr⟩ := hs.rd h1
    rw [ringPtr_some h hr]
    have := (hs.has i e r h1 hr).1
    rwa [show e.1 = p by omega] at this

set_option maxRecDepth 100000 in
theorem at_ok (p : Int) (hs : IsQ w b cells R st B mk) : Calls Try.prog 35 #[.pointer (some ⟨b, 0, none⟩), .int .i64 p] w fun e w' => e = .returned (.pointer (ringPtr R st p)) ∧ w = w' := by
  by_cases h0 : p < 0
  · have d0 : decide (p < 0) = true := by simpa using h0
    have hn : ringPtr R st p = none := by
      refine ringPtr_none ?_
      cases h : idx st p with
      | none => rfl
      | some i => obtain ⟨e, _, h2, _⟩ := idx_some h; omega
    rw [hn]
    go_enter Try.func35, Try.ntmps35
    go_wp2
    go_ret
    exact ⟨rfl, rfl⟩
  · have d0 : decide (p < 0) = false := by simpa using h0
    by_cases h1 : 63 < p
    · have d1 : decide (63 < p) = true := by simpa using h1
      have hn : ringPtr R st p = none := by
        refine ringPtr_none ?_
        cases h : idx st p with
        | none => rfl
        | some i => obtain ⟨e, hx, h2, _⟩ := idx_some h; have := hs.falls.lt e (List.mem_of_getElem? hx); omega
      rw [hn]
      go_enter Try.func35, Try.ntmps35
      go_wp2
      go_ret
      exact ⟨rfl, rfl⟩
    · have d1 : decide (63 < p) = false := by simpa using h1
      obtain ⟨k, rfl⟩ := Int.eq_ofNat_of_zero_le (show 0 ≤ p by omega)
      have hk0 : (0 : Int) ≤ (k : Int) := by omega
      have hk1 : (k : Int) < 64 := by omega
      have c := hs.cell (hs.slot (p := k) (by omega))
      go_enter Try.func35, Try.ntmps35
      go_wp2
      go_ret
      exact ⟨rfl, rfl⟩

/-- what Highest answers -/
def highest (st : List En) : Int × Bool := match top st with | none => (0, false) | some i => (((st[i]?).map (fun e => (e.1 : Int))).getD 0, true)
theorem highest_none {st : List En} (h : top st = none) : highest st = (0, false) := by unfold highest; rw [h]
theorem highest_some {st : List En} {i : Nat} {e : En} (h : top st = some i) (hx : st[i]? = some e) : highest st = ((e.1 : Int), true) := by unfold highest; rw [h]; simp [hx]

set_option maxRecDepth 100000 in
theorem highest_ok (hs : IsQ w b cells R st (bitsN st) mk) : Calls Try.prog 30 #[.pointer (some ⟨b, 0, none⟩)] w fun e w' => e = .returned (.tuple #[.int .i64 (highest st).1, .bool (highest st).2]) ∧ w = w' := by
  have c := hs.bits
  have hlt := bits_lt hs.falls.lt
  cases h : top st with
  | none =>
    rw [highest_none h]
    rw [bits_zero (top_none h)] at c
    go_enter Try.func30, Try.ntmps30
    go_wp2
    go_ret2
    exact ⟨rfl, rfl⟩
  | some i =>
    obtain ⟨e, hx, hn, hb⟩ := top_some h
    rw [highest_some h hx]
    have hnz := bits_nz (List.mem_of_getElem? hx) hn
    have htop := bits_top hs.falls hx hn hb
    have hp := hs.falls.lt e (List.mem_of_getElem? hx)
    have hl := len64_ok ((bitsN st : Nat) : Int) w (by omega) (by omega)
    rw [Int.toNat_natCast, htop] at hl
    obtain ⟨X, hX⟩ : ∃ X, bitsN st = X := ⟨_, rfl⟩
    rw [hX] at hl c hnz
    have d0 : ((X : Int) == 0) = false := by simp; omega
    have d1 : ¬ ((X : Int) = 0) := by omega
    have hw : RowKit.wrap64 (((e.1 + 1 : Nat) : Int) - 1) = (e.1 : Int) := by rw [IntWalk.wrap64_in _ (by omega)]; omega
    clear hX htop hb hx
    go_enter Try.func30, Try.ntmps30
    go_wp2_with (go_at_call 51; refine hl.mono ?_; rintro e w' ⟨rfl, rfl⟩)
    go_ret2
    exact ⟨by first | rfl | (rw [hw]) | (simp), rfl⟩

theorem bits_ok (hs : IsQ w b cells R st B mk) : Calls Try.prog 21 #[.pointer (some ⟨b, 0, none⟩)] w fun e w' => e = .returned (.int .u64 B) ∧ w = w' := by
  have c := hs.bits
  go_enter Try.func21, Try.ntmps21
  go_wp2
  go_ret
  exact ⟨rfl, rfl⟩
end

-- a ring that is not there
theorem nil_alive (w : World) : Calls Try.prog 52 #[.pointer none] w fun e w' => e = .returned (.bool false) ∧ w = w' := by
  go_enter Try.func52, Try.ntmps52
  go_wp2
  go_ret
  exact ⟨rfl, rfl⟩
theorem nil_len (w : World) : Calls Try.prog 38 #[.pointer none] w fun e w' => e = .returned (.int .i64 0) ∧ w = w' := by
  go_enter Try.func38, Try.ntmps38
  go_wp2
  go_ret
  exact ⟨rfl, rfl⟩
theorem nil_high (w : World) : Calls Try.prog 56 #[.pointer none] w fun e w' => e = .returned (.int .i64 0) ∧ w = w' := by
  go_enter Try.func56, Try.ntmps56
  go_wp2
  go_ret
  exact ⟨rfl, rfl⟩
theorem nil_clear (w : World) : Calls Try.prog 48 #[.pointer none] w fun e w' => e = .returned (.int .i64 0) ∧ w = w' := by
  go_enter Try.func48, Try.ntmps48
  go_wp2
  go_ret
  exact ⟨rfl, rfl⟩
theorem nil_copy (w : World) : Calls Try.prog 49 #[.pointer none] w fun e w' => e = .returned (.pointer none) ∧ w = w' := by
  go_enter Try.func49, Try.ntmps49
  go_wp2
  go_ret
  exact ⟨rfl, rfl⟩

section
variable {w : World} {b : Nat} {cells : List Value} {R : List Rd} {st : List En} {B : Nat} {mk : Bool}
/-- the most that there were in a priority's ring -/
def highQ (st : List En) (p : Int) : Int := ((idx st p).bind fun i => (st[i]?).map fun e => e.2.2.1).getD 0
theorem high_ok (p : Int) (hs : IsQ w b cells R st B mk) : Calls Try.prog 45 #[.pointer (some ⟨b, 0, none⟩), .int .i64 p] w fun e w' => e = .returned (.int .i64 (highQ st p)) ∧ w = w' := by
  have ha := at_ok p hs
  unfold highQ
  cases h : idx st p with
  | none =>
    rw [ringPtr_none h] at ha
    go_enter Try.func45, Try.ntmps45
    go_wp2_with (first
      | (go_at_call 35; refine ha.mono ?_; rintro e w' ⟨rfl, rfl⟩)
      | (go_at_call 56; refine (nil_high _).mono ?_; rintro e w' ⟨rfl, rfl⟩))
    go_ret
    exact ⟨rfl, rfl⟩
  | some i =>
    obtain ⟨e, h1, h2, _⟩ := idx_some h
    obtain ⟨r, hr⟩ := hs.rd h1
    rw [ringPtr_some h hr] at ha
    have hh := RI.high_ok (hs.has i e r h1 hr).2
    simp only [Option.bind_some, h1, Option.map_some, Option.getD_some]
    go_enter Try.func45, Try.ntmps45
    go_wp2_with (first
      | (go_at_call 35; refine ha.mono ?_; rintro e w' ⟨rfl, rfl⟩)
      | (go_at_call 56; refine hh.mono ?_; rintro e w' ⟨rfl, rfl⟩))
    go_ret
    exact ⟨rfl, rfl⟩
end
end Go.Proofs.Ytdjdnfjfomeldaa.QD
