/- The document's queue: what only reads: Highest, Ring, Most, Bits. -/
import Derived.Test.YtdjdnfjfomeldaaRdyD
namespace Go.Proofs.Ytdjdnfjfomeldaa.DQ
open Go.RowKit Go.Fr Go.Rq Go.Shelf
open Go.Proofs.Ytdjdnfjfomeldaa.QD (highest highest_none highest_some highQ shl_one or_bits)
attribute [local go_sem] Oper.semAt_some

section
variable {w : World} {p : Nat} {d : Dd} {st : List En}
theorem top_first {k : Nat} {e : En} (hx : st[k]? = some e) (he : ne e = true) (hb : ∀ (j : Nat) (a : En), j < k → st[j]? = some a → ne a = false) : top st = some k := by
  cases h : top st with
  | none => have := top_none h e (List.mem_of_getElem? hx); rw [he] at this; cases this
  | some i =>
    obtain ⟨a, h1, h2, h3⟩ := top_some h
    rcases Nat.lt_trichotomy i k with h4 | rfl | h4
    · have := hb i a h4 h1; rw [h2] at this; cases this
    · rfl
    · have := h3 k e h4 hx; rw [he] at this; cases this
theorem top_no (hb : ∀ (j : Nat) (a : En), st[j]? = some a → ne a = false) : top st = none := by
  cases h : top st with
  | none => rfl
  | some i =>
    obtain ⟨a, h1, h2, h3⟩ := top_some h
    have := hb i a h1; rw [h2] at this; cases this
theorem ne_len {e : En} : ne e = true ↔ 0 < e.2.2.2.length := by unfold ne; cases e.2.2.2 <;> simp
theorem ne_len0 {e : En} : ne e = false ↔ e.2.2.2.length = 0 := by unfold ne; cases e.2.2.2 <;> simp
theorem IsD.hln (hs : IsD w p d st) : st.length ≤ 9223372036854775807 := by
  rcases row_forms hs.rows with ⟨_, h⟩ | ⟨g, c, h1, h2, h3, _⟩
  · omega
  · unfold maxLen at h3; omega
theorem IsD.idl (hs : IsD w p d st) {i : Nat} {e : En} (hx : st[i]? = some e) : e.2.2.2.length ≤ 65536 := by
  have h1 := hs.falls.cap e (List.mem_of_getElem? hx)
  have h2 := hs.falls.len e (List.mem_of_getElem? hx)
  omega

set_option maxRecDepth 100000 in
set_option maxHeartbeats 2000000 in
theorem highest_ok (hs : IsD w p d st) : Calls Try.prog 39 #[.pointer (some ⟨p, 0, none⟩)] w fun e w' => e = .returned (.tuple #[.int .i64 (highest st).1, .bool (highest st).2]) ∧ w = w' := by
  have c0 := hs.blk.cell 0 rfl
  have c1 := hs.blk.cell 1 rfl
  have hln := hs.hln
  have HS := Lib.hid hs
  clear hs
  go_enter Try.func39, Try.ntmps39
  go_wp2
  go_loopw [4] (fun i wr => ∃ k : Nat, k ≤ st.length ∧ i = .int .i64 k ∧ wr = w ∧ Hid (∀ (j : Nat) (a : En), j < k → st[j]? = some a → ne a = false)) (fun i _ => st.length - (intOf i).toNat)
  case atStart => exact ⟨0, Nat.zero_le _, rfl, rfl, fun j a hj => by omega⟩
  case round =>
    obtain ⟨k, hk, rfl, rfl, hb⟩ := hrel
    by_cases hkl : k < st.length
    · obtain ⟨e, hx⟩ : ∃ e, st[k]? = some e := ⟨_, List.getElem?_eq_getElem hkl⟩
      obtain ⟨gR, gL, gH, v, e1, e2, _, _, hv, b1, _, b2, _⟩ := HS.out.at hx
      obtain ⟨av, cv, rfl⟩ := hv.form
      have hk0 : (0 : Int) ≤ (k : Int) := by omega
      have hk1 : (k : Int) < (st.length : Int) := by omega
      rw [e1] at c0
      rw [e2] at c1
      cases he : ne e with
      | true =>
        have hf : highest st = ((e.1 : Int), true) := highest_some (top_first hx he hb.out) hx
        have hl := ne_len.1 he
        have HF := Lib.hid hf
        clear hx hf he
        go_wp2
        go_ret2
        rw [HF.out]
        exact ⟨rfl, (by first | rfl | trivial)⟩
      | false =>
        have hb2 : Hid (∀ (j : Nat) (a : En), j < k + 1 → st[j]? = some a → ne a = false) := fun j a hj ha => by
          rcases Nat.lt_or_ge j k with h | h
          · exact hb.out j a h ha
          · rw [show j = k by omega, hx] at ha; cases ha; exact he
        have hl := ne_len0.1 he
        clear hx he
        go_wp2
        go_roundw
        case rel => exact ⟨k + 1, by omega, by go_num, (by first | rfl | trivial), hb2⟩
        case measure => simp [intOf]; omega
    · obtain rfl : k = st.length := by omega
      have hf : highest st = (0, false) := highest_none (top_no (fun j a ha => hb.out j a (List.getElem?_eq_some_iff.1 ha).1 ha))
      have HF := Lib.hid hf
      clear hf
      go_wp2
      go_ret2
      rw [HF.out]
      exact ⟨rfl, (by first | rfl | trivial)⟩

theorem idsAt_some {q : Int} {i : Nat} {e : En} (h : idx st q = some i) (he : st[i]? = some e) : idsAt st q = e.2.2.2 := by unfold idsAt; rw [h]; simp [he]
theorem idsAt_none {q : Int} (h : idx st q = none) : idsAt st q = [] := by unfold idsAt; rw [h]; rfl
theorem highQ_some {q : Int} {i : Nat} {e : En} (h : idx st q = some i) (he : st[i]? = some e) : highQ st q = e.2.2.1 := by unfold highQ; rw [h]; simp [he]
theorem highQ_none {q : Int} (h : idx st q = none) : highQ st q = 0 := by unfold highQ; rw [h]; rfl

set_option maxRecDepth 100000 in
theorem ring_ok (q : Int) (hs : IsD w p d st) : Calls Try.prog 44 #[.pointer (some ⟨p, 0, none⟩), .int .i64 q] w fun e w' => (∃ v, e = .returned v ∧ LV w v (idsAt st q) ∧ (∀ k, v.ownBlock = some k → dfoot p d k)) ∧ w = w' := by
  have c1 := hs.blk.cell 1 rfl
  have hfi := find_ok q hs
  cases h : idx st q with
  | none =>
    rw [idsAt_none h]
    rw [fidx_none h] at hfi
    clear hs
    go_enter Try.func44, Try.ntmps44
    go_wp2_with (go_at_call 40; refine hfi.mono ?_; rintro e w' ⟨rfl, rfl⟩)
    go_ret
    exact ⟨⟨_, rfl, Or.inl ⟨rfl, rfl⟩, by simp [Value.ownBlock]⟩, rfl⟩
  | some i =>
    obtain ⟨e, hx, hp, _⟩ := idx_some h
    rw [idsAt_some h hx]
    rw [fidx_some h] at hfi
    obtain ⟨gR, gL, gH, v, e1, e2, _, hvs, hv, b1, _, b2, _⟩ := hs.at hx
    have hdf : ∀ k, v.ownBlock = some k → dfoot p d k := fun k hk => Or.inr (Or.inr (Or.inr (Or.inr ⟨v, List.mem_of_getElem? hvs, hk⟩)))
    have hi := (List.getElem?_eq_some_iff.1 hx).1
    have hk0 : (0 : Int) ≤ (i : Int) := by omega
    have hk1 : (i : Int) < (st.length : Int) := by omega
    rw [e2] at c1
    clear hs
    go_enter Try.func44, Try.ntmps44
    go_wp2_with (go_at_call 40; refine hfi.mono ?_; rintro e w' ⟨rfl, rfl⟩)
    go_ret
    exact ⟨⟨_, rfl, hv, hdf⟩, rfl⟩

set_option maxRecDepth 100000 in
theorem most_ok (q : Int) (hs : IsD w p d st) : Calls Try.prog 46 #[.pointer (some ⟨p, 0, none⟩), .int .i64 q] w fun e w' => e = .returned (.int .i64 (highQ st q)) ∧ w = w' := by
  have c2 := hs.blk.cell 2 rfl
  have hfi := find_ok q hs
  cases h : idx st q with
  | none =>
    rw [highQ_none h]
    rw [fidx_none h] at hfi
    clear hs
    go_enter Try.func46, Try.ntmps46
    go_wp2_with (go_at_call 40; refine hfi.mono ?_; rintro e w' ⟨rfl, rfl⟩)
    go_ret
    exact ⟨rfl, rfl⟩
  | some i =>
    obtain ⟨e, hx, hp, _⟩ := idx_some h
    rw [highQ_some h hx]
    rw [fidx_some h] at hfi
    obtain ⟨gR, gL, gH, v, _, _, e3, _, _, b1, _, _, b2⟩ := hs.at hx
    have hi := (List.getElem?_eq_some_iff.1 hx).1
    have hk0 : (0 : Int) ≤ (i : Int) := by omega
    have hk1 : (i : Int) < (st.length : Int) := by omega
    rw [e3] at c2
    clear hs
    go_enter Try.func46, Try.ntmps46
    go_wp2_with (go_at_call 40; refine hfi.mono ?_; rintro e w' ⟨rfl, rfl⟩)
    go_ret
    exact ⟨rfl, rfl⟩

theorem bits_more {k : Nat} {e : En} (hx : st[k]? = some e) (he : ne e = true) : bitsN (st.take (k + 1)) = bitsN (st.take k) ||| 2 ^ e.1 := by
  rw [List.take_add_one, hx, Option.toList_some, bits_snoc, if_pos he]
theorem bits_skip {k : Nat} {e : En} (hx : st[k]? = some e) (he : ne e = false) : bitsN (st.take (k + 1)) = bitsN (st.take k) := by
  rw [List.take_add_one, hx, Option.toList_some, bits_snoc, he]; simp

set_option maxRecDepth 100000 in
set_option maxHeartbeats 2000000 in
theorem bits_ok (hs : IsD w p d st) : Calls Try.prog 41 #[.pointer (some ⟨p, 0, none⟩)] w fun e w' => e = .returned (.int .u64 (bitsN st)) ∧ w = w' := by
  have c0 := hs.blk.cell 0 rfl
  have c1 := hs.blk.cell 1 rfl
  have hln := hs.hln
  have hF := Lib.hid hs.falls
  have HS := Lib.hid hs
  clear hs
  go_enter Try.func41, Try.ntmps41
  go_wp2
  go_loopw [3, 4] (fun bb i wr => ∃ k : Nat, k ≤ st.length ∧ i = .int .i64 k ∧ bb = .int .u64 (bitsN (st.take k)) ∧ wr = w) (fun _ i _ => st.length - (intOf i).toNat)
  case atStart => exact ⟨0, Nat.zero_le _, rfl, rfl, rfl⟩
  case round =>
    obtain ⟨k, hk, rfl, rfl, rfl⟩ := hrel
    by_cases hkl : k < st.length
    · obtain ⟨e, hx⟩ : ∃ e, st[k]? = some e := ⟨_, List.getElem?_eq_getElem hkl⟩
      obtain ⟨gR, gL, gH, v, e1, e2, _, _, hv, b1, _, b2, _⟩ := HS.out.at hx
      obtain ⟨av, cv, rfl⟩ := hv.form
      have hk0 : (0 : Int) ≤ (k : Int) := by omega
      have hk1 : (k : Int) < (st.length : Int) := by omega
      rw [e1] at c0
      rw [e2] at c1
      have hB : bitsN (st.take k) < 18446744073709551616 := bits_lt (fun a ha => hF.out.lt a (List.mem_of_mem_take ha))
      have hp1 := hF.out.lt e (List.mem_of_getElem? hx)
      obtain ⟨B, hBe⟩ : ∃ B, bitsN (st.take k) = B := ⟨_, rfl⟩
      cases he : ne e with
      | true =>
        have hl := ne_len.1 he
        have hm := bits_more hx he
        have hw := shl_one hp1
        rw [hBe] at hB hm
        have hor := or_bits hB hp1
        rw [← hm] at hor
        obtain ⟨B', hB'⟩ : ∃ B', bitsN (st.take (k + 1)) = B' := ⟨_, rfl⟩
        rw [hB'] at hor
        have HB := Lib.hid hB'
        have hpp0 : (0 : Int) ≤ (e.1 : Int) := by omega
        have hpp1 : (e.1 : Int) < 64 := by omega
        rw [hBe]
        clear hx he hm hB'
        go_wp2
        go_roundw
        case rel => exact ⟨k + 1, by omega, by go_num, by rw [HB.out], (by first | rfl | trivial)⟩
        case measure => simp [intOf]; omega
      | false =>
        have hl := ne_len0.1 he
        have hm := bits_skip hx he
        have HB := Lib.hid hm
        clear hx he hm
        go_wp2
        go_roundw
        case rel => exact ⟨k + 1, by omega, by go_num, by rw [HB.out], (by first | rfl | trivial)⟩
        case measure => simp [intOf]; omega
    · obtain rfl : k = st.length := by omega
      rw [List.take_length]
      go_wp2
      go_ret
      exact ⟨rfl, (by first | rfl | trivial)⟩
end
end Go.Proofs.Ytdjdnfjfomeldaa.DQ
