/- Pop, Top, Find of stack.Stack[string]. -/
import Derived.Test.YtpbjmkdpeadjeaaStsT
namespace Go.Proofs.Ytpbjmkdpeadjeaa.SS
open Go.RowKit Go.Fr
section
variable {w : World} {b : Nat} {v : Value} {d h : Int} {l : List ByteArray}

set_option maxRecDepth 100000 in
set_option maxHeartbeats 400000 in
theorem pop_none (hs : IsStk w b v d h []) : Calls Try.prog 38 #[.pointer (some ⟨b, 0, none⟩)] w fun e w' =>
    e = .returned (.tuple #[.string ⟨#[]⟩, .int .i64 142]) ∧ w = w' := by
  obtain ⟨hb, hr, ho, hn⟩ := hs
  have c0 := hb.cell 0 rfl
  have c2 := hb.cell 2 rfl
  obtain ⟨ao, c, rfl, hc⟩ := row_any hr
  simp only [List.length_nil] at c2
  go_enter Try.func38, Try.ntmps38
  go_wp2
  go_ret2
  exact ⟨rfl, rfl⟩

set_option maxRecDepth 100000 in
set_option maxHeartbeats 400000 in
theorem pop_ok (x : ByteArray) (hs : IsStk w b v d h (l ++ [x])) : Calls Try.prog 38 #[.pointer (some ⟨b, 0, none⟩)] w fun e w' =>
    e = .returned (.tuple #[.string x, .int .i64 0]) ∧ ∃ v', IsStk w' b v' d h l ∧ v'.ownBlock = v.ownBlock ∧ Kept (fun k => k = b) w w' := by
  obtain ⟨hb, hr, ho, hn⟩ := hs
  have c0 := hb.cell 0 rfl
  have c2 := hb.cell 2 rfl
  have f2 := hb.frozen 2
  have hlen : (l ++ [x]).length = l.length + 1 := by simp
  rw [hlen] at hr hn
  obtain ⟨g, c, rfl, hc, hm, hg⟩ := row_form hr
  have hx := row_cell hr l.length (u := .string x) (by simp)
  have hcut := row_cut hr l.length (by omega)
  go_enter Try.func38, Try.ntmps38
  go_wp2
  go_quiet (fail)
  go_wp2
  go_region
  go_wp2
  go_ret2
  have ho' : (Value.slice (some ⟨g, 0, none⟩) l.length c).ownBlock ≠ some b := by simpa [Value.ownBlock] using ho
  have hrow : Row (w.setCell ⟨b, 2, none⟩ (.slice (some ⟨g, 0, none⟩) l.length c)) 9 1 (.slice (some ⟨g, 0, none⟩) l.length c) l.length (l.map Value.string) := by
    simpa using row_setCell_other hcut (a := ⟨b, 2, none⟩) ho' (.slice (some ⟨g, 0, none⟩) l.length c)
  exact ⟨rfl, .slice (some ⟨g, 0, none⟩) l.length c, ⟨Blk.heap (hb.set 2 _) rfl, row_heap hrow (fun _ _ => rfl), ho', by omega⟩, rfl,
    ((Kept.refl (fun k => k = b) w).set 2 (Or.inl rfl) _).same rfl rfl rfl rfl⟩

end

/-- what Find tells of a list: how many lie above the thing -/
def Found (l : List ByteArray) (x : ByteArray) (r : Nat) (ok : Bool) : Prop :=
  (ok = true ∧ l.reverse[r]? = some x ∧ ∀ j, j < r → l.reverse[j]? ≠ some x) ∨ (ok = false ∧ r = 0 ∧ ∀ j, j < l.length → l.reverse[j]? ≠ some x)
theorem Found.yes {l : List ByteArray} {x : ByteArray} {k : Nat} (hno : ∀ j, j < k → l.reverse[j]? ≠ some x) (hx : l.reverse[k]? = some x) : Found l x k true := Or.inl ⟨rfl, hx, hno⟩
theorem Found.no {l : List ByteArray} {x : ByteArray} (hno : ∀ j, j < l.length → l.reverse[j]? ≠ some x) : Found l x 0 false := Or.inr ⟨rfl, rfl, hno⟩

set_option maxRecDepth 100000 in
set_option maxHeartbeats 1000000 in
theorem find_any {w : World} {b : Nat} {v : Value} {d h : Int} {l : List ByteArray} (x : ByteArray) (hs : IsStk w b v d h l) : Calls Try.prog 37 #[.pointer (some ⟨b, 0, none⟩), .string x] w fun e w' =>
    ∃ (r : Nat) (ok : Bool), e = .returned (.tuple #[.int .i64 r, .bool ok]) ∧ Found l x r ok ∧ ∃ n, w' = w.drewN n := by
  have hs' := hs
  obtain ⟨hb, hr, ho, hn⟩ := hs
  have c0 := hb.cell 0 rfl
  have c2 := hb.cell 2 rfl
  obtain ⟨ao, c, rfl, hc⟩ := row_any hr
  go_enter Try.func37, Try.ntmps37
  go_wp2_with (go_at_call 51; refine (alive_ok hs').mono ?_; rintro e w' ⟨rfl, rfl⟩)
  go_loopw [6] (fun n wr => ∃ k m : Nat, k ≤ l.length ∧ n = .int .i64 k ∧ wr = w.drewN m ∧ Hid (∀ j, j < k → l.reverse[j]? ≠ some x)) (fun n _ => l.length - (intOf n).toNat)
  case atStart => exact ⟨0, 0, Nat.zero_le _, rfl, rfl, fun j hj => by omega⟩
  case round =>
    obtain ⟨k, m, hk, rfl, rfl, hno⟩ := hrel
    by_cases hlt : k < l.length
    · obtain ⟨q, hq⟩ : ∃ q, l.length = q + k + 1 := ⟨l.length - 1 - k, by omega⟩
      have hql : q < l.length := by omega
      obtain ⟨y, hy⟩ : ∃ y, l.reverse[k]? = some y := ⟨_, List.getElem?_eq_getElem (by simpa using hlt)⟩
      have hcell : ∃ g, ao = some ⟨g, 0, none⟩ ∧ w.cell? ⟨g, q, none⟩ = some (.string y) := by
        rcases row_forms hr with ⟨_, h0⟩ | ⟨g, c', hv, _⟩
        · omega
        · cases hv
          refine ⟨g, rfl, row_cell hr _ ?_⟩
          rw [List.getElem?_reverse hlt, show l.length - 1 - k = q by omega] at hy
          rw [List.getElem?_map, hy]
          rfl
      obtain ⟨g, rfl, hcl⟩ := hcell
      have w1 : IntKind.i64.wrap ((l.length : Int) - 1) = (l.length : Int) - 1 := IntWalk.i64_in _ (by omega)
      have w2 : IntKind.i64.wrap ((l.length : Int) - 1 - k) = (q : Int) := by rw [IntWalk.i64_in _ (by omega)]; omega
      clear hq
      have Hy := Lib.hid hy
      clear hy
      by_cases hyx : y = x
      · have hfd := Lib.hid (Found.yes hno.out (hyx ▸ Hy.out))
        have hq : (y.toList == x.toList) = true := by simp [hyx]
        clear hyx
        go_wp2
        go_quiet (fail)
        clear w1 w2
        go_wp2
        go_ret2
        exact ⟨k, true, rfl, hfd.out, _, World.drewN_drewN _ _ _⟩
      · have hnx : l.reverse[k]? ≠ some x := by rw [Hy.out]; simpa using hyx
        have hnx' := Lib.hid hnx
        have hq : (y.toList == x.toList) = false := by simpa using fun h => hyx (toList_inj h)
        clear hyx hnx
        go_wp2
        go_quiet (fail)
        clear w1 w2
        go_wp2
        go_roundw
        case rel => exact ⟨k + 1, _, by omega, by go_num, rfl, fun j hj => by
          rcases Nat.lt_or_ge j k with h1 | h1
          · exact hno.out j h1
          · obtain rfl : j = k := by omega
            exact hnx'.out⟩
        case measure => simp [intOf]; omega
    · have hfd := Lib.hid (Found.no (l := l) (x := x) (fun j hj => hno.out j (by omega)))
      go_wp2
      go_ret2
      exact ⟨0, false, rfl, hfd.out, _, rfl⟩

end Go.Proofs.Ytpbjmkdpeadjeaa.SS
