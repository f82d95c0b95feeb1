/- Find of the stack of pairs. -/
import Derived.Test.YtpbjmkdpeadjeaaStpU
namespace Go.Proofs.Ytpbjmkdpeadjeaa.SP
open Go.RowKit Go.Fr

/-- what Find tells of a list: how many lie above the thing -/
def Found (l : List Pr) (x : Pr) (r : Nat) (ok : Bool) : Prop :=
  (ok = true ∧ l.reverse[r]? = some x ∧ ∀ j, j < r → l.reverse[j]? ≠ some x) ∨ (ok = false ∧ r = 0 ∧ ∀ j, j < l.length → l.reverse[j]? ≠ some x)
theorem Found.yes {l : List Pr} {x : Pr} {k : Nat} (hno : ∀ j, j < k → l.reverse[j]? ≠ some x) (hx : l.reverse[k]? = some x) : Found l x k true := Or.inl ⟨rfl, hx, hno⟩
theorem Found.no {l : List Pr} {x : Pr} (hno : ∀ j, j < l.length → l.reverse[j]? ≠ some x) : Found l x 0 false := Or.inr ⟨rfl, rfl, hno⟩

set_option maxRecDepth 100000 in
set_option maxHeartbeats 4000000 in
theorem find_any {w : World} {b : Nat} {v : Value} {d h : Int} {l : List Pr} (x : Pr) (hs : IsStk w b v d h l) : Calls Try.prog 19 #[.pointer (some ⟨b, 0, none⟩), valP x] w fun e w' =>
    ∃ (r : Nat) (ok : Bool), e = .returned (.tuple #[.int .i64 r, .bool ok]) ∧ Found l x r ok ∧ Kept (fun _ => False) w w' := by
  have kA := (Kept.refl (fun _ => False) w).alloc (.cells #[.int .i64 x.1, .string x.2] 31)
  have hs' := hs.kept kA (fun _ _ h => h)
  have bx := Blk.new w [.int .i64 x.1, .string x.2] 31
  have hal := alive_ok hs'
  have hlt1 : w.heap.size < (w.alloc (.cells #[.int .i64 x.1, .string x.2] 31)).heap.size := bx.lt
  clear hs
  go_enter Try.func19, Try.ntmps19
  go_wp2_with (go_at_call 42; refine hal.mono ?_; rintro e w' ⟨rfl, rfl⟩)
  obtain ⟨W, hW⟩ : ∃ W, w.alloc (.cells #[.int .i64 x.1, .string x.2] 31) = W := ⟨_, rfl⟩
  rw [hW] at kA hs' bx ⊢
  clear hW hal hlt1
  obtain ⟨N, hN⟩ : ∃ N, w.heap.size = N := ⟨_, rfl⟩
  simp only [hN] at bx ⊢
  clear hN
  have KA := Lib.hid kA
  clear kA
  obtain ⟨hb, hr, ho, hn⟩ := hs'
  have c0 := hb.cell 0 rfl
  have c2 := hb.cell 2 rfl
  have b0 := bx.cell 0 rfl
  have b1 := bx.cell 1 rfl
  obtain ⟨ao, c, rfl, hc⟩ := row_any hr
  go_loopw [6] (fun n wr => ∃ k m : Nat, k ≤ l.length ∧ n = .int .i64 k ∧ wr = W.drewN m ∧ Hid (∀ j, j < k → l.reverse[j]? ≠ some x)) (fun n _ => l.length - (intOf n).toNat)
  case atStart => exact ⟨0, 0, Nat.zero_le _, rfl, rfl, fun j hj => by omega⟩
  case round =>
    obtain ⟨k, m, hk, rfl, rfl, hno⟩ := hrel
    by_cases hlt : k < l.length
    · obtain ⟨q, hq⟩ : ∃ q, l.length = q + k + 1 := ⟨l.length - 1 - k, by omega⟩
      have hql : q < l.length := by omega
      obtain ⟨y, hy⟩ : ∃ y, l.reverse[k]? = some y := ⟨_, List.getElem?_eq_getElem (by simpa using hlt)⟩
      have hcell : ∃ g, ao = some ⟨g, 0, none⟩ ∧ W.cell? ⟨g, q * 2, none⟩ = some (.int .i64 y.1) ∧ W.cell? ⟨g, q * 2 + 1, none⟩ = some (.string y.2) := by
        rcases row_forms hr with ⟨_, h0⟩ | ⟨g, c', hv, _⟩
        · omega
        · cases hv
          rw [List.getElem?_reverse hlt, show l.length - 1 - k = q by omega] at hy
          exact ⟨g, rfl, rows_cell (i := 0) encP_len hr hy rfl, rows_cell (i := 1) encP_len hr hy rfl⟩
      obtain ⟨g, rfl, hcl, hcl1⟩ := hcell
      have w1 : IntKind.i64.wrap ((l.length : Int) - 1) = (l.length : Int) - 1 := IntWalk.i64_in _ (by omega)
      have w2 : IntKind.i64.wrap ((l.length : Int) - 1 - k) = (q : Int) := by rw [IntWalk.i64_in _ (by omega)]; omega
      clear hq
      have Hy := Lib.hid hy
      clear hy
      by_cases hy1 : y.1 = x.1
      · have e1 : (y.1 == x.1) = true := by simpa using hy1
        by_cases hy2 : y.2 = x.2
        · have hyx : y = x := Prod.ext hy1 hy2
          have hfd := Lib.hid (Found.yes hno.out (hyx ▸ Hy.out))
          have e2 : (y.2.toList == x.2.toList) = true := by simp [hy2]
          clear hyx hy1 hy2
          go_wp2
          go_quiet (fail)
          clear w1 w2
          go_wp2
          go_ret2
          exact ⟨k, true, rfl, hfd.out, (KA.out.drewN m).drewN _⟩
        · have hnx : l.reverse[k]? ≠ some x := by rw [Hy.out]; intro e; cases e; exact hy2 rfl
          have hnx' := Lib.hid hnx
          have e2 : (y.2.toList == x.2.toList) = false := by simpa using fun h => hy2 (toList_inj h)
          clear hy1 hy2 hnx
          go_wp2
          go_quiet (fail)
          clear w1 w2
          go_wp2
          go_roundw
          case rel => exact ⟨k + 1, _, by omega, by go_num, rfl, fun j hj => by
            rcases Nat.lt_or_ge j k with h1 | h1
            · exact hno.out j h1
            · obtain rfl : j = k := by omega
              exact hnx'.out⟩
          case measure => simp [intOf]; omega
      · have hnx : l.reverse[k]? ≠ some x := by rw [Hy.out]; intro e; cases e; exact hy1 rfl
        have hnx' := Lib.hid hnx
        have e1 : (y.1 == x.1) = false := by simpa using hy1
        clear hy1 hnx
        go_wp2
        go_quiet (fail)
        clear w1 w2
        go_wp2
        go_roundw
        case rel => exact ⟨k + 1, _, by omega, by go_num, rfl, fun j hj => by
          rcases Nat.lt_or_ge j k with h1 | h1
          · exact hno.out j h1
          · obtain rfl : j = k := by omega
            exact hnx'.out⟩
        case measure => simp [intOf]; omega
    · have hfd := Lib.hid (Found.no (l := l) (x := x) (fun j hj => hno.out j (by omega)))
      go_wp2
      go_ret2
      exact ⟨0, false, rfl, hfd.out, KA.out.drewN _⟩
end Go.Proofs.Ytpbjmkdpeadjeaa.SP
