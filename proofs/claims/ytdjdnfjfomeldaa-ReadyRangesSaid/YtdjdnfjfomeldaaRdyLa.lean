/- tappetlaw13: ints, queued. -/
import Derived.Test.YtdjdnfjfomeldaaRdyN
namespace Go.Proofs.Ytdjdnfjfomeldaa.RL
open Go.RowKit Go.Fr Go.Rq Go.Shelf
open Go.Proofs.Ytdjdnfjfomeldaa.QD (IsQ qfoot encQ Stepped highQ highest)
open Go.Proofs.Ytdjdnfjfomeldaa.DQ (IsD dfoot Dd LV Dstep)
attribute [local go_sem] Oper.semAt_some

set_option maxRecDepth 100000 in
set_option maxHeartbeats 1000000 in
theorem ints_ok {w : World} {ao bo : Option Addr} {c c' : Nat} {l : List Int} (ha : Row w 3 1 (.slice ao l.length c) l.length (l.map (Value.int .i64))) (hb : LV w (.slice bo l.length c') l) (hn : l.length ≤ 2147483647) :
    Calls Try.prog 43 #[.slice ao l.length c, .slice bo l.length c'] w fun e w' => e = .returned (.bool true) ∧ Kept (fun _ => False) w w' := by
  go_enter Try.func43, Try.ntmps43
  go_wp2
  go_loopw [5] (fun n wr => ∃ k m : Nat, k ≤ l.length ∧ n = .int .i64 k ∧ wr = w.drewN m) (fun n _ => l.length - (intOf n).toNat)
  case atStart => exact ⟨0, 0, Nat.zero_le _, rfl, rfl⟩
  case round =>
    obtain ⟨k, m, hk, rfl, rfl⟩ := hrel
    by_cases hlt : k < l.length
    · have hk0 : (0 : Int) ≤ (k : Int) := Int.natCast_nonneg _
      have hk1 : (k : Int) < (l.length : Int) := by omega
      obtain ⟨x, hx⟩ : ∃ x, l[k]? = some x := ⟨_, List.getElem?_eq_getElem hlt⟩
      obtain ⟨g, rfl, hg⟩ : ∃ g, ao = some ⟨g, 0, none⟩ ∧ w.cell? ⟨g, k, none⟩ = some (.int .i64 x) := by
        rcases row_forms ha with ⟨_, h0⟩ | ⟨g, c', hv, _⟩
        · omega
        · cases hv
          exact ⟨g, rfl, row_cell ha k (by rw [List.getElem?_map, hx]; rfl)⟩
      obtain ⟨g', o, rfl, hg'⟩ : ∃ g' o, bo = some ⟨g', o, none⟩ ∧ w.cell? ⟨g', o + k, none⟩ = some (.int .i64 x) := by
        rcases hb with ⟨_, h0⟩ | ⟨g', o, c1, hv, _, _, h3⟩
        · rw [h0] at hlt; simp at hlt
        · cases hv
          exact ⟨g', o, rfl, h3 k x hx⟩
      clear hx ha hb
      go_wp2
      go_quiet (fail)
      go_wp2
      go_roundw
      case rel => exact ⟨k + 1, _, by omega, by go_num, rfl⟩
      case measure => simp [intOf]; omega
    · go_wp2
      go_ret
      exact ⟨rfl, (Kept.refl _ _).drewN _⟩

set_option maxRecDepth 100000 in
set_option maxHeartbeats 1000000 in
theorem queued_ok {w : World} {ao bo : Option Addr} {c c' : Nat} {l : List (Int × Int)} (ha : Row w 40 2 (.slice ao l.length c) l.length (l.flatMap encQ)) (hb : Row w 40 2 (.slice bo l.length c') l.length (l.flatMap encQ)) (hn : l.length ≤ 2147483647) :
    Calls Try.prog 19 #[.slice ao l.length c, .slice bo l.length c'] w fun e w' => e = .returned (.bool true) ∧ Kept (fun _ => False) w w' := by
  go_enter Try.func19, Try.ntmps19
  go_wp2
  go_loopw [5] (fun n wr => ∃ k m : Nat, k ≤ l.length ∧ n = .int .i64 k ∧ wr = w.drewN m) (fun n _ => l.length - (intOf n).toNat)
  case atStart => exact ⟨0, 0, Nat.zero_le _, rfl, rfl⟩
  case round =>
    obtain ⟨k, m, hk, rfl, rfl⟩ := hrel
    by_cases hlt : k < l.length
    · have hk0 : (0 : Int) ≤ (k : Int) := Int.natCast_nonneg _
      have hk1 : (k : Int) < (l.length : Int) := by omega
      obtain ⟨x, hx⟩ : ∃ x, l[k]? = some x := ⟨_, List.getElem?_eq_getElem hlt⟩
      have key : ∀ {ao : Option Addr} {c : Nat}, Row w 40 2 (.slice ao l.length c) l.length (l.flatMap encQ) → ∃ g, ao = some ⟨g, 0, none⟩ ∧ w.cell? ⟨g, k * 2, none⟩ = some (.int .i64 x.1) ∧ w.cell? ⟨g, k * 2 + 1, none⟩ = some (.int .i64 x.2) := by
        intro ao c h
        rcases row_forms h with ⟨_, h0⟩ | ⟨g, c', hv, _⟩
        · omega
        · cases hv
          exact ⟨g, rfl, rows_cell (enc := encQ) (fun _ => rfl) h (i := 0) hx rfl, rows_cell (enc := encQ) (fun _ => rfl) h (i := 1) hx rfl⟩
      obtain ⟨g, rfl, hg, hg2⟩ := key ha
      obtain ⟨g', rfl, hg', hg2'⟩ := key hb
      have hne : (binOp .neq 40 (.agg #[.int .i64 x.1, .int .i64 x.2]) (.agg #[.int .i64 x.1, .int .i64 x.2])).run Try.prog = fun w => .ok (.bool false) w := by
        funext w; simp [go_sem]
      clear key hx ha hb
      go_wp2
      go_quiet (fail)
      go_wp2
      go_roundw
      case rel => exact ⟨k + 1, _, by omega, by go_num, rfl⟩
      case measure => simp [intOf]; omega
    · go_wp2
      go_ret
      exact ⟨rfl, (Kept.refl _ _).drewN _⟩
end Go.Proofs.Ytdjdnfjfomeldaa.RL
