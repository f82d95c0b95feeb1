/- slices.Clone of a row of expiries. -/
import Derived.Test.YtialldmepphloaaClkE
import Derived.Deep.RegionHeld
namespace Go.Proofs.Ytialldmepphloaa.CK
open Go.RowKit Go.Fr

set_option maxRecDepth 100000 in
set_option maxHeartbeats 1000000 in
theorem clone_nil (w : World) : Calls Try.prog 45 #[.slice none 0 0] w fun e w' => e = .returned (.slice none 0 0) ∧ w = w' := by
  have he : ∀ w : World, (binOp .eql 50 (.slice none 0 0) (.slice none 0 0)).run Try.prog w = .ok (.bool true) w := fun _ => rfl
  go_enter Try.func45, Try.ntmps45
  go_wp2
  go_ret
  exact ⟨rfl, rfl⟩

set_option maxRecDepth 100000 in
set_option maxHeartbeats 1000000 in
theorem clone_ok {w : World} {ad : Addr} {n c : Nat} {O : List (Nat × Nat)} (hs : Shows w 2 (some ad) n (O.flatMap encX)) (hn : n ≤ 140000) : Calls Try.prog 45 #[.slice (some ad) n c] w fun e w' =>
    ∃ ao' c', e = .returned (.slice ao' n c') ∧ Row w' 53 2 (.slice ao' n c') n (O.flatMap encX) ∧ Kept (fun _ => False) w w' ∧ (∀ g, (Value.slice ao' n c').ownBlock = some g → w.heap.size ≤ g) := by
  obtain ⟨iX, hiX, hx0, hx1, hx2⟩ := info_parts info_x
  have he : ∀ w : World, (binOp .eql 50 (.slice (some ad) n c) (.slice none 0 0)).run Try.prog w = .ok (.bool false) w := fun _ => rfl
  go_enter Try.func45, Try.ntmps45
  go_wp2_with ((at_builtin; refine wpList_append_any rfl (.tmp 5) (.tmp 6) 50 rfl 53 iX (.agg #[.int .u64 0, .int .i64 0]) 2 16 Try.underlying50 hiX hx0 hx1 hx2 rfl (by decide) (some ⟨w.heap.size, 0, none⟩) 0 0 [] rfl (row_new w 53 2 0 [] (by simp) (by decide)) (some ad) n c (O.flatMap encX) rfl ?hnew (encX_ones O) ?b1 ?b2 ?_))
  case hnew =>
    refine ⟨hs.1, hs.2.1, fun ad' ha j u hu => ?_⟩
    have h := hs.2.2 ad' ha j u hu
    exact (World.cell?_alloc_some w _ _ (by rw [h]; rfl)).trans h
  case b1 => unfold maxLen; omega
  case b2 => omega
  intro ao' c' w1 r1 r2 r3
  try simp only [Nat.zero_add] at r1 r3
  try rw [List.nil_append] at r1
  have kk : Kept (fun _ => False) w w1 := ((Kept.refl (fun _ => False) w).alloc _).grown r2 (fun i hi => Or.inr (by simp [Value.ownBlock] at hi; omega))
  have ho : ∀ g, (Value.slice ao' n c').ownBlock = some g → w.heap.size ≤ g := fun g hg => (r3 g hg).elim (fun e => by simp [Value.ownBlock] at e; omega) (fun h => by omega)
  clear r2 r3
  try simp only [Nat.zero_add]
  go_wp2
  go_ret
  exact ⟨ao', c', rfl, r1, kk, ho⟩
end Go.Proofs.Ytialldmepphloaa.CK
