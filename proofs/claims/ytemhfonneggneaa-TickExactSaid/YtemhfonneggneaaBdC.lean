/- slices.Clone of counters' and of alarms' rows. -/
import Derived.Test.YtemhfonneggneaaBdL
import Derived.Test.YtemhfonneggneaaRows
import Derived.Deep.RegionHeld
namespace Go.Proofs.Ytemhfonneggneaa.TC
open Go.RowKit Go.Fr Go.Tb
attribute [local go_sem] Oper.semAt_some

abbrev encC : Int × Int × Int → List Value := encKKK .u32 .u32 .u32
theorem infoC : (Try.prog.info? 77).map (fun i => (i.zero, i.size, i.bytes)) = some (some (.agg #[.int .u32 0, .int .u32 0, .int .u32 0]), 3, 12) := by kernel_rfl
theorem infoA : (Try.prog.info? 83).map (fun i => (i.zero, i.size, i.bytes)) = some (some (.agg #[.int .i64 0, .int .i64 0, .int .i64 0, .int .u32 0, .int .u32 0, .int .u32 0, .int .u32 0]), 7, 48) := by kernel_rfl

set_option maxRecDepth 100000 in
set_option maxHeartbeats 1000000 in
theorem cloneC_ok {w : World} {ao : Option Addr} {c : Nat} {l : List (Int × Int × Int)} (hc : CameL w 3 encC ao l) (hn : l.length ≤ 64) : Calls Try.prog 26 #[.slice ao l.length c] w fun e w' =>
    ∃ ao' c', e = .returned (.slice ao' l.length c') ∧ CameL w' 3 encC ao' l ∧ Kept (fun _ => False) w w' ∧ (∀ g, (Value.slice ao' l.length c').ownBlock = some g → w.heap.size ≤ g ∧ g < w'.heap.size) := by
  obtain ⟨i0, hi, hz0, hz1, hz2⟩ := info_parts infoC
  cases ao with
  | none =>
    obtain rfl := camel_none hc
    have he : ∀ w : World, (binOp .eql 32 (.slice none 0 c) (.slice none 0 0)).run Try.prog w = .ok (.bool true) w := fun _ => rfl
    go_enter Try.func26, Try.ntmps26
    go_wp2
    go_ret
    exact ⟨none, 0, rfl, fun h => absurd rfl h, Kept.refl _ _, by simp [Value.ownBlock]⟩
  | some ad =>
    have hsh := camel_shows (enc := encC) (fun _ => rfl) (by decide) hc
    have hs2 : Shows (w.alloc (.cells #[] 77)) 3 (some ad) l.length (l.flatMap encC) := by
      refine ⟨hsh.1, hsh.2.1, fun ad' ha j u hu => ?_⟩
      have h := hsh.2.2 ad' ha j u hu
      exact (World.cell?_alloc_some w _ _ (by rw [h]; rfl)).trans h
    have hone : ∀ u ∈ l.flatMap encC, u.oneCell' = true := by
      intro u hu
      obtain ⟨x, _, hx⟩ := List.mem_flatMap.1 hu
      simp only [encC, encKKK, List.mem_cons, List.not_mem_nil, or_false] at hx
      rcases hx with rfl | rfl | rfl <;> rfl
    have he : ∀ w : World, (binOp .eql 32 (.slice (some ad) l.length c) (.slice none 0 0)).run Try.prog w = .ok (.bool false) w := fun _ => rfl
    have HS := Lib.hid hs2
    have HO := Lib.hid hone
    clear hs2 hone hsh hc
    go_enter Try.func26, Try.ntmps26
    go_wp2_with (at_builtin; refine wpList_append_any rfl (.tmp 5) (.tmp 6) 32 rfl 77 i0 (.agg #[.int .u32 0, .int .u32 0, .int .u32 0]) 3 12 Try.underlying32 hi hz0 hz1 hz2 rfl (by decide) (some ⟨w.heap.size, 0, none⟩) 0 0 [] rfl (row_new w 77 3 0 [] rfl (Nat.zero_le _)) (some ad) l.length c (l.flatMap encC) rfl HS.out HO.out (by unfold maxLen; omega) (by omega) ?_; intro ao' c' w1 r1 r2 r3)
    simp only [Nat.zero_add, List.nil_append] at r1 r3
    have kk : Kept (fun _ => False) w w1 := ((Kept.refl (fun _ => False) w).alloc _).grown r2 (fun i hi => Or.inr (by simp [Value.ownBlock] at hi; omega))
    have ho : ∀ g, (Value.slice ao' l.length c').ownBlock = some g → w.heap.size ≤ g ∧ g < w1.heap.size := fun g hg => ⟨(r3 g hg).elim (fun e => by simp [Value.ownBlock] at e; omega) (fun h => by rw [World.size_alloc] at h; omega), row_lt r1 hg⟩
    have R1 := Lib.hid (camel_of_row (enc := encC) (fun _ => rfl) r1)
    clear r1 r2 r3
    try simp only [Nat.zero_add]
    go_wp2
    go_ret
    exact ⟨ao', c', rfl, R1.out, kk, ho⟩
set_option maxRecDepth 100000 in
set_option maxHeartbeats 1000000 in
theorem cloneA_ok {w : World} {ao : Option Addr} {c : Nat} {l : List AlarmR} (hc : CameL w 7 encA ao l) (hn : l.length ≤ 64) : Calls Try.prog 27 #[.slice ao l.length c] w fun e w' =>
    ∃ ao' c', e = .returned (.slice ao' l.length c') ∧ CameL w' 7 encA ao' l ∧ Kept (fun _ => False) w w' ∧ (∀ g, (Value.slice ao' l.length c').ownBlock = some g → w.heap.size ≤ g ∧ g < w'.heap.size) := by
  obtain ⟨i0, hi, hz0, hz1, hz2⟩ := info_parts infoA
  cases ao with
  | none =>
    obtain rfl := camel_none hc
    have he : ∀ w : World, (binOp .eql 33 (.slice none 0 c) (.slice none 0 0)).run Try.prog w = .ok (.bool true) w := fun _ => rfl
    go_enter Try.func27, Try.ntmps27
    go_wp2
    go_ret
    exact ⟨none, 0, rfl, fun h => absurd rfl h, Kept.refl _ _, by simp [Value.ownBlock]⟩
  | some ad =>
    have hsh := camel_shows (enc := encA) (fun _ => rfl) (by decide) hc
    have hs2 : Shows (w.alloc (.cells #[] 83)) 7 (some ad) l.length (l.flatMap encA) := by
      refine ⟨hsh.1, hsh.2.1, fun ad' ha j u hu => ?_⟩
      have h := hsh.2.2 ad' ha j u hu
      exact (World.cell?_alloc_some w _ _ (by rw [h]; rfl)).trans h
    have hone : ∀ u ∈ l.flatMap encA, u.oneCell' = true := by
      intro u hu
      obtain ⟨x, _, hx⟩ := List.mem_flatMap.1 hu
      simp only [encA, List.mem_cons, List.not_mem_nil, or_false] at hx
      rcases hx with rfl | rfl | rfl | rfl | rfl | rfl | rfl <;> rfl
    have he : ∀ w : World, (binOp .eql 33 (.slice (some ad) l.length c) (.slice none 0 0)).run Try.prog w = .ok (.bool false) w := fun _ => rfl
    have HS := Lib.hid hs2
    have HO := Lib.hid hone
    clear hs2 hone hsh hc
    go_enter Try.func27, Try.ntmps27
    go_wp2_with (at_builtin; refine wpList_append_any rfl (.tmp 5) (.tmp 6) 33 rfl 83 i0 (.agg #[.int .i64 0, .int .i64 0, .int .i64 0, .int .u32 0, .int .u32 0, .int .u32 0, .int .u32 0]) 7 48 Try.underlying33 hi hz0 hz1 hz2 rfl (by decide) (some ⟨w.heap.size, 0, none⟩) 0 0 [] rfl (row_new w 83 7 0 [] rfl (Nat.zero_le _)) (some ad) l.length c (l.flatMap encA) rfl HS.out HO.out (by unfold maxLen; omega) (by omega) ?_; intro ao' c' w1 r1 r2 r3)
    simp only [Nat.zero_add, List.nil_append] at r1 r3
    have kk : Kept (fun _ => False) w w1 := ((Kept.refl (fun _ => False) w).alloc _).grown r2 (fun i hi => Or.inr (by simp [Value.ownBlock] at hi; omega))
    have ho : ∀ g, (Value.slice ao' l.length c').ownBlock = some g → w.heap.size ≤ g ∧ g < w1.heap.size := fun g hg => ⟨(r3 g hg).elim (fun e => by simp [Value.ownBlock] at e; omega) (fun h => by rw [World.size_alloc] at h; omega), row_lt r1 hg⟩
    have R1 := Lib.hid (camel_of_row (enc := encA) (fun _ => rfl) r1)
    clear r1 r2 r3
    try simp only [Nat.zero_add]
    go_wp2
    go_ret
    exact ⟨ao', c', rfl, R1.out, kk, ho⟩
end Go.Proofs.Ytemhfonneggneaa.TC
