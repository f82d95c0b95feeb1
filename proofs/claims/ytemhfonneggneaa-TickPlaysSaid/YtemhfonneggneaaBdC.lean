/- slices.Clone of counters' and of alarms' rows. -/
import Derived.Test.YtemhfonneggneaaTbC
import Derived.Test.YtemhfonneggneaaMem
import Derived.Test.YtemhfonneggneaaRows
import Derived.Deep.RegionHeld
/- Lists that lie in memory, as what an append takes and what it leaves. No program is in sight here. -/
namespace Go.Tb
open Go.RowKit Go.Fr

theorem camel_shows {α : Type} {w : World} {sz : Nat} {enc : α → List Value} (he : ∀ x, (enc x).length = sz) (h0 : 0 < sz) {ao : Option Addr} {l : List α} (hc : CameL w sz enc ao l) : Shows w sz ao l.length (l.flatMap enc) := by
  refine ⟨flat_length he l, ?_, ?_⟩
  · intro h
    cases l with
    | nil => rfl
    | cons a l => obtain ⟨g, off, e, _⟩ := hc (by simp); rw [h] at e; cases e
  · intro ad ha j u hu
    have hj := (List.getElem?_eq_some_iff.1 hu).1
    rw [flat_length he l] at hj
    have hne : l ≠ [] := by rintro rfl; simp at hj
    obtain ⟨g, off, e, hg, hcc⟩ := hc hne
    rw [ha] at e
    cases e
    have hjl : j / sz < l.length := by rw [Nat.div_lt_iff_lt_mul h0]; exact hj
    have hjm : j % sz < sz := Nat.mod_lt _ h0
    have hsum : j / sz * sz + j % sz = j := by rw [Nat.mul_comm]; exact Nat.div_add_mod j sz
    obtain ⟨x, hx⟩ : ∃ x, l[j / sz]? = some x := ⟨_, List.getElem?_eq_getElem hjl⟩
    have h2 := flat_get he l (j / sz) (j % sz) x hx hjm
    rw [hsum, hu] at h2
    have := hcc (j / sz) x hx (j % sz) u h2.symm
    rw [Addr.add_lit]
    rwa [show off + j / sz * sz + j % sz = off + j by omega] at this
theorem camel_of_row {α : Type} {w : World} {e : TypeId} {sz : Nat} {enc : α → List Value} (he : ∀ x, (enc x).length = sz) {ao : Option Addr} {c : Nat} {l : List α} (h : Row w e sz (.slice ao l.length c) l.length (l.flatMap enc)) : CameL w sz enc ao l := by
  intro hne
  rcases row_forms h with ⟨_, h0⟩ | ⟨g, c', hv, _, _, hg⟩
  · exact absurd (List.length_eq_zero_iff.1 h0) hne
  · cases hv
    exact ⟨g, 0, rfl, hg, fun i x hx j v hv => by rw [Nat.zero_add]; exact rows_cell he h hx hv⟩
theorem camel_none {α : Type} {w : World} {sz : Nat} {enc : α → List Value} {l : List α} (h : CameL w sz enc none l) : l = [] := by
  cases l with
  | nil => rfl
  | cons a l => obtain ⟨_, _, e, _⟩ := h (by simp); cases e
theorem encA_len (x : AlarmR) : (encA x).length = 7 := rfl
theorem encT_len (x : TaskR) : (encT x).length = 8 := rfl
theorem encI_len (x : IsrR) : (encI x).length = 3 := rfl
theorem encM_len (x : MsgR) : (encM x).length = 8 := rfl
end Go.Tb
namespace Go.Proofs.Ytemhfonneggneaa.TC
open Go.RowKit Go.Fr Go.Tb
attribute [local go_sem] Oper.semAt_some

abbrev encC : Int × Int × Int → List Value := encKKK .u32 .u32 .u32
theorem infoC : (Try.prog.info? 77).map (fun i => (i.zero, i.size, i.bytes)) = some (some (.agg #[.int .u32 0, .int .u32 0, .int .u32 0]), 3, 12) := by kernel_rfl
theorem infoA : (Try.prog.info? 83).map (fun i => (i.zero, i.size, i.bytes)) = some (some (.agg #[.int .i64 0, .int .i64 0, .int .i64 0, .int .u32 0, .int .u32 0, .int .u32 0, .int .u32 0]), 7, 48) := by kernel_rfl

set_option maxRecDepth 100000 in
set_option maxHeartbeats 1000000 in
theorem cloneC_ok {w : World} {ao : Option Addr} {c : Nat} {l : List (Int × Int × Int)} (hc : CameL w 3 encC ao l) (hn : l.length ≤ 64) : Calls Try.prog 26 #[.slice ao l.length c] w fun e w' =>
    ∃ ao' c', e = .returned (.slice ao' l.length c') ∧ CameL w' 3 encC ao' l ∧ Kept (fun _ => False) w w' ∧ (∀ g, (Value.slice ao' l.length c').ownBlock = some g → w.heap.size ≤ g ∧ g < w'.heap.size) := by
  obtain ⟨i0, hi, hz0, hz1, hz2⟩ := info_parts infoC
  cases ao with
  | none =>
    obtain rfl := camel_none hc
    have he : ∀ w : World, (binOp .eql 32 (.slice none 0 c) (.slice none 0 0)).run Try.prog w = .ok (.bool true) w := fun _ => rfl
    go_enter Try.func26, Try.ntmps26
    go_wp2
    go_ret
    exact ⟨none, 0, rfl, fun h => absurd rfl h, Kept.refl _ _, by simp [Value.ownBlock]⟩
  | some ad =>
    have hsh := camel_shows (enc := encC) (fun _ => rfl) (by decide) hc
    have hs2 : Shows (w.alloc (.cells #[] 77)) 3 (some ad) l.length (l.flatMap encC) := by
      refine ⟨hsh.1, hsh.2.1, fun ad' ha j u hu => ?_⟩
      have h := hsh.2.2 ad' ha j u hu
      exact (World.cell?_alloc_some w _ _ (by rw [h]; rfl)).trans h
    have hone : ∀ u ∈ l.flatMap encC, u.oneCell' = true := by
      intro u hu
      obtain ⟨x, _, hx⟩ := List.mem_flatMap.1 hu
      simp only [encC, encKKK, List.mem_cons, List.not_mem_nil, or_false] at hx
      rcases hx with rfl | rfl | rfl <;> rfl
    have he : ∀ w : World, (binOp .eql 32 (.slice (some ad) l.length c) (.slice none 0 0)).run Try.prog w = .ok (.bool false) w := fun _ => rfl
    have HS := Lib.hid hs2
    have HO := Lib.hid hone
    clear hs2 hone hsh hc
    go_enter Try.func26, Try.ntmps26
    go_wp2_with (at_builtin; refine wpList_append_any rfl (.tmp 5) (.tmp 6) 32 rfl 77 i0 (.agg #[.int .u32 0, .int .u32 0, .int .u32 0]) 3 12 Try.underlying32 hi hz0 hz1 hz2 rfl (by decide) (some ⟨w.heap.size, 0, none⟩) 0 0 [] rfl (row_new w 77 3 0 [] rfl (Nat.zero_le _)) (some ad) l.length c (l.flatMap encC) rfl HS.out HO.out (by unfold maxLen; omega) (by omega) ?_; intro ao' c' w1 r1 r2 r3)
    simp only [Nat.zero_add, List.nil_append] at r1 r3
    have kk : Kept (fun _ => False) w w1 := ((Kept.refl (fun _ => False) w).alloc _).grown r2 (fun i hi => Or.inr (by simp [Value.ownBlock] at hi; omega))
    have ho : ∀ g, (Value.slice ao' l.length c').ownBlock = some g → w.heap.size ≤ g ∧ g < w1.heap.size := fun g hg => ⟨(r3 g hg).elim (fun e => by simp [Value.ownBlock] at e; omega) (fun h => by rw [World.size_alloc] at h; omega), row_lt r1 hg⟩
    have R1 := Lib.hid (camel_of_row (enc := encC) (fun _ => rfl) r1)
    clear r1 r2 r3
    try simp only [Nat.zero_add]
    go_wp2
    go_ret
    exact ⟨ao', c', rfl, R1.out, kk, ho⟩
set_option maxRecDepth 100000 in
set_option maxHeartbeats 1000000 in
theorem cloneA_ok {w : World} {ao : Option Addr} {c : Nat} {l : List AlarmR} (hc : CameL w 7 encA ao l) (hn : l.length ≤ 64) : Calls Try.prog 27 #[.slice ao l.length c] w fun e w' =>
    ∃ ao' c', e = .returned (.slice ao' l.length c') ∧ CameL w' 7 encA ao' l ∧ Kept (fun _ => False) w w' ∧ (∀ g, (Value.slice ao' l.length c').ownBlock = some g → w.heap.size ≤ g ∧ g < w'.heap.size) := by
  obtain ⟨i0, hi, hz0, hz1, hz2⟩ := info_parts infoA
  cases ao with
  | none =>
    obtain rfl := camel_none hc
    have he : ∀ w : World, (binOp .eql 33 (.slice none 0 c) (.slice none 0 0)).run Try.prog w = .ok (.bool true) w := fun _ => rfl
    go_enter Try.func27, Try.ntmps27
    go_wp2
    go_ret
    exact ⟨none, 0, rfl, fun h => absurd rfl h, Kept.refl _ _, by simp [Value.ownBlock]⟩
  | some ad =>
    have hsh := camel_shows (enc := encA) (fun _ => rfl) (by decide) hc
    have hs2 : Shows (w.alloc (.cells #[] 83)) 7 (some ad) l.length (l.flatMap encA) := by
      refine ⟨hsh.1, hsh.2.1, fun ad' ha j u hu => ?_⟩
      have h := hsh.2.2 ad' ha j u hu
      exact (World.cell?_alloc_some w _ _ (by rw [h]; rfl)).trans h
    have hone : ∀ u ∈ l.flatMap encA, u.oneCell' = true := by
      intro u hu
      obtain ⟨x, _, hx⟩ := List.mem_flatMap.1 hu
      simp only [encA, List.mem_cons, List.not_mem_nil, or_false] at hx
      rcases hx with rfl | rfl | rfl | rfl | rfl | rfl | rfl <;> rfl
    have he : ∀ w : World, (binOp .eql 33 (.slice (some ad) l.length c) (.slice none 0 0)).run Try.prog w = .ok (.bool false) w := fun _ => rfl
    have HS := Lib.hid hs2
    have HO := Lib.hid hone
    clear hs2 hone hsh hc
    go_enter Try.func27, Try.ntmps27
    go_wp2_with (at_builtin; refine wpList_append_any rfl (.tmp 5) (.tmp 6) 33 rfl 83 i0 (.agg #[.int .i64 0, .int .i64 0, .int .i64 0, .int .u32 0, .int .u32 0, .int .u32 0, .int .u32 0]) 7 48 Try.underlying33 hi hz0 hz1 hz2 rfl (by decide) (some ⟨w.heap.size, 0, none⟩) 0 0 [] rfl (row_new w 83 7 0 [] rfl (Nat.zero_le _)) (some ad) l.length c (l.flatMap encA) rfl HS.out HO.out (by unfold maxLen; omega) (by omega) ?_; intro ao' c' w1 r1 r2 r3)
    simp only [Nat.zero_add, List.nil_append] at r1 r3
    have kk : Kept (fun _ => False) w w1 := ((Kept.refl (fun _ => False) w).alloc _).grown r2 (fun i hi => Or.inr (by simp [Value.ownBlock] at hi; omega))
    have ho : ∀ g, (Value.slice ao' l.length c').ownBlock = some g → w.heap.size ≤ g ∧ g < w1.heap.size := fun g hg => ⟨(r3 g hg).elim (fun e => by simp [Value.ownBlock] at e; omega) (fun h => by rw [World.size_alloc] at h; omega), row_lt r1 hg⟩
    have R1 := Lib.hid (camel_of_row (enc := encA) (fun _ => rfl) r1)
    clear r1 r2 r3
    try simp only [Nat.zero_add]
    go_wp2
    go_ret
    exact ⟨ao', c', rfl, R1.out, kk, ho⟩
end Go.Proofs.Ytemhfonneggneaa.TC
