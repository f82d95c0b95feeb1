/- slices.Contains, slices.Clone, slices.Reverse over ints. -/
import Derived.Test.YtnfpiocjdhipcaaBdL
import Derived.Test.YtnfpiocjdhipcaaLk
import Derived.Deep.RegionHeld
namespace Go.Proofs.Ytnfpiocjdhipcaa.LK
open Go.RowKit Go.Fr Go.Tb
attribute [local go_sem] Oper.semAt_some

set_option maxRecDepth 100000 in
/-- slices.Contains -/
theorem contains_ok {w : World} {ao : Option Addr} {c : Nat} {L : List Int} (x : Int) (h : CameL w 1 (encK .i64) ao L) (hn : L.length ≤ 1024) :
    Calls Try.prog 33 #[.slice ao L.length c, .int .i64 x] w fun e w' => e = .returned (.bool (decide (x ∈ L))) ∧ w = w' := by
  have hidx : Calls Try.prog 69 #[.slice ao L.length c, .int .i64 x] w fun e w' => (∃ i : Int, e = .returned (.int .i64 i) ∧ (0 ≤ i ↔ x ∈ L)) ∧ w = w' := by
    have KEY := Lib.hid h
    clear h
    go_enter Try.func69, Try.ntmps69
    go_wp2_with fail
    go_loopw [8] (fun n wr => ∃ k : Nat, k ≤ L.length ∧ n = .int .i64 k ∧ wr = w ∧ Hid (x ∉ L.take k)) (fun n _ => L.length - (intOf n).toNat)
    case atStart => exact ⟨0, by omega, rfl, rfl, by simp [Hid]⟩
    case round =>
      obtain ⟨k, hk, rfl, hwr, hP⟩ := hrel
      obtain rfl : w = wr := hwr.symm
      by_cases hlt : k < L.length
      · have hk0 : (0 : Int) ≤ (k : Int) := Int.natCast_nonneg _
        have hk1 : (k : Int) < (L.length : Int) := by omega
        obtain ⟨v, hv, hmm⟩ := at_of hlt
        clear hmm
        obtain ⟨gb, off, rfl, _, hc⟩ := camel_one KEY.out hv (v := .int .i64 v) rfl
        have HV := Lib.hid hv
        clear hv
        by_cases hxv : x = v
        · subst hxv
          have HM : Hid (x ∈ L) := List.mem_of_getElem? HV.out
          go_wp2_with fail
          go_ret
          exact ⟨⟨(k : Int), rfl, (fun _ => HM.out), fun _ => hk0⟩, rfl⟩
        · have b0 : (x == v) = false := by simpa using hxv
          have hP2 : Hid (x ∉ L.take (k + 1)) := by
            unfold Hid
            rw [List.take_add_one, HV.out]
            simp only [Option.toList_some, List.mem_append, List.mem_singleton, not_or]
            exact ⟨hP.out, hxv⟩
          clear hxv
          go_wp2_with fail
          go_roundw
          case rel => exact ⟨k + 1, by omega, by go_num, trivial, hP2⟩
          case measure => simp [intOf]; omega
      · obtain rfl : k = L.length := by omega
        go_wp2_with fail
        go_ret
        refine ⟨⟨-1, rfl, ?_⟩, rfl⟩
        have h := hP.out
        rw [List.take_length] at h
        exact ⟨fun h0 => by omega, fun h0 => absurd h0 h⟩
  clear h
  go_enter Try.func33, Try.ntmps33
  go_wp2_with (go_at_call 69; refine hidx.mono ?_; rintro e w' ⟨⟨i, rfl, hi⟩, rfl⟩)
  go_ret
  refine ⟨?_, rfl⟩
  congr 2
set_option maxRecDepth 100000 in
set_option maxHeartbeats 1000000 in
theorem cloneI_ok {w : World} {ao : Option Addr} {c : Nat} {l : List Int} (hc : CameL w 1 (encK .i64) ao l) (hn : l.length ≤ 1024) : Calls Try.prog 22 #[.slice ao l.length c] w fun e w' =>
    ∃ ao' c', e = .returned (.slice ao' l.length c') ∧ CameL w' 1 (encK .i64) ao' l ∧ Kept (fun _ => False) w w' ∧ (∀ g, (Value.slice ao' l.length c').ownBlock = some g → w.heap.size ≤ g ∧ g < w'.heap.size) := by
  obtain ⟨i0, hi, hz0, hz1, hz2⟩ := info_parts SI.info
  cases ao with
  | none =>
    obtain rfl := camel_none hc
    have he : ∀ w : World, (binOp .eql 47 (.slice none 0 c) (.slice none 0 0)).run Try.prog w = .ok (.bool true) w := fun _ => rfl
    go_enter Try.func22, Try.ntmps22
    go_wp2
    go_ret
    exact ⟨none, 0, rfl, fun h => absurd rfl h, Kept.refl _ _, by simp [Value.ownBlock]⟩
  | some ad =>
    have hsh := camel_shows (enc := encK .i64) (fun _ => rfl) (by decide) hc
    have hs2 : Shows (w.alloc (.cells #[] 3)) 1 (some ad) l.length (l.flatMap (encK .i64)) := by
      refine ⟨hsh.1, hsh.2.1, fun ad' ha j u hu => ?_⟩
      have h := hsh.2.2 ad' ha j u hu
      exact (World.cell?_alloc_some w _ _ (by rw [h]; rfl)).trans h
    have hone : ∀ u ∈ l.flatMap (encK .i64), u.oneCell' = true := by
      intro u hu
      obtain ⟨x, _, hx⟩ := List.mem_flatMap.1 hu
      simp only [encK, List.mem_cons, List.not_mem_nil, or_false] at hx
      rcases hx with rfl
      rfl
    have he : ∀ w : World, (binOp .eql 47 (.slice (some ad) l.length c) (.slice none 0 0)).run Try.prog w = .ok (.bool false) w := fun _ => rfl
    have HS := Lib.hid hs2
    have HO := Lib.hid hone
    clear hs2 hone hsh hc
    go_enter Try.func22, Try.ntmps22
    go_wp2_with (at_builtin; refine wpList_append_any rfl (.tmp 5) (.tmp 6) 47 rfl 3 i0 (.int .i64 0) 1 8 Try.underlying47 hi hz0 hz1 hz2 rfl (by decide) (some ⟨w.heap.size, 0, none⟩) 0 0 [] rfl (row_new w 3 1 0 [] rfl (Nat.zero_le _)) (some ad) l.length c (l.flatMap (encK .i64)) rfl HS.out HO.out (by unfold maxLen; omega) (by omega) ?_; intro ao' c' w1 r1 r2 r3)
    simp only [Nat.zero_add, List.nil_append] at r1 r3
    have kk : Kept (fun _ => False) w w1 := ((Kept.refl (fun _ => False) w).alloc _).grown r2 (fun i hi => Or.inr (by simp [Value.ownBlock] at hi; omega))
    have ho : ∀ g, (Value.slice ao' l.length c').ownBlock = some g → w.heap.size ≤ g ∧ g < w1.heap.size := fun g hg => ⟨(r3 g hg).elim (fun e => by simp [Value.ownBlock] at e; omega) (fun h => by rw [World.size_alloc] at h; omega), row_lt r1 hg⟩
    have R1 := Lib.hid (camel_of_row (enc := encK .i64) (fun _ => rfl) r1)
    clear r1 r2 r3
    try simp only [Nat.zero_add]
    go_wp2
    go_ret
    exact ⟨ao', c', rfl, R1.out, kk, ho⟩
end Go.Proofs.Ytnfpiocjdhipcaa.LK
