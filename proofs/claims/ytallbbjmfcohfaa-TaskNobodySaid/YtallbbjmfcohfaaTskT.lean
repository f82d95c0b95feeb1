/- Package task: Those, Reset. -/
import Derived.Test.YtallbbjmfcohfaaTskO
namespace Go.Proofs.Ytallbbjmfcohfaa.TK
open Go.RowKit Go.Fr

theorem info_i : (Try.prog.info? 3).map (fun i => (i.zero, i.size, i.bytes)) = some (some (.int .i64 0), 1, 8) := by kernel_rfl

/-- the answer of Those under way -/
structure Th (w wr : World) (l : List Tk) (s : Int) (k : Nat) (r : Value) : Prop where
  row : Row wr 3 1 r (those l s k).length ((those l s k).map (Value.int .i64))
  own : ∀ g, r.ownBlock = some g → w.heap.size ≤ g
  kept : Kept (fun _ => False) w wr

section
variable {w : World} {b : Nat} {v : Value} {run : Int} {l : List Tk}

set_option maxRecDepth 100000 in
set_option maxHeartbeats 4000000 in
theorem those_ok (s : Int) (hs : IsTk w b v run l) : Calls Try.prog 22 #[.pointer (some ⟨b, 0, none⟩), .int .i64 s] w fun e w' =>
    ∃ ao c, e = .returned (.slice ao (those l s l.length).length c) ∧ Th w w' l s l.length (.slice ao (those l s l.length).length c) := by
  obtain ⟨i0, hi, hz0, hz1, hz2⟩ := info_parts info_i
  have hl := hs.n256
  have c1 := hs.blk.cell 1 rfl
  obtain ⟨ao, c, rfl, hc⟩ := row_any hs.row
  have T0 : Hid (Th w w l s 0 (.slice none 0 0)) := ⟨World.ownsRow_nil _ _ _ _, by simp [Value.ownBlock], Kept.refl _ _⟩
  have hal := alive_ok hs
  have HS := Lib.hid hs
  clear hs
  go_enter Try.func22, Try.ntmps22
  go_wp2_with (go_at_call 31; refine hal.mono ?_; rintro e w' ⟨rfl, rfl⟩)
  clear hal c1
  go_loopw [5, 15] (fun r i wr => ∃ (k : Nat) (ao' : Option Addr) (c' : Nat), k ≤ l.length ∧ i = .int .i64 k ∧ r = .slice ao' (those l s k).length c' ∧ Hid (Th w wr l s k (.slice ao' (those l s k).length c'))) (fun _ i _ => l.length - (intOf i).toNat)
  case atStart => exact ⟨0, none, 0, Nat.zero_le _, rfl, rfl, T0⟩
  case round =>
    obtain ⟨k, ao', c', hk, rfl, rfl, hT⟩ := hrel
    clear T0
    by_cases hkl : k < l.length
    · obtain ⟨⟨lm, ex, st, ac⟩, hx⟩ : ∃ a, l[k]? = some a := ⟨_, List.getElem?_eq_getElem hkl⟩
      have hk0 : (0 : Int) ≤ (k : Int) := Int.natCast_nonneg _
      have hk1 : (k : Int) < (l.length : Int) := by omega
      have hsr := HS.out.kept hT.out.kept (fun _ _ h => h)
      obtain ⟨g, c2, hv', hg, e0, e1, e2, e3, f2, f3⟩ := hsr.cells hx
      cases hv'
      have hle := those_len l s k
      by_cases hst : (st == s) = true
      · have hh := those_hit hx hst
        go_wp2_with ((at_builtin; refine wpList_append_any rfl (.tmp 24) (.tmp 26) 46 rfl 3 i0 (.int .i64 0) 1 8 Try.underlying46 hi hz0 hz1 hz2 rfl (by decide) _ _ _ ((those l s k).map (Value.int .i64)) rfl ?hrow _ 1 1 [.int .i64 k] rfl ?hnew (by simp [Value.oneCell']) ?b1 ?b2 ?_))
        case hrow => exact row_alloc (row_alloc hT.out.row _) _
        case hnew => exact shows_new _ [_] _ (by simp) rfl
        case b1 => unfold maxLen; omega
        case b2 => omega
        intro ao3 c3 wc r1 r2 r3
        have kc : Kept (fun _ => False) w wc := by
          have k1 : Kept (fun i => w.heap.size ≤ i) w wc := ((((hT.out.kept.mono (fun _ _ h => False.elim h)).alloc _).alloc _)).grown r2 (fun i e => Or.inl (hT.out.own i e))
          exact k1.mono (fun i hi h => by omega)
        have ho3 : ∀ i, (Value.slice ao3 ((those l s k).length + 1) c3).ownBlock = some i → w.heap.size ≤ i := fun i e => (r3 i e).elim (fun h => hT.out.own i h) (fun h => by have := hT.out.kept.size; omega)
        have hN : Hid (Th w wc l s (k + 1) (.slice ao3 (those l s (k + 1)).length c3)) := by
          refine ⟨?_, ?_, kc⟩
          · rw [hh, List.length_append, List.map_append]; exact r1
          · rw [hh, List.length_append]; exact ho3
        have hlen : (those l s (k + 1)).length = (those l s k).length + 1 := by rw [hh, List.length_append]; rfl
        clear r1 r2 r3 kc ho3 hT hh
        go_wp2
        go_roundw
        case rel => exact ⟨k + 1, ao3, c3, by omega, by go_num, by rw [hlen], hN⟩
        case measure => simp [intOf]; omega
      · have hst' : (st == s) = false := by simpa using hst
        have hN : ∀ o : Obj, Hid (Th w (wr.alloc o) l s (k + 1) (.slice ao' (those l s (k + 1)).length c')) := fun o => by
          have hm := those_miss hx hst'
          exact ⟨by rw [hm]; exact row_alloc hT.out.row _, by rw [hm]; exact hT.out.own, hT.out.kept.alloc _⟩
        clear hst
        go_wp2
        go_roundw
        case rel => exact ⟨k + 1, ao', c', by omega, by go_num, by rw [those_miss hx hst'], hN _⟩
        case measure => simp [intOf]; omega
    · obtain rfl : k = l.length := by omega
      go_wp2
      go_ret
      exact ⟨ao', c', rfl, hT.out⟩
end
end Go.Proofs.Ytallbbjmfcohfaa.TK
