/- lock.Lock: made, known. -/
import Derived.Test.YtnfpiocjdhipcaaLk
namespace Go.Proofs.Ytnfpiocjdhipcaa.LK
open Go.RowKit Go.Fr Go.Tb
attribute [local go_sem] Oper.semAt_some

theorem map_ne (r : Nat) (w : World) : (binOp .neq 68 (.map (some r)) (.map none)).run Try.prog w = .ok (.bool true) w := by kernel_rfl
theorem map_nil (w : World) : (binOp .neq 68 (.map none) (.map none)).run Try.prog w = .ok (.bool false) w := by kernel_rfl
section
variable {w w' : World} {b : Nat} {M : Lm} {T : Tb} {L : List Take} {In : List Bool} {G : Gt} {S : Nat → Prop} {o : Ow}
set_option maxRecDepth 100000 in
theorem made_ok (h : IsLk w b M T L In G) : Calls Try.prog 31 #[.pointer (some ⟨b, 0, none⟩)] w fun e w' => e = .returned (.bool true) ∧ w = w' := by
  have c0 := h.cells.1
  have hne := map_ne
  go_enter Try.func31, Try.ntmps31
  go_wp2
  go_ret
  exact ⟨rfl, rfl⟩
theorem made_nil (w : World) : Calls Try.prog 31 #[.pointer none] w fun e w' => e = .returned (.bool false) ∧ w = w' := by
  go_enter Try.func31, Try.ntmps31
  go_wp2
  go_ret
  exact ⟨rfl, rfl⟩

set_option maxRecDepth 100000 in
set_option maxHeartbeats 4000000 in
theorem known_ok (h : IsLk w b M T L In G) (ho : okO o) (r : Int) : Calls Try.prog 26 #[.pointer (some ⟨b, 0, none⟩), ekO o, .int .i64 r] w fun e w' => e = .returned (.bool (knownT T o r)) ∧ Kept (fun _ => False) w w' := by
  obtain ⟨oi, id⟩ := o
  have k0 := (Kept.refl (fun _ => False) w).alloc (.cells #[.bool oi, .int .i64 id] 38)
  have nb := Blk.new w [.bool oi, .int .i64 id] 38
  have hL := h.same k0
  obtain ⟨w0, hw0⟩ : ∃ w0, w.alloc (.cells #[.bool oi, .int .i64 id] 38) = w0 := ⟨_, rfl⟩
  rw [hw0] at hL k0 nb
  have hma := made_ok hL
  obtain ⟨c0, c1, c2, _⟩ := hL.cells
  have b0 := nb.cell 0 rfl
  have b1 := nb.cell 1 rfl
  have K0 := Lib.hid k0
  have HL := Lib.hid hL
  obtain ⟨B, hB⟩ : ∃ B, w.heap.size = B := ⟨_, rfl⟩
  rw [hB] at b0 b1
  clear nb h k0 hL
  obtain ⟨kv, hkv⟩ : ∃ kv, knownT T (oi, id) r = kv := ⟨_, rfl⟩
  rw [hkv]
  show Calls Try.prog 26 #[.pointer (some ⟨b, 0, none⟩), .agg #[.bool oi, .int .i64 id], .int .i64 r] w _
  go_enter Try.func26, Try.ntmps26
  go_upto_region 3 with (go_at_call 31; refine hma.mono ?_; rintro e w1 ⟨rfl, rfl⟩)
  clear hma
  have fin : ∀ {o' : Obj} {v : Bool}, v = kv → Ending.returned (.bool v) = Ending.returned (.bool kv) ∧ Kept (fun _ => False) w ((w0.alloc o').drew) := fun e => ⟨by rw [e], (K0.out.alloc _).drew⟩
  clear hB hw0 K0
  rcases HL.out.fx.rowAt ho with ⟨x, hx, hr, hc, hl, _⟩ | ⟨hr, hl, _⟩
  · have l1 := hl w0.drew ((Kept.refl _ _).drew)
    have l2 := hl (w0.alloc (.cells #[.int .i64 0, .slice none 0 0, .int .i64 0, .int .i64 0] 79)).drew (((Kept.refl _ _).alloc _).drew)
    have kr : Kept (fun _ => False) w0 (w0.alloc (.cells #[.int .i64 0, .slice none 0 0, .int .i64 0, .int .i64 0] 79)) := (Kept.refl _ _).alloc _
    have d0 := (HL.out.same kr).cells.1
    have d1 := (World.cell?_alloc_some w0 ⟨B, 0, none⟩ (.cells #[.int .i64 0, .slice none 0 0, .int .i64 0, .int .i64 0] 79) (by rw [b0]; rfl)).trans b0
    have d2 := (World.cell?_alloc_some w0 ⟨B, 1, none⟩ (.cells #[.int .i64 0, .slice none 0 0, .int .i64 0, .int .i64 0] 79) (by rw [b1]; rfl)).trans b1
    simp only [ekO] at l1 l2
    have kx : Kept (fun _ => False) w0 (w0.alloc (.cells #[.int .i64 x.pr, .slice x.oa x.own.length x.oc, .int .i64 x.inl, .int .i64 x.cat] 79)) := (Kept.refl _ _).alloc _
    have hLx := HL.out.same kx
    obtain ⟨_, f1, f2, _⟩ := hLx.cells
    obtain ⟨ia, ic, e1, hi⟩ := hLx.fx.inl
    obtain ⟨ca, cc, e2, hce⟩ := hLx.fx.cei
    rw [e1, List.length_map] at f1
    rw [e2, List.length_map] at f2
    clear kr kx hl hLx hc c1 c2
    have hK : resT T r = kv := by rw [← hkv]; unfold knownT; rw [hr]; rfl
    clear hkv hr hx HL
    by_cases h1 : 0 ≤ r
    · by_cases h2 : r < T.ress.length
      · obtain ⟨k, rfl⟩ := Int.eq_ofNat_of_zero_le h1
        obtain ⟨y, hy, _⟩ := at_of (l := T.ress) (k := k) (by omega)
        have hR : resT T k = !y.1 := by unfold resT; simp [hy]
        obtain ⟨gb, off, rfl, _, g1⟩ := camel_one hi (k := k) (x := y.1) (by rw [List.getElem?_map, hy]; rfl) (v := .bool y.1) rfl
        have fin := fun {o'} => fin (o' := o') (hR.symm.trans hK)
        clear hR hK hi hce hy
        go_region
        all_goals
          go_wp2
          go_ret
          exact fin
      · have hR : resT T r = false := by
          unfold resT
          rw [List.getElem?_eq_none (by omega)]
          simp
        have fin := fun {o'} => fin (o' := o') (hR.symm.trans hK)
        clear hR hK hi hce
        go_region
        all_goals
          go_wp2
          go_ret
          exact fin
    · have hR : resT T r = false := by
        unfold resT
        simp [h1]
      have fin := fun {o'} => fin (o' := o') (hR.symm.trans hK)
      clear hR hK hi hce
      go_region
      all_goals
        go_wp2
        go_ret
        exact fin
  · have l1 := hl w0.drew ((Kept.refl _ _).drew)
    have l2 := hl (w0.alloc (.cells #[.int .i64 0, .slice none 0 0, .int .i64 0, .int .i64 0] 79)).drew (((Kept.refl _ _).alloc _).drew)
    have kr : Kept (fun _ => False) w0 (w0.alloc (.cells #[.int .i64 0, .slice none 0 0, .int .i64 0, .int .i64 0] 79)) := (Kept.refl _ _).alloc _
    have d0 := (HL.out.same kr).cells.1
    have d1 := (World.cell?_alloc_some w0 ⟨B, 0, none⟩ (.cells #[.int .i64 0, .slice none 0 0, .int .i64 0, .int .i64 0] 79) (by rw [b0]; rfl)).trans b0
    have d2 := (World.cell?_alloc_some w0 ⟨B, 1, none⟩ (.cells #[.int .i64 0, .slice none 0 0, .int .i64 0, .int .i64 0] 79) (by rw [b1]; rfl)).trans b1
    simp only [ekO] at l1 l2
    clear kr hl c1 c2
    have hK : false = kv := by rw [← hkv]; unfold knownT; rw [hr]; rfl
    have fin := fun {o'} => fin (o' := o') hK
    clear hkv hK hr HL
    go_region
    all_goals
      go_wp2
      go_ret
      exact fin
end
end Go.Proofs.Ytnfpiocjdhipcaa.LK
