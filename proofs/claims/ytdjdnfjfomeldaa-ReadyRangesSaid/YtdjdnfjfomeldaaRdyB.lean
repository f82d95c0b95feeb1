/- The law's all: what All's iterator tells. -/
import Derived.Test.YtdjdnfjfomeldaaRdyA
namespace Go.Proofs.Ytdjdnfjfomeldaa.QD
open Go.RowKit Go.Fr Go.Rq Go.Shelf
attribute [local go_sem] Oper.semAt_some

theorem seqQ_nil (f : Fn) (first cap : Array Value) (w : World) : (binOp .eql 37 (.func f first cap) .nilFunc).run Try.prog w = .ok (.bool false) w := by kernel_rfl
theorem keeps_of_kept {ft : World → Nat → Prop} {Bx : Nat → Prop} {n : Nat} (hd : Hangs ft Bx n) {A C : World} (hn : n ≤ A.heap.size) (h : Kept (fun _ => False) A C) : Keeps ft A C :=
  h.keeps (fun _ x => x.elim) (fun k hk => Or.inl (hd.dep A C (fun b hb => h.block b (by have := hd.low b hb; omega) (fun x => x)) k hk))

section
variable {w : World} {b : Nat} {cells : List Value} {R : List Rd} {st : List En} {B : Nat} {mk : Bool}

set_option maxRecDepth 100000 in
set_option maxHeartbeats 4000000 in
theorem qallA_law {a : Option Addr} {rpf : Int → Option Addr} (hs : AtQ w a rpf st) : Calls Try.prog 17 #[.pointer a] w fun e w' =>
    ∃ ao c, e = .returned (.slice ao (allQ st).length c) ∧ Row w' 40 2 (.slice ao (allQ st).length c) (allQ st).length ((allQ st).flatMap encQ) ∧ (∀ g, (Value.slice ao (allQ st).length c).ownBlock = some g → w.heap.size ≤ g) ∧ Kept (fun _ => False) w w' := by
  obtain ⟨i0, hi, hz0, hz1, hz2⟩ := info_parts infoQ
  have hlq := allQ_le hs.falls
  obtain ⟨L, hL⟩ : ∃ L, allQ st = L := ⟨_, rfl⟩
  rw [hL] at hlq
  rw [hL]
  have hnf := seqQ_nil
  refine callsIn_wide (n := 8) |>.1 ?_
  refine callsIn_of_wp_marks Try.func17 rfl trivial ?_ rfl
  simp only [Try.ntmps17, List.size_toArray, List.length_cons, List.length_nil, Nat.reduceAdd, Nat.reduceSub, Array.replicate_succ, Array.replicate_zero, List.push_toArray, List.append_toArray, List.nil_append, List.cons_append]
  gi_wp2_with (refine ⟨trivial, ?_⟩; gi_at_call 13; refine (callsIn_wide.2 (qall_ok _ _)).mono ?_; rintro e w' ⟨rfl, rfl⟩)
  have bO := Blk.new w [.slice none 0 0] 34
  have bN := Blk.new (w.alloc (.cells #[.slice none 0 0] 34)) [.pointer a] 24
  rw [World.size_alloc] at bN
  have bO2 := bO.alloc (.cells #[.pointer a] 24)
  have kk : Kept (fun _ => False) w ((w.alloc (.cells #[.slice none 0 0] 34)).alloc (.cells #[.pointer a] 24)) := ((Kept.refl _ w).alloc _).alloc _
  have hs2 := hs.same kk
  have hsz : ((w.alloc (.cells #[.slice none 0 0] 34)).alloc (.cells #[.pointer a] 24)).heap.size = w.heap.size + 2 := by simp
  obtain ⟨W0, hW0⟩ : ∃ W0, (w.alloc (.cells #[.slice none 0 0] 34)).alloc (.cells #[.pointer a] 24) = W0 := ⟨_, rfl⟩
  rw [hW0] at bO2 bN kk hs2 hsz ⊢
  clear bO hW0
  have hgs := ftBox_hangs (B := w.heap.size) (n := W0.heap.size) (by omega)
  have hst := fun hf h0 => qall_stops 7 (w.heap.size + 1) (ftBox w.heap.size) W0 (by decide) hf h0 (by omega) (bN.cell 0 rfl) hs2
  rw [hL] at hst
  clear hL hs hs2
  refine wpIn_range_own rfl (by decide) (gf := 34) (lb := #[.pointer (some ⟨w.heap.size + 1, 0, none⟩)]) rfl trivial (enters_of Try.func34 (by kernel_rfl) rfl)
    (hst ?hft ?hft0) Keeps.trans ?hkb (fun A C hA hk => keeps_of_kept hgs hA hk) (Below.refl _ _) (fun _ => rfl)
    (fun pre W => (∃ ao c, Blk W w.heap.size [.slice ao pre.length c] 34 ∧ Row W 40 2 (.slice ao pre.length c) pre.length (pre.flatMap encQ) ∧ (∀ g, (Value.slice ao pre.length c).ownBlock = some g → w.heap.size < g)) ∧ Kept (fun _ => False) w W ∧ W0.heap.size ≤ W.heap.size)
    (fun _ _ _ => False) ?hI (fun _ _ _ _ _ hs _ _ => hs) ?h0
    (fun x a' W => ∃ k, a' = { tmps := #[.pointer a, undef, .slice none 0 0, .pointer (some ⟨w.heap.size, 0, none⟩), .func (.func 34) #[] #[.pointer (some ⟨w.heap.size + 1, 0, none⟩)], .pointer (some ⟨k, 0, none⟩), .pointer a, .func (.func 34) #[] #[.pointer (some ⟨w.heap.size + 1, 0, none⟩)], .func (.func 34) #[] #[.pointer (some ⟨w.heap.size + 1, 0, none⟩)], .bool false, undef, undef, .func (.func 34) #[] #[.pointer (some ⟨w.heap.size + 1, 0, none⟩)], .agg #[.int .i64 x.1, .int .i64 x.2], undef, undef, undef, undef, undef], defers := [] } ∧ Blk W k [.int .i64 x.1, .int .i64 x.2] 40)
    ?hAx ?assign ?body ?done ?stop
  case hft =>
    intro A C hA hk k hf
    exact hgs.dep A C (fun b hb => hk.block b (by have := hgs.low b hb; omega) (fun x => x)) k hf
  case hft0 =>
    intro W' hW' k hk
    have := hgs.dep W0 W' (fun b hb => hW'.block b (hgs.low b hb)) k hk
    rcases this with rfl | ⟨v', hv', ho'⟩
    · omega
    · have h1 := bO2.cell 0 rfl
      rw [h1] at hv'
      cases hv'
      simp [Value.ownBlock] at ho'
  case hkb => exact fun W l r o' hl ho => keeps_putObj hgs W l _ o' hl ho rfl
  case hI =>
    rintro s W W' row ⟨⟨ao, c, h1, h2, h3⟩, h4, h5⟩ hg hr
    have hg' := hg.size
    exact ⟨⟨ao, c, h1.cells hg (fun r e => (hr r e).2), row_cells h2 hg (fun r e => (hr r e).2), h3⟩, h4.of_grown hg (n := W0.heap.size) (by omega) (fun r e => (hr r e).1), by omega⟩
  case h0 => exact ⟨⟨none, 0, bO2, World.ownsRow_nil _ _ _ _, by simp [Value.ownBlock]⟩, kk, Nat.le_refl _⟩
  case hAx =>
    rintro x a' s A C row ⟨k, h1, h2⟩ hg hr
    exact ⟨k, h1, h2.cells hg (fun r e => (hr r e).2)⟩
  case assign =>
    intro l x W K hK
    have hK' := Lib.hid (hK { tmps := #[.pointer a, undef, .slice none 0 0, .pointer (some ⟨w.heap.size, 0, none⟩), .func (.func 34) #[] #[.pointer (some ⟨w.heap.size + 1, 0, none⟩)], .pointer (some ⟨W.heap.size, 0, none⟩), .pointer a, .func (.func 34) #[] #[.pointer (some ⟨w.heap.size + 1, 0, none⟩)], .func (.func 34) #[] #[.pointer (some ⟨w.heap.size + 1, 0, none⟩)], .bool false, undef, undef, .func (.func 34) #[] #[.pointer (some ⟨w.heap.size + 1, 0, none⟩)], .agg #[.int .i64 x.1, .int .i64 x.2], undef, undef, undef, undef, undef], defers := [] } _ ((Kept.refl _ _).alloc _) ⟨W.heap.size, rfl, Blk.new W _ _⟩)
    gi_wp2
    exact hK'.out
  case body =>
    rintro l' pre x _ W ⟨⟨ao, c, h1, h2, h3⟩, h4, h5⟩ ⟨kx, rfl, hx⟩ hlt
    have hc := h1.cell 0 rfl
    have hx0 := hx.cell 0 rfl
    have hx1 := hx.cell 1 rfl
    have hown : (Value.slice ao pre.length c).ownBlock ≠ some w.heap.size := fun e => by have := h3 _ e; omega
    gi_wp2_with (gi_at_builtin; refine wpListIn_append_any rfl (.tmp 14) (.tmp 16) 34 rfl 40 i0 (.agg #[.int .i64 0, .int .i64 0]) 2 16 Try.underlying34 hi hz0 hz1 hz2 rfl (by decide) _ _ _ (pre.flatMap encQ) rfl (row_alloc h2 _) _ 1 1 [.int .i64 x.1, .int .i64 x.2] rfl (shows_new _ [_, _] _ (by simp) rfl) (by simp [Value.oneCell']) (by unfold maxLen; omega) (by omega) ?_; intro ao' c' w1 r1 r2 r3; have hb1 := blk_after r2 (h1.alloc (.cells #[.int .i64 x.1, .int .i64 x.2] 40)) rfl hown; have hc1 := hb1.cell 0 rfl; have hf1 := hb1.frozen 0)
    rw [World.size_alloc] at r3
    obtain ⟨q1, q2, q3, q4, q5⟩ := box_roundN h1 h2 hown r1 r2 r3
    have hl : (pre ++ [x]).length = pre.length + 1 := by simp
    have hfm : (pre ++ [x]).flatMap encQ = pre.flatMap encQ ++ [.int .i64 x.1, .int .i64 x.2] := by rw [List.flatMap_append]; rfl
    refine ⟨q5 _, q4, ⟨ao', c', ?_, ?_, fun g hg => ?_⟩, h4.then q3 (fun k hk => Or.inr ?_), by have := q3.size; omega⟩
    · rw [hl]; exact q1
    · rw [hl, hfm]; exact q2
    · rw [hl] at hg
      rcases r3 g hg with h | h
      · exact h3 g h
      · have := h4.size; omega
    · rcases hk with rfl | ⟨v', hv', hk⟩
      · exact Nat.le_refl _
      · rw [hc] at hv'
        cases hv'
        have := h3 k hk
        omega
  case done =>
    rintro D ys W hD rfl ⟨⟨ao, c, h1, h2, h3⟩, h4, h5⟩ hK
    have hc := h1.cell 0 rfl
    gi_wp2
    refine ⟨by simp, .inl ⟨_, _, rfl, run_takeDeferred hK, ?_⟩⟩
    have hg := grownBy_putObj' W D (.deferred none)
    refine ⟨_, results_tmp rfl _ _ _, ao, c, rfl, row_cells h2 hg (fun r e => by cases e; exact ⟨_, hK, rfl⟩), fun g hg' => by have := h3 g hg'; omega, h4.of_grown hg (n := W0.heap.size) (by omega) (fun r e => by cases e; exact hD)⟩
  case stop =>
    rintro D c pre W _ _ h _
    exact h.elim
theorem qall_law (hs : IsQ w b cells R st B mk) : Calls Try.prog 17 #[.pointer (some ⟨b, 0, none⟩)] w fun e w' =>
    ∃ ao c, e = .returned (.slice ao (allQ st).length c) ∧ Row w' 40 2 (.slice ao (allQ st).length c) (allQ st).length ((allQ st).flatMap encQ) ∧ (∀ g, (Value.slice ao (allQ st).length c).ownBlock = some g → w.heap.size ≤ g) ∧ Kept (fun _ => False) w w' := qallA_law hs.atq
end
end Go.Proofs.Ytdjdnfjfomeldaa.QD
