/- stack.Stack[int].All: its iterator goes through the things that there were when the ranging began, from the top on, whatever the rounds do to the stack. -/
import Derived.Test.YtpbjmkdpeadjeaaStkV
import Derived.Test.YtpbjmkdpeadjeaaIter
namespace Go.Proofs.Ytpbjmkdpeadjeaa.SI
open Go.RowKit Go.Fr Go.Shelf
attribute [local go_sem] Oper.semAt_some

theorem IsStk.below {w W : World} {b : Nat} {v : Value} {d h : Int} {l : List Int} (hs : IsStk w b v d h l) (hW : Below w.heap.size w W) : IsStk W b v d h l :=
  ⟨Blk.heap hs.1 (hW.block _ hs.1.lt), row_heap hs.2.1 (fun g hg => hW.block _ (row_lt hs.2.1 hg)), hs.2.2⟩

theorem all_ok (b : Nat) (w : World) : Calls Try.prog 28 #[.pointer (some ⟨b, 0, none⟩)] w fun e w' =>
    e = .returned (.func (.func 49) #[] #[.pointer (some ⟨w.heap.size, 0, none⟩)]) ∧ w' = w.alloc (.cells #[.pointer (some ⟨b, 0, none⟩)] 51) := by
  have hmf : ∀ (fn : Fn) (first cap : Array Value) (w : World), (Instr.makeFunc fn first cap).run Try.prog w = .ok (.func fn first cap) w := fun _ _ _ _ => rfl
  go_enter Try.func28, Try.ntmps28
  go_wp2
  go_ret
  exact ⟨rfl, rfl⟩

set_option maxRecDepth 100000 in
set_option maxHeartbeats 2000000 in
theorem all1_in (n l Bn b : Nat) (v : Value) (d h : Int) (xs : List Int) (ft : World → Nat → Prop) (J Jx : List Int → World → Prop) (hn : 1 ≤ n)
    (hY : ∀ pre x W, J pre W → pre.length < xs.length → YieldAt Fence.wide (n - 1) Try.prog l #[.int .i64 x] W fun e W' =>
      (e = .returned (.bool true) ∧ J (pre ++ [x]) W' ∧ Keeps ft W W') ∨ (e = .returned (.bool false) ∧ Jx (pre ++ [x]) W'))
    (W : World) (hft : ∀ W', Below W.heap.size W W' → ∀ k, ft W' k → k < W.heap.size) (hJ : ∀ W', Kept (fun _ => False) W W' → J [] W')
    (hBn : W.cell? ⟨Bn, 0, none⟩ = some (.pointer (some ⟨b, 0, none⟩))) (hs : IsStk W b v d h xs) :
    CallsIn Fence.wide n Try.prog 49 #[.func (.yield l) #[] #[], .pointer (some ⟨Bn, 0, none⟩)] W fun e W' => (∃ v, e = .returned v) ∧
      ((∃ ys, ys = xs.reverse ∧ J ys W') ∨ (∃ pre, pre <+: xs.reverse ∧ Jx pre W')) := by
  have c0 := hs.1.cell 0 rfl
  have c2 := hs.1.cell 2 rfl
  have hr := hs.2.1
  have hx := hs.2.2.2
  obtain ⟨i0, hi, hz0, hz1, hz2⟩ := info_parts info
  obtain ⟨ao, c, rfl, hc⟩ := row_any hs.2.1
  refine callsIn_of_wp Try.func49 rfl trivial ?_ rfl
  simp only [Try.ntmps49, List.size_toArray, List.length_cons, List.length_nil, Nat.reduceAdd, Nat.reduceSub, Array.replicate_succ, Array.replicate_zero, List.push_toArray, List.append_toArray, List.nil_append, List.cons_append]
  gi_wp2_with (first
    | (refine ⟨trivial, ?_⟩; gi_at_call 44; refine (callsIn_wide.2 (alive_ok hs)).mono ?_; rintro e w' ⟨rfl, rfl⟩)
    | (gi_at_builtin; refine wpListIn_append_any rfl (.const (.slice none 0 0)) (.tmp 11) 35 rfl 3 i0 (.int .i64 0) 1 8 Try.underlying35 hi hz0 hz1 hz2 rfl (by decide) _ _ _ [] rfl (World.ownsRow_nil _ _ _ _) ao xs.length c (xs.map (Value.int .i64)) rfl hr.shows (ints_one xs) ?b1 ?b2 ?_))
  case b1 => unfold maxLen; omega
  case b2 => omega
  intro ao' c' w1 r1 r2 r3
  try simp only [Nat.zero_add, List.nil_append] at r1 r3
  have k1 : Kept (fun _ => False) W w1 := (Kept.refl _ _).grown r2 (fun k hk => by cases hk)
  have hJ1 := hJ w1 k1
  have hf1 : Hid (∀ g, (Value.slice ao' xs.length c').ownBlock = some g → ¬ ft w1 g) := fun g hg hh => by
    have h1 := hft w1 (k1.below (Nat.le_refl _) (fun _ h => h.elim)) g hh
    rcases r3 g hg with h2 | h2
    · cases h2
    · omega
  clear r2 r3 k1 hft hJ c0 c2 hBn
  gi_wp2
  gi_loopw [4] (fun i wr => ∃ (j : Nat) (z : Int), i = .int .i64 z ∧ z + 1 = j ∧ j ≤ xs.length ∧ J ((xs.drop j).reverse) wr ∧ Row wr 3 1 (.slice ao' xs.length c') xs.length (xs.map (Value.int .i64)) ∧ Hid (∀ g, (Value.slice ao' xs.length c').ownBlock = some g → ¬ ft wr g)) (fun i _ => (intOf i + 1).toNat)
  case atStart => exact ⟨xs.length, _, rfl, by omega, Nat.le_refl _, by simpa using hJ1, r1, hf1⟩
  case round =>
    clear hJ1 hf1 r1 hr hs
    obtain ⟨j, z, rfl, hz, hj, hJs, hrow, hfr⟩ := hrel
    rcases Nat.eq_zero_or_pos j with rfl | hpos
    · obtain rfl : z = -1 := by omega
      clear hz
      gi_wp2
      go_end0
      exact ⟨⟨_, rfl⟩, .inl ⟨xs.reverse, rfl, by simpa using hJs⟩⟩
    · obtain ⟨p, rfl⟩ : ∃ p, j = p + 1 := ⟨j - 1, by omega⟩
      obtain rfl : z = (p : Int) := by omega
      clear hz hpos
      have hp : p < xs.length := by omega
      obtain ⟨x, hxp⟩ : ∃ x, xs[p]? = some x := ⟨_, List.getElem?_eq_getElem hp⟩
      have hp0 : (0 : Int) ≤ (p : Int) := Int.natCast_nonneg _
      have hp1 : (p : Int) < (xs.length : Int) := by omega
      have hcl : ∃ g, ao' = some ⟨g, 0, none⟩ ∧ wr.cell? ⟨g, p, none⟩ = some (.int .i64 x) := by
        rcases row_forms hrow with ⟨_, h0⟩ | ⟨g, c'', hv, _⟩
        · omega
        · cases hv
          exact ⟨g, rfl, row_cell hrow p (by rw [List.getElem?_map, hxp]; rfl)⟩
      obtain ⟨g, rfl, hcl⟩ := hcl
      have e2 : (xs.drop p).reverse = (xs.drop (p + 1)).reverse ++ [x] := by
        rw [List.drop_eq_getElem_cons hp, List.reverse_cons]
        rw [List.getElem?_eq_getElem hp] at hxp
        cases hxp; rfl
      have e3 : (xs.drop (p + 1)).reverse ++ [x] <+: xs.reverse := by
        rw [← e2]
        exact ⟨(xs.take p).reverse, by rw [← List.reverse_append, List.take_append_drop]⟩
      have E2 := Lib.hid e2
      have E3 := Lib.hid e3
      obtain ⟨fn, tmps, assign, body, hy, hR⟩ := hY ((xs.drop (p + 1)).reverse) x wr hJs (by simp; omega)
      clear e2 e3 hxp hY
      gi_wp2
      refine hR.mono ?_
      rintro e W3 (⟨rfl, hJ3, hk3⟩ | ⟨rfl, hJx3⟩)
      · have hrow3 : Row W3 3 1 (.slice (some ⟨g, 0, none⟩) xs.length c') xs.length (xs.map (Value.int .i64)) := by
          refine row_heap hrow (fun g' hg' => ?_)
          rcases hrow.2 with ⟨h0, _⟩ | ⟨g2, cap, cur, hv, _, hh, _⟩
          · cases h0
          · cases hv
            simp [Value.ownBlock] at hg'
            subst hg'
            exact hk3.block _ _ _ _ hh (hfr.out _ rfl)
        have hlt : g < wr.heap.size := row_lt hrow rfl
        have hfr3 : Hid (∀ g', (Value.slice (some ⟨g, 0, none⟩) xs.length c').ownBlock = some g' → ¬ ft W3 g') := fun g' hg' hh => by
          simp [Value.ownBlock] at hg'
          subst hg'
          rcases hk3.own _ hh with h1 | h1
          · exact hfr.out _ rfl h1
          · omega
        gi_wp2
        go_roundw
        case rel => exact ⟨p, _, rfl, by omega, by omega, by rw [E2.out]; exact hJ3, hrow3, hfr3⟩
        case measure => simp [intOf]
      · gi_wp2
        refine bodyPost_ret (results_none rfl _ _ _) rfl ?_
        exact ⟨⟨_, rfl⟩, .inr ⟨_, E3.out, hJx3⟩⟩

theorem all_stops (n Bn b : Nat) (v : Value) (d h : Int) (xs : List Int) (ft : World → Nat → Prop) (w : World) (hn : 1 ≤ n) (hft : ∀ W', Below w.heap.size w W' → ∀ k, ft W' k → k < w.heap.size)
    (hB : Bn < w.heap.size) (hBn : w.cell? ⟨Bn, 0, none⟩ = some (.pointer (some ⟨b, 0, none⟩))) (hs : IsStk w b v d h xs) :
    SeqStopsK Fence.wide n Try.prog 49 #[.pointer (some ⟨Bn, 0, none⟩)] (fun x : Int => #[Value.int .i64 x]) (Keeps ft) (fun ys => ys = xs.reverse) (fun pre => pre <+: xs.reverse) xs.length w :=
  fun l J Jx W hW hJ _ hY h0 =>
    all1_in n l Bn b v d h xs ft J Jx hn hY W (fun W' hW' k hk => by have := hft W' (hW.trans (hW'.mono hW.size)) k hk; have := hW.size; omega)
      (fun W' hk => hJ _ _ _ _ h0 (grownBy_of_kept hk) (fun r e => by cases e)) ((hW.cell (p := ⟨Bn, 0, none⟩) hB).trans hBn) (hs.below hW)

theorem seq_nil (f : Fn) (first cap : Array Value) (w : World) : (binOp .eql 63 (.func f first cap) .nilFunc).run Try.prog w = .ok (.bool false) w := by kernel_rfl

set_option maxRecDepth 100000 in
set_option maxHeartbeats 2000000 in
/-- tappetlaw14.all -/
theorem all_law {w : World} {b : Nat} {v : Value} {d h : Int} {l : List Int} (hs : IsStk w b v d h l) : Calls Try.prog 50 #[.pointer (some ⟨b, 0, none⟩)] w fun e w' =>
    ∃ ao c, e = .returned (.slice ao l.length c) ∧ Row w' 3 1 (.slice ao l.length c) l.length (l.reverse.map (Value.int .i64)) ∧ (∀ g, (Value.slice ao l.length c).ownBlock = some g → w.heap.size ≤ g) ∧ Kept (fun _ => False) w w' := by
  obtain ⟨i0, hi, hz0, hz1, hz2⟩ := info_parts info
  have hx := hs.2.2.2
  have hnf := seq_nil
  refine callsIn_wide (n := 8) |>.1 ?_
  refine callsIn_of_wp_marks Try.func50 rfl trivial ?_ rfl
  simp only [Try.ntmps50, List.size_toArray, List.length_cons, List.length_nil, Nat.reduceAdd, Nat.reduceSub, Array.replicate_succ, Array.replicate_zero, List.push_toArray, List.append_toArray, List.nil_append, List.cons_append]
  gi_wp2_with (refine ⟨trivial, ?_⟩; gi_at_call 28; refine (callsIn_wide.2 (all_ok _ _)).mono ?_; rintro e w' ⟨rfl, rfl⟩)
  have bO := Blk.new w [.slice none 0 0] 35
  have bN := Blk.new (w.alloc (.cells #[.slice none 0 0] 35)) [.pointer (some ⟨b, 0, none⟩)] 51
  rw [World.size_alloc] at bN
  have bO2 := bO.alloc (.cells #[.pointer (some ⟨b, 0, none⟩)] 51)
  have kk : Kept (fun _ => False) w ((w.alloc (.cells #[.slice none 0 0] 35)).alloc (.cells #[.pointer (some ⟨b, 0, none⟩)] 51)) := ((Kept.refl _ w).alloc _).alloc _
  have hs2 := hs.kept kk (fun _ _ h => h)
  have hsz : ((w.alloc (.cells #[.slice none 0 0] 35)).alloc (.cells #[.pointer (some ⟨b, 0, none⟩)] 51)).heap.size = w.heap.size + 2 := by simp
  obtain ⟨W0, hW0⟩ : ∃ W0, (w.alloc (.cells #[.slice none 0 0] 35)).alloc (.cells #[.pointer (some ⟨b, 0, none⟩)] 51) = W0 := ⟨_, rfl⟩
  rw [hW0] at bO2 bN kk hs2 hsz ⊢
  clear bO hW0
  have hgs := ftBox_hangs (B := w.heap.size) (n := W0.heap.size) (by omega)
  refine wpIn_rangeFunc_ownG rfl (by decide) (gf := 49) (lb := #[.pointer (some ⟨w.heap.size + 1, 0, none⟩)]) rfl trivial (enters_of Try.func49 (by kernel_rfl) rfl)
    (all_stops 7 (w.heap.size + 1) b v d h l (ftBox w.heap.size) W0 (by decide) ?hft (by omega) (bN.cell 0 rfl) hs2) Keeps.trans ?hkb (Below.refl _ _) (fun _ => rfl)
    (fun pre W => (∃ ao c, Blk W w.heap.size [.slice ao pre.length c] 35 ∧ Row W 3 1 (.slice ao pre.length c) pre.length (pre.map (Value.int .i64)) ∧ (∀ g, (Value.slice ao pre.length c).ownBlock = some g → w.heap.size < g)) ∧ Kept (fun _ => False) w W ∧ W0.heap.size ≤ W.heap.size)
    (fun _ _ _ => False) ?hI (fun _ _ _ _ _ hs _ _ => hs) ?h0
    (fun x => { tmps := #[.pointer (some ⟨b, 0, none⟩), undef, .slice none 0 0, .pointer (some ⟨w.heap.size, 0, none⟩), .func (.func 49) #[] #[.pointer (some ⟨w.heap.size + 1, 0, none⟩)], .int .i64 x, .pointer (some ⟨b, 0, none⟩), .func (.func 49) #[] #[.pointer (some ⟨w.heap.size + 1, 0, none⟩)], .func (.func 49) #[] #[.pointer (some ⟨w.heap.size + 1, 0, none⟩)], .bool false, .func (.func 49) #[] #[.pointer (some ⟨w.heap.size + 1, 0, none⟩)], .int .i64 x, undef, undef, undef, undef, undef], defers := [] }) ?assign ?body ?done ?stop
  case hft =>
    intro W' hW' k hk
    have := hgs.dep W0 W' (fun b hb => hW'.block b (hgs.low b hb)) k hk
    rcases this with rfl | ⟨v', hv', ho'⟩
    · omega
    · have h1 := bO2.cell 0 rfl
      rw [h1] at hv'
      cases hv'
      simp [Value.ownBlock] at ho'
  case hkb => exact fun W l o o' hl ho hc _ => keeps_putObj hgs W l o o' hl ho hc
  case hI =>
    rintro s W W' row ⟨⟨ao, c, h1, h2, h3⟩, h4, h5⟩ hg hr
    have hg' := hg.size
    exact ⟨⟨ao, c, h1.cells hg (fun r e => (hr r e).2), row_cells h2 hg (fun r e => (hr r e).2), h3⟩, h4.of_grown hg (n := W0.heap.size) (by omega) (fun r e => (hr r e).1), by omega⟩
  case h0 => exact ⟨⟨none, 0, bO2, World.ownsRow_nil _ _ _ _, by simp [Value.ownBlock]⟩, kk, Nat.le_refl _⟩
  case assign =>
    intro l x W K hK
    gi_wp2
    exact hK
  case body =>
    rintro l' pre x W ⟨⟨ao, c, h1, h2, h3⟩, h4, h5⟩ hlt
    have hc := h1.cell 0 rfl
    have hown : (Value.slice ao pre.length c).ownBlock ≠ some w.heap.size := fun e => by have := h3 _ e; omega
    gi_wp2_with (gi_at_builtin; refine wpListIn_append_any rfl (.tmp 12) (.tmp 14) 35 rfl 3 i0 (.int .i64 0) 1 8 Try.underlying35 hi hz0 hz1 hz2 rfl (by decide) _ _ _ (pre.map (Value.int .i64)) rfl (row_alloc h2 _) _ 1 1 [.int .i64 x] rfl (shows_new _ [_] _ (by simp) rfl) (by simp [Value.oneCell']) (by unfold maxLen; omega) (by omega) ?_; intro ao' c' w1 r1 r2 r3; have hb1 := blk_after r2 (h1.alloc (.cells #[.int .i64 x] 3)) rfl hown; have hc1 := hb1.cell 0 rfl; have hf1 := hb1.frozen 0)
    rw [World.size_alloc] at r3
    obtain ⟨q1, q2, q3, q4, q5⟩ := box_round h1 h2 hown r1 r2 r3
    have hl : (pre ++ [x]).length = pre.length + 1 := by simp
    refine ⟨q5 _, q4, ⟨ao', c', ?_, ?_, fun g hg => ?_⟩, h4.then q3 (fun k hk => Or.inr ?_), by have := q3.size; omega⟩
    · rw [hl]; exact q1
    · rw [hl, List.map_append]; exact q2
    · rw [hl] at hg
      rcases r3 g hg with h | h
      · exact h3 g h
      · have := h4.size; omega
    · rcases hk with rfl | ⟨v', hv', hk⟩
      · exact Nat.le_refl _
      · rw [h1.cell 0 rfl] at hv'
        cases hv'
        have := h3 k hk
        omega
  case done =>
    rintro D ys W hD rfl ⟨⟨ao, c, h1, h2, h3⟩, h4, h5⟩ hK
    rw [List.length_reverse] at h1 h2 h3
    have hc := h1.cell 0 rfl
    gi_wp2
    refine ⟨by simp, .inl ⟨_, _, rfl, run_takeDeferred hK, ?_⟩⟩
    have hg := grownBy_putObj' W D (.deferred none)
    refine ⟨_, results_tmp rfl _ _ _, ao, c, rfl, row_cells h2 hg (fun r e => by cases e; exact ⟨_, hK, rfl⟩), fun g hg' => by have := h3 g hg'; omega, h4.of_grown hg (n := W0.heap.size) (by omega) (fun r e => by cases e; exact hD)⟩
  case stop =>
    rintro D c pre W _ _ h _
    exact h.elim
end Go.Proofs.Ytpbjmkdpeadjeaa.SI
