/- ring.Ring[int].All: its iterator goes through the things that there were when the ranging began, whatever the rounds do to the ring. -/
import Derived.Test.YtdjdnfjfomeldaaRiV
import Derived.Test.YtdjdnfjfomeldaaIter
namespace Go.Proofs.Ytdjdnfjfomeldaa.RI
open Go.RowKit Go.Fr Go.Shelf
attribute [local go_sem] Oper.semAt_some

theorem IsRing.below {w W : World} {b : Nat} {v : Value} {room f : Nat} {high : Int} {cs l : List Int} (hs : IsRing w b v room f high cs l) (hW : Below w.heap.size w W) : IsRing W b v room f high cs l :=
  ⟨Blk.heap hs.1 (hW.block _ hs.1.lt), row_heap hs.2.1 (fun _ hg => hW.block _ (row_lt hs.2.1 hg)), hs.2.2⟩

theorem all_ok (b : Nat) (w : World) : Calls Try.prog 36 #[.pointer (some ⟨b, 0, none⟩)] w fun e w' =>
    e = .returned (.func (.func 54) #[] #[.pointer (some ⟨w.heap.size, 0, none⟩)]) ∧ w' = w.alloc (.cells #[.pointer (some ⟨b, 0, none⟩)] 57) := by
  have hmf : ∀ (fn : Fn) (first cap : Array Value) (w : World), (Instr.makeFunc fn first cap).run Try.prog w = .ok (.func fn first cap) w := fun _ _ _ _ => rfl
  go_enter Try.func36, Try.ntmps36
  go_wp2
  go_ret
  exact ⟨rfl, rfl⟩

set_option maxRecDepth 100000 in
set_option maxHeartbeats 2000000 in
theorem all1_in (n l Bn b : Nat) (v : Value) (room f : Nat) (high : Int) (cs xs : List Int) (ft : World → Nat → Prop) (J Jx : List Int → World → Prop) (hn : 1 ≤ n)
    (hY : ∀ pre x W, J pre W → pre.length < xs.length → YieldAt Fence.wide (n - 1) Try.prog l #[.int .i64 x] W fun e W' =>
      (e = .returned (.bool true) ∧ J (pre ++ [x]) W' ∧ Keeps ft W W') ∨ (e = .returned (.bool false) ∧ Jx (pre ++ [x]) W'))
    (W : World) (hft : ∀ W', Below W.heap.size W W' → ∀ k, ft W' k → k < W.heap.size) (hJ : ∀ W', Kept (fun _ => False) W W' → J [] W')
    (hBn : W.cell? ⟨Bn, 0, none⟩ = some (.pointer (some ⟨b, 0, none⟩))) (hs : IsRing W b v room f high cs xs) :
    CallsIn Fence.wide n Try.prog 54 #[.func (.yield l) #[] #[], .pointer (some ⟨Bn, 0, none⟩)] W fun e W' => (∃ v, e = .returned v) ∧
      ((∃ ys, ys = xs ∧ J ys W') ∨ (∃ pre, pre <+: xs ∧ Jx pre W')) := by
  have hx : xs.length ≤ 65536 := Nat.le_trans hs.len hs.2.2.2.2.1
  refine callsIn_of_wp Try.func54 rfl trivial ?_ rfl
  simp only [Try.ntmps54, List.size_toArray, List.length_cons, List.length_nil, Nat.reduceAdd, Nat.reduceSub, Array.replicate_succ, Array.replicate_zero, List.push_toArray, List.append_toArray, List.nil_append, List.cons_append]
  gi_wp2_with (first
    | (refine ⟨trivial, ?_⟩; gi_at_call 52; refine (callsIn_wide.2 (alive_ok hs)).mono ?_; rintro e w' ⟨rfl, rfl⟩)
    | (refine ⟨trivial, ?_⟩; gi_at_call 55; refine (callsIn_wide.2 (list_ok hs)).mono ?_; rintro e w1 ⟨ao', c', rfl, r1, r3, k1⟩))
  have hJ1 := hJ w1 k1
  have hf1 : Hid (∀ g, (Value.slice ao' xs.length c').ownBlock = some g → ¬ ft w1 g) := fun g hg hh => by
    have h1 := hft w1 (k1.below (Nat.le_refl _) (fun _ h => h.elim)) g hh
    have h2 := r3 g hg
    omega
  clear r3 k1 hft hJ hBn
  gi_loopw [11] (fun i wr => ∃ j : Nat, i = .int .i64 j ∧ j ≤ xs.length ∧ J (xs.take j) wr ∧ Row wr 3 1 (.slice ao' xs.length c') xs.length (xs.map (Value.int .i64)) ∧ Hid (∀ g, (Value.slice ao' xs.length c').ownBlock = some g → ¬ ft wr g)) (fun i _ => xs.length - (intOf i).toNat)
  case atStart => exact ⟨0, rfl, Nat.zero_le _, by simpa using hJ1, r1, hf1⟩
  case round =>
    clear hJ1 hf1 r1 hs
    obtain ⟨j, rfl, hj, hJs, hrow, hfr⟩ := hrel
    by_cases hp : j < xs.length
    · obtain ⟨x, hxp⟩ : ∃ x, xs[j]? = some x := ⟨_, List.getElem?_eq_getElem hp⟩
      have hp0 : (0 : Int) ≤ (j : Int) := Int.natCast_nonneg _
      have hp1 : (j : Int) < (xs.length : Int) := by omega
      have hcl : ∃ g, ao' = some ⟨g, 0, none⟩ ∧ wr.cell? ⟨g, j, none⟩ = some (.int .i64 x) := by
        rcases row_forms hrow with ⟨_, h0⟩ | ⟨g, c'', hv, _⟩
        · omega
        · cases hv
          exact ⟨g, rfl, row_cell hrow j (by rw [List.getElem?_map, hxp]; rfl)⟩
      obtain ⟨g, rfl, hcl⟩ := hcl
      have e2 : xs.take (j + 1) = xs.take j ++ [x] := by rw [List.take_add_one, hxp]; rfl
      have e3 : xs.take j ++ [x] <+: xs := by rw [← e2]; exact List.take_prefix _ _
      have E2 := Lib.hid e2
      have E3 := Lib.hid e3
      obtain ⟨fn, tmps, assign, body, hy, hR⟩ := hY (xs.take j) x wr hJs (by simp; omega)
      clear e2 e3 hxp hY
      gi_wp2
      refine hR.mono ?_
      rintro e W3 (⟨rfl, hJ3, hk3⟩ | ⟨rfl, hJx3⟩)
      · have hrow3 : Row W3 3 1 (.slice (some ⟨g, 0, none⟩) xs.length c') xs.length (xs.map (Value.int .i64)) := by
          refine row_heap hrow (fun g' hg' => ?_)
          rcases hrow.2 with ⟨h0, _⟩ | ⟨g2, cap, cur, hv, _, hh, _⟩
          · cases h0
          · cases hv
            simp [Value.ownBlock] at hg'
            subst hg'
            exact hk3.block _ _ _ _ hh (hfr.out _ rfl)
        have hlt : g < wr.heap.size := row_lt hrow rfl
        have hfr3 : Hid (∀ g', (Value.slice (some ⟨g, 0, none⟩) xs.length c').ownBlock = some g' → ¬ ft W3 g') := fun g' hg' hh => by
          simp [Value.ownBlock] at hg'
          subst hg'
          rcases hk3.own _ hh with h1 | h1
          · exact hfr.out _ rfl h1
          · omega
        gi_wp2
        go_roundw
        case rel => exact ⟨j + 1, by go_num, by omega, by rw [E2.out]; exact hJ3, hrow3, hfr3⟩
        case measure => simp [intOf]; omega
      · gi_wp2
        refine bodyPost_ret (results_none rfl _ _ _) rfl ?_
        exact ⟨⟨_, rfl⟩, .inr ⟨_, E3.out, hJx3⟩⟩
    · obtain rfl : j = xs.length := by omega
      gi_wp2
      go_end0
      exact ⟨⟨_, rfl⟩, .inl ⟨xs, rfl, by simpa using hJs⟩⟩

theorem all_stops (n Bn b : Nat) (v : Value) (room f : Nat) (high : Int) (cs xs : List Int) (ft : World → Nat → Prop) (w : World) (hn : 1 ≤ n) (hft : ∀ W', Below w.heap.size w W' → ∀ k, ft W' k → k < w.heap.size)
    (hB : Bn < w.heap.size) (hBn : w.cell? ⟨Bn, 0, none⟩ = some (.pointer (some ⟨b, 0, none⟩))) (hs : IsRing w b v room f high cs xs) :
    SeqStopsK Fence.wide n Try.prog 54 #[.pointer (some ⟨Bn, 0, none⟩)] (fun x : Int => #[Value.int .i64 x]) (Keeps ft) (fun ys => ys = xs) (fun pre => pre <+: xs) xs.length w :=
  fun l J Jx W hW hJ _ hY h0 =>
    all1_in n l Bn b v room f high cs xs ft J Jx hn hY W (fun W' hW' k hk => by have := hft W' (hW.trans (hW'.mono hW.size)) k hk; have := hW.size; omega)
      (fun W' hk => hJ _ _ _ _ h0 (grownBy_of_kept hk) (fun r e => by cases e)) ((hW.cell (p := ⟨Bn, 0, none⟩) hB).trans hBn) (hs.below hW)

theorem seq_nil (f : Fn) (first cap : Array Value) (w : World) : (binOp .eql 80 (.func f first cap) .nilFunc).run Try.prog w = .ok (.bool false) w := by kernel_rfl

end Go.Proofs.Ytdjdnfjfomeldaa.RI
