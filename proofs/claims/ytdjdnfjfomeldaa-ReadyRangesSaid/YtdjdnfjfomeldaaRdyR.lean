/- Package ready: the ids of a ring: Ring. -/
import Derived.Test.YtdjdnfjfomeldaaRdyX
import Derived.Test.YtdjdnfjfomeldaaRiAll
namespace Go.Proofs.Ytdjdnfjfomeldaa.QD
open Go.RowKit Go.Fr Go.Rq Go.Shelf
attribute [local go_sem] Oper.semAt_some

set_option maxRecDepth 100000 in
set_option maxHeartbeats 2000000 in
theorem nil1_in (n l Bn : Nat) (hn : 1 ≤ n) (J Jx : List Int → World → Prop) (W : World) (hJ : ∀ W', Kept (fun _ => False) W W' → J [] W')
    (hBn : W.cell? ⟨Bn, 0, none⟩ = some (.pointer none)) :
    CallsIn Fence.wide n Try.prog 54 #[.func (.yield l) #[] #[], .pointer (some ⟨Bn, 0, none⟩)] W fun e W' => (∃ v, e = .returned v) ∧
      ((∃ ys, ys = ([] : List Int) ∧ J ys W') ∨ (∃ pre, pre <+: ([] : List Int) ∧ Jx pre W')) := by
  refine callsIn_of_wp Try.func54 rfl trivial ?_ rfl
  simp only [Try.ntmps54, List.size_toArray, List.length_cons, List.length_nil, Nat.reduceAdd, Nat.reduceSub, Array.replicate_succ, Array.replicate_zero, List.push_toArray, List.append_toArray, List.nil_append, List.cons_append]
  gi_wp2_with (refine ⟨trivial, ?_⟩; gi_at_call 52; refine (callsIn_wide.2 (nil_alive _)).mono ?_; rintro e w' ⟨rfl, rfl⟩)
  refine bodyPost_ret (results_none rfl _ _ _) rfl ?_
  exact ⟨⟨_, rfl⟩, .inl ⟨[], rfl, hJ _ (Kept.refl _ _)⟩⟩

section
variable {w : World} {b : Nat} {cells : List Value} {R : List Rd} {st : List En} {B : Nat} {mk : Bool}

/-- the iterator over a priority's ring, be there one or not -/
theorem ring_stops (n Bn : Nat) (p : Int) (ft : World → Nat → Prop) (w : World) (hn : 1 ≤ n) (hft : ∀ W', Below w.heap.size w W' → ∀ k, ft W' k → k < w.heap.size)
    (hB : Bn < w.heap.size) (hBn : w.cell? ⟨Bn, 0, none⟩ = some (.pointer (ringPtr R st p))) (hs : IsQ w b cells R st B mk) :
    SeqStopsK Fence.wide n Try.prog 54 #[.pointer (some ⟨Bn, 0, none⟩)] (fun x : Int => #[Value.int .i64 x]) (Keeps ft) (fun ys => ys = idsAt st p) (fun pre => pre <+: idsAt st p) (idsAt st p).length w := by
  unfold idsAt
  cases h : idx st p with
  | none =>
    rw [ringPtr_none h] at hBn
    exact fun l J Jx W hW hJ _ hY h0 =>
      nil1_in n l Bn hn J Jx W (fun W' hk => hJ _ _ _ _ h0 (grownBy_of_kept hk) (fun r e => by cases e)) ((hW.cell (p := ⟨Bn, 0, none⟩) hB).trans hBn)
  | some i =>
    obtain ⟨e, h1, h2, _⟩ := idx_some h
    obtain ⟨r, hr⟩ := hs.rd h1
    rw [ringPtr_some h hr] at hBn
    simp only [Option.bind_some, h1, Option.map_some, Option.getD_some]
    exact RI.all_stops n Bn r.1 r.2.1 e.2.1 r.2.2.1 e.2.2.1 r.2.2.2 e.2.2.2 ft w hn hft hB hBn (hs.has i e r h1 hr).2

theorem allp_ok (a : Option Addr) (w : World) : Calls Try.prog 36 #[.pointer a] w fun e w' =>
    e = .returned (.func (.func 54) #[] #[.pointer (some ⟨w.heap.size, 0, none⟩)]) ∧ w' = w.alloc (.cells #[.pointer a] 57) := by
  have hmf : ∀ (fn : Fn) (first cap : Array Value) (w : World), (Instr.makeFunc fn first cap).run Try.prog w = .ok (.func fn first cap) w := fun _ _ _ _ => rfl
  go_enter Try.func36, Try.ntmps36
  go_wp2
  go_ret
  exact ⟨rfl, rfl⟩

theorem idsAt_len (hF : Falls st) (p : Int) : (idsAt st p).length ≤ 65536 := idsAt_len' hF p

/-- what a ranging over a queue's rings asks of it -/
def AtQ (w : World) (a : Option Addr) (rpf : Int → Option Addr) (st : List En) : Prop := Falls st ∧ ∀ W, Below w.heap.size w W →
  (∀ p, Calls Try.prog 35 #[.pointer a, .int .i64 p] W fun e w' => e = .returned (.pointer (rpf p)) ∧ W = w') ∧
  (∀ (n Bn : Nat) (p : Int) (ft : World → Nat → Prop), 1 ≤ n → (∀ W', Below W.heap.size W W' → ∀ k, ft W' k → k < W.heap.size) → Bn < W.heap.size → W.cell? ⟨Bn, 0, none⟩ = some (.pointer (rpf p)) →
    SeqStopsK Fence.wide n Try.prog 54 #[.pointer (some ⟨Bn, 0, none⟩)] (fun x : Int => #[Value.int .i64 x]) (Keeps ft) (fun ys => ys = idsAt st p) (fun pre => pre <+: idsAt st p) (idsAt st p).length W)
theorem AtQ.falls {w : World} {a : Option Addr} {rpf : Int → Option Addr} {st : List En} (h : AtQ w a rpf st) : Falls st := h.1
theorem AtQ.below {w w' : World} {a : Option Addr} {rpf : Int → Option Addr} {st : List En} (h : AtQ w a rpf st) (hW : Below w.heap.size w w') : AtQ w' a rpf st :=
  ⟨h.1, fun W hW' => h.2 W (hW.trans (hW'.mono hW.size))⟩
theorem AtQ.same {w w' : World} {a : Option Addr} {rpf : Int → Option Addr} {st : List En} (h : AtQ w a rpf st) (k : Kept (fun _ => False) w w') : AtQ w' a rpf st := h.below (k.below (Nat.le_refl _) (fun _ x => x.elim))
theorem AtQ.at {w : World} {a : Option Addr} {rpf : Int → Option Addr} {st : List En} (h : AtQ w a rpf st) (p : Int) : Calls Try.prog 35 #[.pointer a, .int .i64 p] w fun e w' => e = .returned (.pointer (rpf p)) ∧ w = w' := (h.2 w (Below.refl _ _)).1 p
theorem IsQ.below {w' : World} (hs : IsQ w b cells R st B mk) (hW : Below w.heap.size w w') : IsQ w' b cells R st B mk :=
  { hs with blk := Blk.heap hs.blk (hW.block _ hs.blk.lt), has := fun i e r he hr => ⟨(hs.has i e r he hr).1, (hs.has i e r he hr).2.below hW⟩ }
theorem IsQ.atq (hs : IsQ w b cells R st B mk) : AtQ w (some ⟨b, 0, none⟩) (ringPtr R st) st :=
  ⟨hs.falls, fun _ hW => ⟨fun p => at_ok p (hs.below hW), fun n Bn p ft hn hft hB hBn => ring_stops n Bn p ft _ hn hft hB hBn (hs.below hW)⟩⟩
theorem atnil_ok (p : Int) (w : World) : Calls Try.prog 35 #[.pointer none, .int .i64 p] w fun e w' => e = .returned (.pointer none) ∧ w = w' := by
  go_enter Try.func35, Try.ntmps35
  go_wp2
  go_ret
  exact ⟨rfl, rfl⟩
theorem atq_nil (w : World) : AtQ w none (fun _ => none) [] :=
  ⟨⟨by simp, by simp, by simp, by simp⟩, fun W _ => ⟨fun p => atnil_ok p W, fun n Bn p _ hn _ hB hBn =>
    fun l J Jx W' hW hJ _ _ h0 => nil1_in n l Bn hn J Jx W' (fun _ hk => hJ _ _ _ _ h0 (grownBy_of_kept hk) (fun r e => by cases e)) ((hW.cell (p := ⟨Bn, 0, none⟩) hB).trans hBn)⟩⟩

set_option maxRecDepth 100000 in
set_option maxHeartbeats 2000000 in
theorem ringA_ok {a : Option Addr} {rpf : Int → Option Addr} (p : Int) (hs : AtQ w a rpf st) : Calls Try.prog 42 #[.pointer a, .int .i64 p] w fun e w' =>
    ∃ ao c, e = .returned (.slice ao (idsAt st p).length c) ∧ Row w' 3 1 (.slice ao (idsAt st p).length c) (idsAt st p).length ((idsAt st p).map (Value.int .i64)) ∧ (∀ g, (Value.slice ao (idsAt st p).length c).ownBlock = some g → w.heap.size ≤ g) ∧ Kept (fun _ => False) w w' := by
  obtain ⟨i0, hi, hz0, hz1, hz2⟩ := info_parts RI.info
  have hx := idsAt_len hs.falls p
  obtain ⟨L, hL⟩ : ∃ L, idsAt st p = L := ⟨_, rfl⟩
  rw [hL] at hx ⊢
  have bO := Blk.new w [.slice none 0 0] 75
  have hsA := hs.same ((Kept.refl (fun _ => False) w).alloc (.cells #[.slice none 0 0] 75))
  have ha := hsA.at p
  refine callsIn_wide (n := 8) |>.1 ?_
  refine callsIn_of_wp_marks Try.func42 rfl trivial ?_ rfl
  simp only [Try.ntmps42, List.size_toArray, List.length_cons, List.length_nil, Nat.reduceAdd, Nat.reduceSub, Array.replicate_succ, Array.replicate_zero, List.push_toArray, List.append_toArray, List.nil_append, List.cons_append]
  gi_wp2_with (first
    | (refine ⟨trivial, ?_⟩; gi_at_call 35; refine (callsIn_wide.2 ha).mono ?_; rintro e w' ⟨rfl, rfl⟩)
    | (refine ⟨trivial, ?_⟩; gi_at_call 36; refine (callsIn_wide.2 (allp_ok _ _)).mono ?_; rintro e w' ⟨rfl, rfl⟩))
  obtain ⟨rp, hrp⟩ : ∃ rp, rpf p = rp := ⟨_, rfl⟩
  rw [hrp]
  have bN := Blk.new (w.alloc (.cells #[.slice none 0 0] 75)) [.pointer rp] 57
  rw [World.size_alloc] at bN
  have bO2 := bO.alloc (.cells #[.pointer rp] 57)
  have kk : Kept (fun _ => False) w ((w.alloc (.cells #[.slice none 0 0] 75)).alloc (.cells #[.pointer rp] 57)) := ((Kept.refl _ w).alloc _).alloc _
  have hs2 := hs.same kk
  have hsz : ((w.alloc (.cells #[.slice none 0 0] 75)).alloc (.cells #[.pointer rp] 57)).heap.size = w.heap.size + 2 := by simp
  obtain ⟨W0, hW0⟩ : ∃ W0, (w.alloc (.cells #[.slice none 0 0] 75)).alloc (.cells #[.pointer rp] 57) = W0 := ⟨_, rfl⟩
  rw [hW0] at bO2 bN kk hs2 hsz ⊢
  clear bO hW0
  have hgs := ftBox_hangs (B := w.heap.size) (n := W0.heap.size) (by omega)
  have hst := fun hft => (hs2.2 W0 (Below.refl _ _)).2 7 (w.heap.size + 1) p (ftBox w.heap.size) (by decide) hft (by omega) ((bN.cell 0 rfl).trans (by rw [hrp]))
  rw [hL] at hst
  clear hL ha hsA
  refine wpIn_rangeFunc_ownG rfl (by decide) (gf := 54) (lb := #[.pointer (some ⟨w.heap.size + 1, 0, none⟩)]) rfl trivial (enters_of Try.func54 (by kernel_rfl) rfl)
    (hst ?hft) Keeps.trans ?hkb (Below.refl _ _) (fun _ => rfl)
    (fun pre W => (∃ ao c, Blk W w.heap.size [.slice ao pre.length c] 75 ∧ Row W 3 1 (.slice ao pre.length c) pre.length (pre.map (Value.int .i64)) ∧ (∀ g, (Value.slice ao pre.length c).ownBlock = some g → w.heap.size < g)) ∧ Kept (fun _ => False) w W ∧ W0.heap.size ≤ W.heap.size)
    (fun _ _ _ => False) ?hI (fun _ _ _ _ _ hs _ _ => hs) ?h0
    (fun x => { tmps := #[.pointer a, .int .i64 p, undef, undef, .slice none 0 0, .pointer (some ⟨w.heap.size, 0, none⟩), .int .i64 x, .pointer a, .int .i64 p, .pointer rp, .func (.func 54) #[] #[.pointer (some ⟨w.heap.size + 1, 0, none⟩)], .int .i64 x, undef, undef, undef, undef, undef], defers := [] }) ?assign ?body ?done ?stop
  case hft =>
    intro W' hW' k hk
    have := hgs.dep W0 W' (fun b hb => hW'.block b (hgs.low b hb)) k hk
    rcases this with rfl | ⟨v', hv', ho'⟩
    · omega
    · have h1 := bO2.cell 0 rfl
      rw [h1] at hv'
      cases hv'
      simp [Value.ownBlock] at ho'
  case hkb => exact fun W l o o' hl ho hc _ => keeps_putObj hgs W l o o' hl ho hc
  case hI =>
    rintro s W W' row ⟨⟨ao, c, h1, h2, h3⟩, h4, h5⟩ hg hr
    have hg' := hg.size
    exact ⟨⟨ao, c, h1.cells hg (fun r e => (hr r e).2), row_cells h2 hg (fun r e => (hr r e).2), h3⟩, h4.of_grown hg (n := W0.heap.size) (by omega) (fun r e => (hr r e).1), by omega⟩
  case h0 => exact ⟨⟨none, 0, bO2, World.ownsRow_nil _ _ _ _, by simp [Value.ownBlock]⟩, kk, Nat.le_refl _⟩
  case assign =>
    intro l x W K hK
    gi_wp2
    exact hK
  case body =>
    rintro l' pre x W ⟨⟨ao, c, h1, h2, h3⟩, h4, h5⟩ hlt
    have hc := h1.cell 0 rfl
    have hown : (Value.slice ao pre.length c).ownBlock ≠ some w.heap.size := fun e => by have := h3 _ e; omega
    gi_wp2_with (gi_at_builtin; refine wpListIn_append_any rfl (.tmp 12) (.tmp 14) 75 rfl 3 i0 (.int .i64 0) 1 8 Try.underlying75 hi hz0 hz1 hz2 rfl (by decide) _ _ _ (pre.map (Value.int .i64)) rfl (row_alloc h2 _) _ 1 1 [.int .i64 x] rfl (shows_new _ [_] _ (by simp) rfl) (by simp [Value.oneCell']) (by unfold maxLen; omega) (by omega) ?_; intro ao' c' w1 r1 r2 r3; have hb1 := blk_after r2 (h1.alloc (.cells #[.int .i64 x] 3)) rfl hown; have hc1 := hb1.cell 0 rfl; have hf1 := hb1.frozen 0)
    rw [World.size_alloc] at r3
    obtain ⟨q1, q2, q3, q4, q5⟩ := box_round h1 h2 hown r1 r2 r3
    have hl : (pre ++ [x]).length = pre.length + 1 := by simp
    refine ⟨q5 _, q4, ⟨ao', c', ?_, ?_, fun g hg => ?_⟩, h4.then q3 (fun k hk => Or.inr ?_), by have := q3.size; omega⟩
    · rw [hl]; exact q1
    · rw [hl, List.map_append]; exact q2
    · rw [hl] at hg
      rcases r3 g hg with h | h
      · exact h3 g h
      · have := h4.size; omega
    · rcases hk with rfl | ⟨v', hv', hk⟩
      · exact Nat.le_refl _
      · rw [h1.cell 0 rfl] at hv'
        cases hv'
        have := h3 k hk
        omega
  case done =>
    rintro D ys W hD rfl ⟨⟨ao, c, h1, h2, h3⟩, h4, h5⟩ hK
    have hc := h1.cell 0 rfl
    gi_wp2
    refine ⟨by simp, .inl ⟨_, _, rfl, run_takeDeferred hK, ?_⟩⟩
    have hg := grownBy_putObj' W D (.deferred none)
    refine ⟨_, results_tmp rfl _ _ _, ao, c, rfl, row_cells h2 hg (fun r e => by cases e; exact ⟨_, hK, rfl⟩), fun g hg' => by have := h3 g hg'; omega, h4.of_grown hg (n := W0.heap.size) (by omega) (fun r e => by cases e; exact hD)⟩
  case stop =>
    rintro D c pre W _ _ h _
    exact h.elim
theorem ring_ok (p : Int) (hs : IsQ w b cells R st B mk) : Calls Try.prog 42 #[.pointer (some ⟨b, 0, none⟩), .int .i64 p] w fun e w' =>
    ∃ ao c, e = .returned (.slice ao (idsAt st p).length c) ∧ Row w' 3 1 (.slice ao (idsAt st p).length c) (idsAt st p).length ((idsAt st p).map (Value.int .i64)) ∧ (∀ g, (Value.slice ao (idsAt st p).length c).ownBlock = some g → w.heap.size ≤ g) ∧ Kept (fun _ => False) w w' := ringA_ok p hs.atq
end
end Go.Proofs.Ytdjdnfjfomeldaa.QD
