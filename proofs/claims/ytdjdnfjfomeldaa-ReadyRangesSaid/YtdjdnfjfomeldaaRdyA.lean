/- Package ready: All: its iterator goes through the ids that there were when the ranging began. -/
import Derived.Test.YtdjdnfjfomeldaaRdyR
import Derived.Test.YtdjdnfjfomeldaaRdyI
namespace Go.Proofs.Ytdjdnfjfomeldaa.QD
open Go.RowKit Go.Fr Go.Rq Go.Shelf
attribute [local go_sem] Oper.semAt_some

abbrev encQ : Int × Int → List Value := encKK .i64 .i64
theorem infoQ : (Try.prog.info? 40).map (fun i => (i.zero, i.size, i.bytes)) = some (some (.agg #[.int .i64 0, .int .i64 0]), 2, 16) := by kernel_rfl

section
variable {w : World} {b : Nat} {cells : List Value} {R : List Rd} {st : List En} {B : Nat} {mk : Bool}

/-- the frame of All's iterator at the head of its first loop -/
def actA (l Bn Bl Bp : Nat) (u8 u9 u10 u11 u12 u13 u14 u15 u23 : Value) (Ds : List Nat) : Act :=
  { tmps := #[.func (.yield l) #[] #[], .pointer (some ⟨Bn, 0, none⟩), undef, .pointer (some ⟨Bl, 0, none⟩), .pointer (some ⟨Bp, 0, none⟩), undef, undef, undef, u8, u9, u10, u11, u12, u13, u14, u15, undef, undef, undef, undef, undef, undef, undef, u23, undef, undef, undef, undef, undef, undef, undef, undef, undef, undef, undef], defers := Ds.map coll }

structure HeadA (w W : World) (st : List En) (q Bl Bp : Nat) (Ds : List Nat) : Prop where
  kept : Kept (fun _ => False) w W
  boxP : Blk W Bp [.int .i64 ((q : Int) - 1)] 3
  newP : w.heap.size < Bp
  boxL : ∃ ao c, Blk W Bl [.slice ao (aboveQ st q).length c] 34 ∧ Row W 40 2 (.slice ao (aboveQ st q).length c) (aboveQ st q).length ((aboveQ st q).flatMap encQ) ∧ (∀ g, (Value.slice ao (aboveQ st q).length c).ownBlock = some g → w.heap.size < g)
  nod : Ds.Nodup
  marks : ∀ D ∈ Ds, w.heap.size ≤ D ∧ W.heap[D]? = some (.deferred (some []))

theorem row_ne_blk {w : World} {e t : TypeId} {sz n B : Nat} {v : Value} {xs cs : List Value} (hne : e ≠ t) (h : Row w e sz v n xs) (hb : Blk w B cs t) : v.ownBlock ≠ some B := fun ho => by
  rcases h.2 with ⟨rfl, _⟩ | ⟨g, cap, cur, rfl, _, hh, _⟩
  · simp [Value.ownBlock] at ho
  · simp [Value.ownBlock] at ho
    subst ho
    unfold Blk at hb
    rw [hb] at hh
    simp at hh
    exact hne hh.2.symm
def muA (a : Act) (w : World) : Nat := match a.tmps.getD 4 undef with | .pointer (some p) => (match w.cell? p with | some (.int _ i) => (i + 1).toNat | _ => 0) | _ => 0
theorem muA_at {w W : World} {st : List En} {q l Bn Bl Bp : Nat} {u8 u9 u10 u11 u12 u13 u14 u15 u23 : Value} {Ds Es : List Nat} (h : HeadA w W st q Bl Bp Es) : muA (actA l Bn Bl Bp u8 u9 u10 u11 u12 u13 u14 u15 u23 Ds) W = q := by
  have := h.boxP.cell 0 rfl
  unfold muA actA
  simp [this]

set_option maxRecDepth 100000 in
set_option maxHeartbeats 4000000 in
theorem qall1_in (n l Bn : Nat) (ft : World → Nat → Prop) (J Jx : List (Int × Int) → World → Prop) (hn : 2 ≤ n)
    (W : World) (hft : ∀ A B : World, W.heap.size ≤ A.heap.size → Kept (fun _ => False) A B → ∀ k, ft B k → ft A k) (hft0 : ∀ k, ft W k → k < W.heap.size) (hOJ : OwnFrom W.heap.size J) (hOX : OwnFrom W.heap.size Jx)
    (hY : ∀ pre x W1, J pre W1 → pre.length < (allQ st).length → YieldAt Fence.wide (n - 1) Try.prog l #[.agg #[.int .i64 x.1, .int .i64 x.2]] W1 fun e W' =>
      Marks W.heap.size W1 W' ∧ ((e = .returned (.bool true) ∧ J (pre ++ [x]) W' ∧ Keeps ft W1 W') ∨ (e = .returned (.bool false) ∧ Jx (pre ++ [x]) W'))) (h0 : J [] W)
    {a : Option Addr} {rpf : Int → Option Addr} (hBn : W.cell? ⟨Bn, 0, none⟩ = some (.pointer a)) (hs : AtQ W a rpf st) :
    CallsIn Fence.wide n Try.prog 34 #[.func (.yield l) #[] #[], .pointer (some ⟨Bn, 0, none⟩)] W fun e W' => (∃ v, e = .returned v) ∧
      ((∃ ys, ys = allQ st ∧ J ys W') ∨ (∃ pre, pre <+: allQ st ∧ Jx pre W')) := by
  obtain ⟨i0, hi, hz0, hz1, hz2⟩ := info_parts infoQ
  have hF := hs.falls
  have hBlt := World.block_lt_of_cell? _ _ hBn
  have hlq := allQ_le hF
  obtain ⟨L, hL⟩ : ∃ L, allQ st = L := ⟨_, rfl⟩
  rw [hL] at hY hlq
  rw [hL]
  refine callsIn_of_wp_marks Try.func34 rfl trivial ?_ rfl
  simp only [Try.ntmps34, List.size_toArray, List.length_cons, List.length_nil, Nat.reduceAdd, Nat.reduceSub, Array.replicate_succ, Array.replicate_zero, List.push_toArray, List.append_toArray, List.nil_append, List.cons_append]
  have bL := (Blk.new W [.slice none 0 0] 34)
  have bP := (Blk.new (W.alloc (.cells #[.slice none 0 0] 34)) [.int .i64 63] 3)
  rw [World.size_alloc] at bP
  gi_wp2
  refine wpIn_loop (fun a wr => ∃ (q Bp : Nat) (u8 u9 u10 u11 u12 u13 u14 u15 u23 : Value) (Ds : List Nat), a = actA l Bn W.heap.size Bp u8 u9 u10 u11 u12 u13 u14 u15 u23 Ds ∧ q ≤ 64 ∧ HeadA W wr st q W.heap.size Bp Ds) muA ?start ?round
  case start =>
    refine ⟨64, W.heap.size + 1, _, _, _, _, _, _, _, _, _, [], rfl, Nat.le_refl _, ?_⟩
    refine ⟨((Kept.refl _ W).alloc _).alloc _, bP, by omega, ⟨none, 0, ?_, ?_, by simp [Value.ownBlock]⟩, List.nodup_nil, fun D hD => by cases hD⟩
    · rw [aboveQ_top hF]
      exact bL.alloc _
    · rw [aboveQ_top hF]
      exact World.ownsRow_nil _ _ _ _
  case round =>
    clear bL bP
    rintro _ wr ⟨q, Bp, u8, u9, u10, u11, u12, u13, u14, u15, u23, Ds, rfl, hq, h⟩
    have hsr := hs.same h.kept
    have hc1 : wr.cell? ⟨Bn, 0, none⟩ = some (.pointer a) := (h.kept.cell (p := ⟨Bn, 0, none⟩) hBlt (fun x => x)).trans hBn
    have hc2 := h.boxP.cell 0 rfl
    rw [muA_at h]
    unfold actA
    cases q with
    | zero =>
      obtain ⟨ao, c, b1, b2, b3⟩ := h.boxL
      rw [aboveQ_all, hL] at b1 b2 b3
      have hc3 := b1.cell 0 rfl
      have hJ1 := hOJ _ _ _ none h0 (grownBy_of_kept h.kept) (fun r e => by cases e)
      have hf1 : Hid (∀ g, (Value.slice ao L.length c).ownBlock = some g → ¬ ft wr g) := fun g hg hh => by
        have h1 := hft0 _ (hft W wr (Nat.le_refl _) h.kept g hh)
        have h2 := b3 g hg
        omega
      have hm1 : Hid (∀ D ∈ Ds, wr.heap[D]? = some (.deferred (some []))) := fun D hD => (h.marks D hD).2
      have hD1 := Lib.hid (fun D hD => (h.marks D hD).1)
      have hnd := Lib.hid h.nod
      have hsz1 := Lib.hid h.kept.size
      clear h hBn hs hsr b3 hft0 h0 hL
      gi_wp2
      clear hc2
      gi_loopw [26] (fun i wx => ∃ j : Nat, i = .int .i64 j ∧ j ≤ L.length ∧ J (L.take j) wx ∧ Row wx 40 2 (.slice ao L.length c) L.length (L.flatMap encQ) ∧ Hid (∀ g, (Value.slice ao L.length c).ownBlock = some g → ¬ ft wx g) ∧ Hid (∀ D ∈ Ds, wx.heap[D]? = some (.deferred (some []))) ∧ Hid (W.heap.size ≤ wx.heap.size)) (fun i _ => L.length - (intOf i).toNat)
      case atStart => exact ⟨0, rfl, Nat.zero_le _, by simpa using hJ1, b2, hf1, hm1, hsz1⟩
      case round =>
        clear hJ1 hf1 hm1 hsz1 b2 b1 hc1
        obtain ⟨j, rfl, hj, hJs, hrow, hfr, hmr, hsr⟩ := hrel
        by_cases hp : j < L.length
        · obtain ⟨x, hxp⟩ : ∃ x, L[j]? = some x := ⟨_, List.getElem?_eq_getElem hp⟩
          have hp0 : (0 : Int) ≤ (j : Int) := Int.natCast_nonneg _
          have hp1 : (j : Int) < (L.length : Int) := by omega
          have hcl : ∃ g, ao = some ⟨g, 0, none⟩ ∧ wr.cell? ⟨g, j * 2, none⟩ = some (.int .i64 x.1) ∧ wr.cell? ⟨g, j * 2 + 1, none⟩ = some (.int .i64 x.2) := by
            rcases row_forms hrow with ⟨_, h0⟩ | ⟨g, c'', hv, _⟩
            · omega
            · cases hv
              exact ⟨g, rfl, rows_cell (enc := encQ) (fun _ => rfl) hrow (i := 0) hxp rfl, rows_cell (enc := encQ) (fun _ => rfl) hrow (i := 1) hxp rfl⟩
          obtain ⟨g, rfl, hcl0, hcl1⟩ := hcl
          have e2 : L.take (j + 1) = L.take j ++ [x] := by rw [List.take_add_one, hxp]; rfl
          have e3 : L.take j ++ [x] <+: L := by rw [← e2]; exact List.take_prefix _ _
          have E2 := Lib.hid e2
          have E3 := Lib.hid e3
          have hlt : g < wr.heap.size := row_lt hrow rfl
          have hrow2 := row_alloc hrow (.cells #[.int .i64 x.1, .int .i64 x.2] 40)
          have hfr2 : Hid (∀ g', (Value.slice (some ⟨g, 0, none⟩) L.length c).ownBlock = some g' → ¬ ft (wr.alloc (.cells #[.int .i64 x.1, .int .i64 x.2] 40)) g') := fun g' hg hh =>
            hfr.out g' hg (hft _ _ hsr.out ((Kept.refl _ _).alloc _) _ hh)
          have hmr2 : Hid (∀ D ∈ Ds, (wr.alloc (.cells #[.int .i64 x.1, .int .i64 x.2] 40)).heap[D]? = some (.deferred (some []))) := fun D hD =>
            (Below.heap_alloc _ _ _ ((Array.getElem?_eq_some_iff.1 (hmr.out D hD)).1)).trans (hmr.out D hD)
          have hsr2 : Hid (W.heap.size ≤ (wr.alloc (.cells #[.int .i64 x.1, .int .i64 x.2] 40)).heap.size) := by have := hsr.out; unfold Hid; simp; omega
          obtain ⟨fn, tmps, assign, body, hy, hR⟩ := hY (L.take j) x (wr.alloc (.cells #[.int .i64 x.1, .int .i64 x.2] 40)) (hOJ.alloc _ hJs) (by simp; omega)
          clear e2 e3 hxp hY hrow hfr hmr hsr hJs
          gi_wp2
          refine ⟨fun _ => by omega, hR.mono ?_⟩
          rintro e W3 ⟨hm3, (⟨rfl, hJ3, hk3⟩ | ⟨rfl, hJx3⟩)⟩
          · have hrow3 : Row W3 40 2 (.slice (some ⟨g, 0, none⟩) L.length c) L.length (L.flatMap encQ) := by
              refine row_heap hrow2 (fun g' hg' => ?_)
              obtain ⟨cc, tt, ff, hh⟩ := row_isCells hrow2 hg'
              exact hk3.block _ _ _ _ hh (hfr2.out _ hg')
            have hfr3 : Hid (∀ g', (Value.slice (some ⟨g, 0, none⟩) L.length c).ownBlock = some g' → ¬ ft W3 g') := fun g' hg' hh => by
              rcases hk3.own _ hh with h1 | h1
              · exact hfr2.out _ hg' h1
              · have := row_lt hrow2 hg'; omega
            have hmr3 : Hid (∀ D ∈ Ds, W3.heap[D]? = some (.deferred (some []))) := fun D hD => hm3 D _ (hD1.out D hD) (hmr2.out D hD)
            have hsr3 : Hid (W.heap.size ≤ W3.heap.size) := Nat.le_trans hsr2.out hk3.size
            clear hR hy hk3 hm3 hrow2 hfr2 hmr2 hsr2
            gi_wp2
            go_roundw
            case rel => exact ⟨j + 1, by go_num, by omega, by rw [E2.out]; exact hJ3, hrow3, hfr3, hmr3, hsr3⟩
            case measure => simp [intOf]; omega
          · gi_wp2
            refine leaves_marks (m := W.heap.size) (fun A => Jx (L.take j ++ [x]) A) (fun A D hD hh hA => hOX.putObj _ hA hD hh rfl) (fun A hA => ⟨_, results_none rfl _ _ _, ⟨_, rfl⟩, .inr ⟨_, E3.out, hA⟩⟩) Ds W3 hnd.out (fun D hD => ⟨hD1.out D hD, hm3 D _ (hD1.out D hD) (hmr2.out D hD)⟩) hJx3
        · obtain rfl : j = L.length := by omega
          gi_wp2
          refine leaves_marks (m := W.heap.size) (fun A => J L A) (fun A D hD hh hA => hOJ.putObj _ hA hD hh rfl) (fun A hA => ⟨_, results_none rfl _ _ _, ⟨_, rfl⟩, .inl ⟨L, rfl, hA⟩⟩) Ds wr hnd.out (fun D hD => ⟨hD1.out D hD, hmr.out D hD⟩) (by simpa using hJs)
    | succ q =>
      have hc3 := h.boxP.frozen 0
      have ha := hsr.at (q : Int)
      gi_wp2_with (first
        | (refine ⟨trivial, fun _ => by omega, ?_⟩; gi_at_call 35; refine (callsIn_wide.2 ha).mono ?_; rintro e w' ⟨rfl, rfl⟩)
        | (refine ⟨trivial, fun _ => by omega, ?_⟩; gi_at_call 36; refine (callsIn_wide.2 (allp_ok _ _)).mono ?_; rintro e w' ⟨rfl, rfl⟩))
      obtain ⟨rp, hrp⟩ : ∃ rp, rpf (q : Int) = rp := ⟨_, rfl⟩
      rw [hrp]
      obtain ⟨ao, c, b1, b2, b3⟩ := h.boxL
      obtain ⟨xs, hxs⟩ : ∃ xs, aboveQ st (q + 1) = xs := ⟨_, rfl⟩
      have hxl := aboveQ_le hF (q + 1) hq
      rw [hxs] at b1 b2 b3 hxl
      have bN := Blk.new wr [.pointer rp] 57
      have bP2 := h.boxP.alloc (.cells #[.pointer rp] 57)
      have bO2 := b1.alloc (.cells #[.pointer rp] 57)
      have rO2 := row_alloc b2 (.cells #[.pointer rp] 57)
      have kk : Kept (fun _ => False) W (wr.alloc (.cells #[.pointer rp] 57)) := h.kept.alloc _
      have hs2 := hs.same kk
      have mk2 : ∀ D ∈ Ds, W.heap.size ≤ D ∧ (wr.alloc (.cells #[.pointer rp] 57)).heap[D]? = some (.deferred (some [])) := fun D hD => ⟨(h.marks D hD).1, (Below.heap_alloc _ _ _ ((Array.getElem?_eq_some_iff.1 (h.marks D hD).2).1)).trans (h.marks D hD).2⟩
      have hsz : (wr.alloc (.cells #[.pointer rp] 57)).heap.size = wr.heap.size + 1 := by simp
      have hnP := h.newP
      have hPl := h.boxP.lt
      have hnd := h.nod
      obtain ⟨W0, hW0⟩ : ∃ W0, wr.alloc (.cells #[.pointer rp] 57) = W0 := ⟨_, rfl⟩
      rw [hW0] at bO2 rO2 bP2 bN kk hs2 hsz mk2 ⊢
      have hgs := ftBox_hangs (B := W.heap.size) (n := W0.heap.size) (by have := bO2.lt; omega)
      have hst := fun hft => (hs2.2 W0 (Below.refl _ _)).2 (n - 1) wr.heap.size (q : Int) (ftBox W.heap.size) (by omega) hft (by omega) ((bN.cell 0 rfl).trans (by rw [hrp]))
      have hyl := idsAt_len hF (q : Int)
      have hab := aboveQ_succ hF q
      obtain ⟨ys, hys⟩ : ∃ ys, idsAt st (q : Int) = ys := ⟨_, rfl⟩
      rw [hxs, hys] at hab
      rw [hys] at hst hyl
      clear hys ha hsr hc1 hc2 hc3 b1 b2 hs hs2 h hW0
      refine wpIn_rangeFunc_ownG rfl (by omega) (gf := 54) (lb := #[.pointer (some ⟨wr.heap.size, 0, none⟩)]) rfl trivial (enters_of Try.func54 (by kernel_rfl) rfl)
        (hst ?hft) Keeps.trans ?hkb (Below.refl _ _) (fun _ => rfl)
        (fun pre W' => (∃ ao c, Blk W' W.heap.size [.slice ao (xs.length + pre.length) c] 34 ∧ Row W' 40 2 (.slice ao (xs.length + pre.length) c) (xs.length + pre.length) ((xs ++ pre.map (fun x => ((q : Int), x))).flatMap encQ) ∧ (∀ g, (Value.slice ao (xs.length + pre.length) c).ownBlock = some g → W.heap.size < g)) ∧ Kept (fun _ => False) W W' ∧ Blk W' Bp [.int .i64 (((q + 1 : Nat) : Int) - 1)] 3 ∧ (∀ D ∈ Ds, W'.heap[D]? = some (.deferred (some []))) ∧ W0.heap.size ≤ W'.heap.size)
        (fun _ _ _ => False) ?hI (fun _ _ _ _ _ hs _ _ => hs) ?h0
        (fun x => { tmps := #[.func (.yield l) #[] #[], .pointer (some ⟨Bn, 0, none⟩), undef, .pointer (some ⟨W.heap.size, 0, none⟩), .pointer (some ⟨Bp, 0, none⟩), .int .i64 x, undef, undef, .int .i64 (q : Int), .bool true, u10, u11, .pointer a, .int .i64 (q : Int), .pointer rp, .func (.func 54) #[] #[.pointer (some ⟨wr.heap.size, 0, none⟩)], .int .i64 x, undef, undef, undef, undef, undef, undef, u23, undef, undef, undef, undef, undef, undef, undef, undef, undef, undef, undef], defers := [] }) ?assign ?body ?done ?stop
      case hft =>
        intro W' hW' k hk
        have := hgs.dep W0 W' (fun b hb => hW'.block b (hgs.low b hb)) k hk
        rcases this with rfl | ⟨v', hv', ho'⟩
        · have := bO2.lt; omega
        · have h1 := bO2.cell 0 rfl
          rw [h1] at hv'
          cases hv'
          exact row_lt rO2 ho'
      case hkb => exact fun W l o o' hl ho hc _ => keeps_putObj hgs W l o o' hl ho hc
      case hI =>
        rintro s A A' row ⟨⟨ao, c, h1, h2, h3⟩, h4, h5, h6, h7⟩ hg hr
        have hg' := hg.size
        exact ⟨⟨ao, c, h1.cells hg (fun r e => (hr r e).2), row_cells h2 hg (fun r e => (hr r e).2), h3⟩, h4.of_grown hg (n := W0.heap.size) (by have := bO2.lt; omega) (fun r e => (hr r e).1), h5.cells hg (fun r e => (hr r e).2), fun D hD => grown_low hg hr (Array.getElem?_eq_some_iff.1 (mk2 D hD).2).1 (h6 D hD), by omega⟩
      case h0 => exact ⟨⟨ao, c, bO2, by simpa using rO2, b3⟩, kk, bP2, fun D hD => (mk2 D hD).2, Nat.le_refl _⟩
      case assign =>
        intro l x W K hK
        gi_wp2
        exact hK
      case body =>
        clear hst rO2 bO2 bP2 bN
        rintro l' pre x W' ⟨⟨ao, c, h1, h2, h3⟩, h4, h5, h6, h7⟩ hlt
        have hc := h1.cell 0 rfl
        have hp := h5.cell 0 rfl
        have hown : (Value.slice ao (xs.length + pre.length) c).ownBlock ≠ some W.heap.size := fun e => by have := h3 _ e; omega
        have hownP : (Value.slice ao (xs.length + pre.length) c).ownBlock ≠ some Bp := row_ne_blk (by decide) h2 h5
        gi_wp2_with (gi_at_builtin; refine wpListIn_append_any rfl (.tmp 17) (.tmp 21) 34 rfl 40 i0 (.agg #[.int .i64 0, .int .i64 0]) 2 16 Try.underlying34 hi hz0 hz1 hz2 rfl (by decide) _ _ _ ((xs ++ pre.map (fun x => ((q : Int), x))).flatMap encQ) rfl (row_alloc h2 _) _ 1 1 [.int .i64 (q : Int), .int .i64 x] rfl (shows_new _ [_, _] _ (by simp) rfl) (by simp [Value.oneCell']) (by unfold maxLen; omega) (by omega) ?_; intro ao' c' w1 r1 r2 r3; have hb1 := blk_after r2 (h1.alloc (.cells #[.int .i64 (q : Int), .int .i64 x] 40)) rfl hown; have hc1 := hb1.cell 0 rfl; have hf1 := hb1.frozen 0)
        rw [World.size_alloc] at r3
        obtain ⟨q1, q2, q3, q4, q5⟩ := box_roundN h1 h2 hown r1 r2 r3
        have hl : xs.length + (pre ++ [x]).length = xs.length + pre.length + 1 := by simp; omega
        have hfm : (xs ++ (pre ++ [x]).map (fun x => ((q : Int), x))).flatMap encQ = (xs ++ pre.map (fun x => ((q : Int), x))).flatMap encQ ++ [.int .i64 (q : Int), .int .i64 x] := by
          rw [List.map_append, ← List.append_assoc, List.flatMap_append]; rfl
        refine ⟨q5 _, q4, ⟨ao', c', ?_, ?_, fun g hg => ?_⟩, h4.then q3 (fun k hk => Or.inr ?_), h5.kept q3 ?_, fun D hD => (q5 0).same _ _ (Nat.zero_le _) (h6 D hD) rfl, by have := q3.size; omega⟩
        · rw [hl]; exact q1
        · rw [hl, hfm]; exact q2
        · rw [hl] at hg
          rcases r3 g hg with h | h
          · exact h3 g h
          · have := h4.size; omega
        · rcases hk with rfl | ⟨v', hv', hk⟩
          · exact Nat.le_refl _
          · rw [hc] at hv'
            cases hv'
            have := h3 k hk
            omega
        · rintro (h | ⟨v', hv', hk⟩)
          · omega
          · rw [hc] at hv'
            cases hv'
            exact hownP hk
      case done =>
        clear hst rO2 bO2 bP2 bN
        rintro D ys' W' hD rfl ⟨⟨ao, c, h1, h2, h3⟩, h4, h5, h6, h7⟩ hK
        have hp := h5.cell 0 rfl
        have hh : HeadA W (W'.alloc (.cells #[.int .i64 ((q : Int) - 1)] 3)) st q W.heap.size W'.heap.size (D :: Ds) := by
          refine ⟨h4.alloc _, Blk.new W' _ _, by omega, ⟨ao, c, ?_, ?_, ?_⟩, List.nodup_cons.2 ⟨fun hDs => ?_, hnd⟩, fun E hE => ?_⟩
          · rw [hab, List.length_append, List.length_map]; exact h1.alloc _
          · rw [hab, List.length_append, List.length_map]; exact row_alloc h2 _
          · rw [hab, List.length_append, List.length_map]; exact h3
          · have := (Array.getElem?_eq_some_iff.1 (mk2 D hDs).2).1; omega
          · have hE' : W.heap.size ≤ E ∧ W'.heap[E]? = some (.deferred (some [])) := by
              rcases List.mem_cons.1 hE with rfl | hE
              · exact ⟨by omega, hK⟩
              · exact ⟨(mk2 E hE).1, h6 E hE⟩
            exact ⟨hE'.1, (Below.heap_alloc _ _ _ ((Array.getElem?_eq_some_iff.1 hE'.2).1)).trans hE'.2⟩
        have hmu := fun u8 u9 u10 u11 u12 u13 u14 u15 u23 => muA_at (l := l) (Bn := Bn) (u8 := u8) (u9 := u9) (u10 := u10) (u11 := u11) (u12 := u12) (u13 := u13) (u14 := u14) (u15 := u15) (u23 := u23) (Ds := D :: Ds) hh
        have HH := Lib.hid hh
        have HM := Lib.hid hmu
        clear hh hmu
        gi_wp2
        refine ⟨⟨q, W'.heap.size, _, _, _, _, _, _, _, _, _, D :: Ds, rfl, by omega, HH.out⟩, Nat.lt_succ_of_le (Nat.le_of_eq (HM.out _ _ _ _ _ _ _ _ _))⟩
      case stop =>
        rintro D c pre W _ _ h _
        exact h.elim

/-- All's iterator -/
theorem qall_stops {a : Option Addr} {rpf : Int → Option Addr} (n Bn : Nat) (ft : World → Nat → Prop) (w : World) (hn : 2 ≤ n) (hft : ∀ A B : World, w.heap.size ≤ A.heap.size → Kept (fun _ => False) A B → ∀ k, ft B k → ft A k) (hft0 : ∀ W', Below w.heap.size w W' → ∀ k, ft W' k → k < w.heap.size)
    (hB : Bn < w.heap.size) (hBn : w.cell? ⟨Bn, 0, none⟩ = some (.pointer a)) (hs : AtQ w a rpf st) :
    SeqStopsW Fence.wide n Try.prog 34 #[.pointer (some ⟨Bn, 0, none⟩)] (fun x : Int × Int => #[.agg #[.int .i64 x.1, .int .i64 x.2]]) (Keeps ft) (fun ys => ys = allQ st) (fun pre => pre <+: allQ st) (allQ st).length w :=
  fun l J Jx W hW hJ hX hY h0 =>
    qall1_in n l Bn ft J Jx hn W (fun A B hA => hft A B (Nat.le_trans hW.size hA)) (fun k hk => Nat.lt_of_lt_of_le (hft0 W hW k hk) hW.size) hJ hX hY h0 ((hW.cell (p := ⟨Bn, 0, none⟩) hB).trans hBn) (hs.below hW)

theorem qall_ok (a : Option Addr) (w : World) : Calls Try.prog 13 #[.pointer a] w fun e w' =>
    e = .returned (.func (.func 34) #[] #[.pointer (some ⟨w.heap.size, 0, none⟩)]) ∧ w' = w.alloc (.cells #[.pointer a] 24) := by
  have hmf : ∀ (fn : Fn) (first cap : Array Value) (w : World), (Instr.makeFunc fn first cap).run Try.prog w = .ok (.func fn first cap) w := fun _ _ _ _ => rfl
  go_enter Try.func13, Try.ntmps13
  go_wp2
  go_ret
  exact ⟨rfl, rfl⟩
end
end Go.Proofs.Ytdjdnfjfomeldaa.QD
