/- P16.7, the walk. -/
import Derived.Test.YtialldmepphloaaComT
import Derived.Test.YtialldmepphloaaCkG
import Derived.Test.YtialldmepphloaaArgs
namespace Go.Proofs.Ytialldmepphloaa.clockComingW
open Go.RowKit Go.Fr Go.Proofs.Ytialldmepphloaa.CK Go.Proofs.Ytialldmepphloaa.L

theorem u8_nat {a : Int} (h : (Lit.int .u8 a).wf = true) : ∃ n : Nat, a = n ∧ n ≤ 255 := by
  have hx : 0 ≤ a ∧ a ≤ 255 := by simpa [Lit.wf, IntKind.min, IntKind.max, IntKind.signed, IntKind.bits] using h
  exact ⟨a.toNat, by omega, by omega⟩

/-- the clock, and what has been written since w1 -/
structure Rn (w1 wr : World) (b : Nat) (v : Value) (mx mn x : Nat) (L : List (Bool × Nat × Nat)) : Prop where
  clk : IsClk wr b v mx mn x L
  kept : Kept (foot b v) w1 wr
theorem Rn.same {w1 wr wf : World} {b mx mn x : Nat} {v : Value} {L : List (Bool × Nat × Nat)} (h : Rn w1 wr b v mx mn x L) (k : Kept (fun _ => False) wr wf) : Rn w1 wf b v mx mn x L :=
  ⟨h.clk.kept k (fun _ _ h => h), h.kept.then k (fun _ h => False.elim h)⟩
theorem Rn.step {w1 wr wa wf : World} {b mx mn x x' : Nat} {v : Value} {L L' : List (Bool × Nat × Nat)} (h : Rn w1 wr b v mx mn x L) (ka : Kept (fun _ => False) wr wa) (hc : IsClk wf b v mx mn x' L') (k : Kept (foot b v) wa wf) : Rn w1 wf b v mx mn x' L' :=
  ⟨hc, (h.kept.then ka (fun _ h => False.elim h)).then k (fun _ h => Or.inl h)⟩

/-- the list that was told stands, and the clock runs -/
structure Tl (w1 wr : World) (b : Nat) (v : Value) (mx mn x : Nat) (L : List (Bool × Nat × Nat)) (lv : Value) (D : List (Nat × Nat)) : Prop where
  rn : Rn w1 wr b v mx mn x L
  row : Row wr 53 2 lv D.length (D.flatMap encX)
  ap : ∀ g, lv.ownBlock = some g → ¬ foot b v g
theorem Tl.same {w1 wr wf : World} {b mx mn x : Nat} {v lv : Value} {L : List (Bool × Nat × Nat)} {D : List (Nat × Nat)} (h : Tl w1 wr b v mx mn x L lv D) (k : Kept (fun _ => False) wr wf) : Tl w1 wf b v mx mn x L lv D :=
  ⟨h.rn.same k, row_kept h.row k (fun _ _ h => h), h.ap⟩
theorem Tl.tick {w1 wr wf : World} {b mx mn x x' : Nat} {v lv : Value} {L L' : List (Bool × Nat × Nat)} {D : List (Nat × Nat)} (h : Tl w1 wr b v mx mn x L lv D) (hc : IsClk wf b v mx mn x' L') (k : Kept (foot b v) wr wf) : Tl w1 wf b v mx mn x' L' lv D :=
  ⟨h.rn.step (Kept.refl _ _) hc k, row_kept h.row k (fun g hg e => h.ap g hg e), h.ap⟩
theorem Tl.cells {w1 wr : World} {b mx mn x N c : Nat} {v : Value} {ao : Option Addr} {L : List (Bool × Nat × Nat)} {D : List (Nat × Nat)} (hN : N = D.length) (h : Tl w1 wr b v mx mn x L (.slice ao N c) D) {k p q : Nat} (hx : D[k]? = some (p, q)) :
    ∃ g, ao = some ⟨g, 0, none⟩ ∧ wr.cell? ⟨g, k * 2, none⟩ = some (.int .u64 p) ∧ wr.cell? ⟨g, k * 2 + 1, none⟩ = some (.int .i64 q) := by
  subst hN
  have hk := (List.getElem?_eq_some_iff.1 hx).1
  have ha := h.row
  rcases row_forms ha with ⟨_, h0⟩ | ⟨g, c1, hv, _⟩
  · omega
  simp only [Value.slice.injEq] at hv
  obtain ⟨rfl, _, rfl⟩ := hv
  exact ⟨g, rfl, rows_cell (i := 0) encX_len ha hx rfl, rows_cell (i := 1) encX_len ha hx rfl⟩

set_option maxRecDepth 100000 in
set_option maxHeartbeats 8000000 in
theorem walk (w : World) (nm0 : ByteArray) (mx0 : Int) (wmx0 : (Lit.int .u32 mx0).wf = true) (bs0 : Int) (wbs0 : (Lit.int .u32 bs0).wf = true) (mn0 : Int) (wmn0 : (Lit.int .u32 mn0).wf = true)
    (a1 : Option Addr) (cap1 : Nat) (l1 : List (Int × Int × Int × Int)) (hl1 : l1.length ≤ cap1) (hm1 : cap1 ≤ maxLen) (hc1 : CameL w 4 (encKKKK .i64 .i64 .u32 .u32) a1 l1)
    (hw1 : ∀ x ∈ l1, (Lit.int .i64 x.1).wf = true ∧ (Lit.int .i64 x.2.1).wf = true ∧ (Lit.int .u32 x.2.2.1).wf = true ∧ (Lit.int .u32 x.2.2.2).wf = true)
    (a2 : Int) (w2 : (Lit.int .u8 a2).wf = true) :
    Calls Try.prog 7 #[.agg #[.string nm0, .int .u32 mx0, .int .u32 bs0, .int .u32 mn0], .slice a1 l1.length cap1, .int .u8 a2] w fun e w' => e = .returned (.bool true) ∧ Below w.heap.size w w' := by
  obtain ⟨mx, rfl, hmx⟩ := u32_nat wmx0
  obtain ⟨bs, rfl, hbs⟩ := u32_nat wbs0
  obtain ⟨mn, rfl, hmn⟩ := u32_nat wmn0
  obtain ⟨M, rfl, hM⟩ := u8_nat w2
  unfold maxLen at hm1
  clear wmx0 wbs0 wmn0 w2
  have HC := Lib.hid hc1
  have HW := Lib.hid hw1
  clear hc1 hw1
  have kx := (Kept.refl (fun _ => False) w).alloc (.cells #[.string nm0, .int .u32 mx, .int .u32 bs, .int .u32 mn] 33)
  have KX := Lib.hid kx
  clear kx
  by_cases hbad : (mx : Int) < 1 ∨ 2147483647 < (mx : Int) ∨ (mn : Int) < 1 ∨ (mx : Int) < mn ∨ (4 : Int) < 0 ∨ 64 < (4 : Int)
  · go_enter Try.func7, Try.ntmps7
    go_wp2_with fail
    refine (new_no nm0 mx bs mn 4 _ hbad).mono ?_
    rintro e w1 ⟨rfl, k1⟩
    go_wp2_with (go_at_call 18; refine (alive_law _).mono ?_; rintro e w9 ⟨rfl, k9⟩)
    go_ret
    exact ⟨rfl, ((KX.out.then k1 (fun _ h => Or.inl h)).then k9 (fun _ h => Or.inl h)).below (Nat.le_refl _) (fun _ h => False.elim h)⟩
  · have h1 : 1 ≤ mx ∧ mx ≤ 2147483647 := by omega
    have h2 : 1 ≤ mn ∧ mn ≤ mx := by omega
    clear hbad
    go_enter Try.func7, Try.ntmps7
    go_wp2_with fail
    refine (new_ok nm0 mx bs mn 4 _ h1 h2 hbs (by omega)).mono ?_
    rintro e w1 ⟨b, v, rfl, c1, f1, k1⟩
    have zz : (w.alloc (.cells #[.string nm0, .int .u32 mx, .int .u32 bs, .int .u32 mn] 33)).heap.size = w.heap.size + 1 := World.size_alloc _ _
    rw [zz] at f1
    have K1 := Lib.hid (KX.out.then k1 (fun _ h => Or.inl h))
    have HF : Hid (∀ i, foot b v i → w.heap.size ≤ i) := fun i h => by have := f1 i h; omega
    have R0 : Hid (Rn w1 w1 b v mx mn 0 (List.replicate 4 (false, 0, 0))) := ⟨c1, Kept.refl _ _⟩
    clear zz c1 f1 k1 h1 h2 KX
    have bel : ∀ (wr : World) (x : Nat) (L : List (Bool × Nat × Nat)), Rn w1 wr b v mx mn x L → Below w.heap.size w wr := fun _ _ _ h => (K1.out.then h.kept (S' := foot b v) (fun i hi => Or.inr (HF.out i hi))).below (Nat.le_refl _) (fun _ h => False.elim h)
    have BEL := Lib.hid bel
    clear bel
    go_wp2_with fail
    go_loopw [9] (fun i wr => ∃ (k x : Nat) (L : List (Bool × Nat × Nat)), k ≤ l1.length ∧ i = .int .i64 k ∧ L.length = 4 ∧ Hid (Rn w1 wr b v mx mn x L)) (fun i _ => l1.length - (intOf i).toNat)
    case atStart => exact ⟨0, 0, _, Nat.zero_le _, rfl, by simp, R0⟩
    case round =>
      clear R0
      obtain ⟨k, x, L, hk, rfl, hL, hR⟩ := hrel
      by_cases hlt : k < l1.length
      · obtain ⟨x1, x2, t, cy, hx, v1, v2, ht, hcy⟩ := four_at HW.out hlt
        obtain ⟨ab, off, rfl, hab, e1, e2, e3, e4⟩ := elem_four HC.out (BEL.out _ _ _ hR.out) hx
        have hk0 : (0 : Int) ≤ (k : Int) := Int.natCast_nonneg _
        have hk1 : (k : Int) < (l1.length : Int) := by omega
        have kb := (Kept.refl (fun _ => False) wr).alloc (.cells #[.int .i64 x1, .int .i64 x2, .int .u32 t, .int .u32 cy] 47)
        have hcl := hR.out.clk.kept kb (fun _ _ h => h)
        clear hx
        by_cases g1 : x1 = 1
        · subst g1
          have hc := rel_all x2 (t % 50) (cy % 50) (by omega) hcl
          go_wp2_with (go_at_call 23; refine hc.mono ?_; rintro e w5 ⟨rfl, c5, k5⟩)
          go_roundw
          case rel => exact ⟨k + 1, _, _, by omega, by go_num, by rw [putL_length]; exact hL, hR.out.step kb c5 k5⟩
          case measure => simp [intOf]; omega
        by_cases g2 : x1 = 2
        · subst g2
          have hc := abs_all x2 t (cy % 50) (by omega) hcl
          go_wp2_with (go_at_call 22; refine hc.mono ?_; rintro e w5 ⟨rfl, c5, k5⟩)
          go_roundw
          case rel => exact ⟨k + 1, _, _, by omega, by go_num, by rw [putL_length]; exact hL, hR.out.step kb c5 k5⟩
          case measure => simp [intOf]; omega
        by_cases g5 : x1 = 5
        · subst g5
          have hc := tick_ok hcl
          go_wp2_with (go_at_call 20; refine hc.mono ?_; rintro e w5 ⟨ao5, d5, rfl, c5, k5, _, _⟩)
          go_roundw
          case rel => exact ⟨k + 1, _, _, by omega, by go_num, by rw [List.length_map]; exact hL, hR.out.step kb c5 k5⟩
          case measure => simp [intOf]; omega
        go_wp2
        go_roundw
        case rel => exact ⟨k + 1, _, _, by omega, by go_num, hL, hR.out.same kb⟩
        case measure => simp [intOf]; omega
      · have hcm := coming_ok hR.out.clk (M : Int) (by simp [Lit.wf, IntKind.min, IntKind.max, IntKind.signed, IntKind.bits]; omega)
        have hmm : (min (M : Int) 65536).toNat = M := by omega
        rw [hmm] at hcm
        have hdue := Due.start M L
        have hDM : ((Com.comingL M L 0).take M).length ≤ M := by rw [List.length_take]; omega
        obtain ⟨D, hD⟩ : ∃ D, (Com.comingL M L 0).take M = D := ⟨_, rfl⟩
        rw [hD] at hdue hDM
        simp only [hD] at hcm
        have HDue : Hid (Due M D L 0 0 ∨ (0 = D.length ∧ D.length = M)) := Or.inl hdue
        clear hD hdue hmm
        go_wp2_with fail
        refine hcm.mono ?_
        rintro e w3 ⟨ao, c, rfl, r3, k3, o3⟩
        have T0 : Hid (Tl w1 w3 b v mx mn x L (.slice ao D.length c) D) := ⟨hR.out.same k3, r3, fun g hg e => by have := o3 g hg; have := hR.out.clk.lt g e; omega⟩
        clear hcm r3 k3 o3 hR
        obtain ⟨N, hN⟩ : ∃ N, D.length = N := ⟨_, rfl⟩
        have HN := Lib.hid hN.symm
        rw [hN] at T0 hDM
        simp only [hN]
        clear hN
        go_wp2_with fail
        go_loopg [12, 13, 14] 3000 (fun gh nn kk tt wx => ∃ (T k x : Nat) (L : List (Bool × Nat × Nat)), gh = 3000 - T ∧ T ≤ 3000 ∧ k ≤ N ∧ nn = .int .u64 T ∧ kk = .int .i64 k ∧ tt = .int .u64 ((T : Int) + 1) ∧ L.length = 4 ∧ Hid (Tl w1 wx b v mx mn x L (.slice ao N c) D) ∧ Hid (Due M D L T k ∨ (k = D.length ∧ D.length = M)))
        case atStart => exact ⟨0, 0, x, L, rfl, by omega, Nat.zero_le _, rfl, rfl, rfl, hL, T0, HDue⟩
        case round =>
          clear T0 HDue
          obtain ⟨T, k, x, L, rfl, hT3, hkN, rfl, rfl, rfl, hL, hT, hD⟩ := hrel
          have hk0 : (0 : Int) ≤ (k : Int) := Int.natCast_nonneg _
          have hset := hT.out.rn.clk.2.2.2.hset
          by_cases hgo : T < 3000 ∧ k < N
          · have d1 : decide ((T : Int) + 1 ≤ 3000) = true := by simp; omega
            have d2 : decide ((k : Int) < (N : Int)) = true := by simp; omega
            have hDu : Due M D L T k := hD.out.resolve_right (fun h => by have := HN.out; omega)
            have htk := tick_ok hT.out.rn.clk
            obtain ⟨m, hm⟩ : ∃ m, fired L 0 = m := ⟨_, rfl⟩
            have hat : ∀ (i : Nat) (y : Int), m[i]? = some y → k + i < D.length → D[k + i]? = some (T + 1, y.toNat) := fun i y hy hi => hDu.at (by have := HN.out; omega) hset (by rw [hm]; exact hy) hi
            have hpos : ∀ y ∈ m, 0 ≤ y := fun y hy => by rw [← hm] at hy; have := fired_mem L 0 y hy; omega
            have hnx : ∀ k', (k' = D.length ∨ k' = k + m.length) → k' ≤ k + m.length → k' ≤ D.length → (Due M D (L.map tick1) (T + 1) k' ∨ (k' = D.length ∧ D.length = M)) := fun k' q1 q2 q3 => hDu.next (by have := HN.out; omega) (by have := HN.out; omega) hset (by rw [hm]; exact q1) (by rw [hm]; exact q2) q3
            have hml : m.length ≤ 4 := by rw [← hm, ← hL]; exact fired_length L 0
            rw [hm] at htk
            clear hm hDu hD hset
            obtain ⟨x', hx'⟩ : ∃ x', after mx x 1 = x' := ⟨_, rfl⟩
            rw [hx'] at htk
            clear hx'
            have hl4 : (L.map tick1).length = 4 := by rw [List.length_map]; exact hL
            obtain ⟨L', hL'⟩ : ∃ L', L.map tick1 = L' := ⟨_, rfl⟩
            rw [hL'] at htk hl4
            simp only [hL'] at hnx
            clear hL'
            go_wp2_with fail
            refine htk.mono ?_
            rintro e w4 ⟨am, cm, rfl, c4, k4, r4, o4⟩
            have HT4 : Hid (Tl w1 w4 b v mx mn x' L' (.slice ao N c) D ∧ Row w4 3 1 (.slice am m.length cm) m.length (m.map (Value.int .i64))) := ⟨hT.out.tick c4 k4, r4⟩
            have HAT := Lib.hid hat
            have HNX := Lib.hid hnx
            have HPOS := Lib.hid hpos
            clear htk c4 k4 r4 o4 hT hat hnx hpos d1 d2
            go_wp2_with fail
            go_loopg [13, 16] m.length (fun gh kk ii wx => ∃ i : Nat, gh = m.length - i ∧ i ≤ m.length ∧ k + i ≤ N ∧ kk = .int .i64 ((k : Int) + i) ∧ ii = .int .i64 i ∧ Hid (Tl w1 wx b v mx mn x' L' (.slice ao N c) D ∧ Row wx 3 1 (.slice am m.length cm) m.length (m.map (Value.int .i64))))
            case atStart => exact ⟨0, rfl, Nat.zero_le _, by omega, by simp, rfl, HT4⟩
            case round =>
              clear HT4
              obtain ⟨i, rfl, hi, hki, rfl, rfl, hT⟩ := hrel
              by_cases hgo2 : i < m.length ∧ k + i < N
              · have d1 : decide ((i : Int) < (m.length : Int)) = true := by simp; omega
                have d2 : decide ((k : Int) + (i : Int) < (N : Int)) = true := by simp; omega
                obtain ⟨y, hy⟩ : ∃ y, m[i]? = some y := ⟨_, List.getElem?_eq_getElem hgo2.1⟩
                have hDk := HAT.out i y hy (by have := HN.out; omega)
                have hy0 := HPOS.out y (List.mem_of_getElem? hy)
                obtain ⟨p, rfl⟩ := Int.eq_ofNat_of_zero_le hy0
                obtain ⟨g, rfl, y0, y1⟩ := hT.out.1.cells HN.out hDk
                have hrm := hT.out.2
                rcases row_forms hrm with ⟨_, h0⟩ | ⟨g2, cm2, hv2, _⟩
                · omega
                cases hv2
                have z0 := row_cell hrm i (by rw [List.getElem?_map, hy]; rfl)
                have hki0 : (0 : Int) ≤ (k : Int) + (i : Int) := by omega
                have hki1 : (k : Int) + (i : Int) < (N : Int) := by omega
                have hi0 : (0 : Int) ≤ (i : Int) := by omega
                have hi1 : (i : Int) < (m.length : Int) := by omega
                obtain ⟨q, hq⟩ : ∃ q : Nat, k + i = q := ⟨_, rfl⟩
                have hqi : (k : Int) + (i : Int) = (q : Int) := by omega
                rw [hq] at y0 y1
                rw [hqi] at hki0 hki1 d2 ⊢
                simp only [Int.toNat_natCast] at y1
                have e1 : (((T + 1 : Nat) : Int) == ((T : Int) + 1)) = true := by simp
                have e2 : ((p : Int) == (p : Int)) = true := by simp
                push_cast at y0
                have hwq : q ≤ 255 := by omega
                clear hrm hDk hy hy0 hq
                go_upto_region 25 with fail
                go_quiet (fail)
                go_wp2
                go_roundg (m.length - (i + 1))
                case measure => omega
                case rel => exact ⟨i + 1, rfl, by omega, by omega, by have := hqi; go_num, by go_num, ⟨hT.out.1.same ((Kept.refl (fun _ => False) _).same rfl rfl rfl rfl), row_kept hT.out.2 ((Kept.refl (fun _ => False) _).same rfl rfl rfl rfl) (fun _ _ h => h)⟩⟩
              · have hD2 := HNX.out (k + i) (by have := HN.out; omega) (by omega) (by have := HN.out; omega)
                have HD2 := Lib.hid hD2
                have HT := Lib.hid hT.out.1
                have hwT : IntKind.u64.wrap ((T : Int) + 1 + 1) = (T : Int) + 1 + 1 := IntWalk.u64_in _ (by omega)
                clear hD2 hT
                by_cases hi2 : i < m.length
                · have d1 : decide ((i : Int) < (m.length : Int)) = true := by simp; omega
                  have d2 : decide ((k : Int) + (i : Int) < (N : Int)) = false := by simp; omega
                  go_wp2
                  go_roundg (3000 - (T + 1))
                  case measure => omega
                  case rel => exact ⟨T + 1, k + i, x', L', rfl, by omega, hki, by go_num, by go_num, by go_num, hl4, HT, HD2⟩
                · have d1 : decide ((i : Int) < (m.length : Int)) = false := by simp; omega
                  go_wp2
                  go_roundg (3000 - (T + 1))
                  case measure => omega
                  case rel => exact ⟨T + 1, k + i, x', L', rfl, by omega, hki, by go_num, by go_num, by go_num, hl4, HT, HD2⟩
          · have hbel := BEL.out _ _ _ hT.out.rn
            have HB := Lib.hid hbel
            clear hbel
            have d3 : decide ((M : Int) < (N : Int)) = false := by simp; omega
            have d3n : decide (M < N) = false := by simp; omega
            by_cases hkN2 : k < N
            · have d1 : decide ((T : Int) + 1 ≤ 3000) = false := by simp; omega
              have d2 : decide ((k : Int) < (N : Int)) = true := by simp; omega
              have hk1 : (k : Int) < (N : Int) := by omega
              have hDu : Due M D L T k := hD.out.resolve_right (fun h => by have := HN.out; omega)
              obtain ⟨⟨p1, p2⟩, hp⟩ : ∃ p, D[k]? = some p := ⟨_, List.getElem?_eq_getElem (by have := HN.out; omega)⟩
              have hlate := hDu.late hset hp
              simp only at hlate
              obtain ⟨g, rfl, y0, y1⟩ := hT.out.cells HN.out hp
              have d4 : decide ((p1 : Int) ≤ (T : Int)) = false := by simp; omega
              have d5 : ((k : Int) == (N : Int)) = false := by simp; omega
              have d6 : ¬ ((k : Int) = (N : Int)) := by omega
              clear hDu hp hT hset hD
              go_wp2_with (go_at_call 18; refine (alive_law _).mono ?_; rintro e w9 ⟨rfl, k9⟩)
              go_ret
              exact ⟨rfl, HB.out.trans (k9.below HB.out.size (fun _ h => False.elim h))⟩
            · obtain rfl : k = N := by omega
              have d2 : decide ((k : Int) < (k : Int)) = false := by simp
              have fin : ∀ (wq : World), Below w.heap.size w wq → Calls Try.prog 18 #[] wq fun e w' => e = .returned (.bool true) ∧ Below w.heap.size w w' := fun wq hq => (alive_law wq).mono (by rintro e w' ⟨rfl, k9⟩; exact ⟨rfl, hq.trans (k9.below hq.size (fun _ h => False.elim h))⟩)
              have HFin := Lib.hid fin
              clear fin
              by_cases hNM : k < M
              · have d5 : decide ((k : Int) < (M : Int)) = true := by simp; omega
                have hDu : Due M D L T k := hD.out.resolve_right (fun h => by have := HN.out; omega)
                have hno := hDu.none HN.out (by have := HN.out; omega)
                have hst : ∀ i : Nat, i < 4 → ofS L (i : Int) = 5 := fun i hi => by
                  obtain ⟨a, ha⟩ : ∃ a, L[i]? = some a := ⟨_, List.getElem?_eq_getElem (by omega)⟩
                  rw [(of_at ha).2, hno a (List.mem_of_getElem? ha)]
                  rfl
                have HST := Lib.hid hst
                have HR : Hid (Rn w1 wr b v mx mn x L) := hT.out.rn
                clear hDu hno hst hT hD hset
                by_cases hTT : T < 3000
                · have d1 : decide ((T : Int) + 1 ≤ 3000) = true := by simp; omega
                  go_wp2_with fail
                  go_loopw [17, 18] (fun i _ wq => ∃ j : Nat, j ≤ 4 ∧ i = .int .i64 j ∧ Hid (Rn w1 wq b v mx mn x L)) (fun i _ _ => 4 - (intOf i).toNat)
                  case atStart => exact ⟨0, by omega, rfl, HR⟩
                  case round =>
                    clear HR
                    obtain ⟨j, hj, rfl, hR⟩ := hrel
                    by_cases hj4 : j < 4
                    · have hl := left_ok (j : Int) hR.out.clk
                      rw [HST.out j hj4] at hl
                      have q1 : decide ((j : Int) < 4) = true := by simp; omega
                      go_wp2_with fail
                      refine hl.mono ?_
                      rintro e w5 ⟨rfl, k5⟩
                      go_wp2
                      go_roundw
                      case rel => exact ⟨j + 1, by omega, by go_num, hR.out.same k5⟩
                      case measure => simp [intOf]; omega
                    · obtain rfl : j = 4 := by omega
                      go_wp2_with fail
                      refine (HFin.out _ (BEL.out _ _ _ hR.out)).mono ?_
                      rintro e w9 ⟨rfl, k9⟩
                      go_wp2
                      go_ret
                      exact ⟨rfl, k9⟩
                · have d1 : decide ((T : Int) + 1 ≤ 3000) = false := by simp; omega
                  go_wp2_with fail
                  go_loopw [17, 18] (fun i _ wq => ∃ j : Nat, j ≤ 4 ∧ i = .int .i64 j ∧ Hid (Rn w1 wq b v mx mn x L)) (fun i _ _ => 4 - (intOf i).toNat)
                  case atStart => exact ⟨0, by omega, rfl, HR⟩
                  case round =>
                    clear HR
                    obtain ⟨j, hj, rfl, hR⟩ := hrel
                    by_cases hj4 : j < 4
                    · have hl := left_ok (j : Int) hR.out.clk
                      rw [HST.out j hj4] at hl
                      have q1 : decide ((j : Int) < 4) = true := by simp; omega
                      go_wp2_with fail
                      refine hl.mono ?_
                      rintro e w5 ⟨rfl, k5⟩
                      go_wp2
                      go_roundw
                      case rel => exact ⟨j + 1, by omega, by go_num, hR.out.same k5⟩
                      case measure => simp [intOf]; omega
                    · obtain rfl : j = 4 := by omega
                      go_wp2_with fail
                      refine (HFin.out _ (BEL.out _ _ _ hR.out)).mono ?_
                      rintro e w9 ⟨rfl, k9⟩
                      go_wp2
                      go_ret
                      exact ⟨rfl, k9⟩
              · have d5 : decide ((k : Int) < (M : Int)) = false := by simp; omega
                clear hT hD hset
                by_cases hTT : T < 3000
                · have d1 : decide ((T : Int) + 1 ≤ 3000) = true := by simp; omega
                  go_wp2_with fail
                  refine (HFin.out _ HB.out).mono ?_
                  rintro e w9 ⟨rfl, k9⟩
                  go_wp2
                  go_ret
                  exact ⟨rfl, k9⟩
                · have d1 : decide ((T : Int) + 1 ≤ 3000) = false := by simp; omega
                  go_wp2_with fail
                  refine (HFin.out _ HB.out).mono ?_
                  rintro e w9 ⟨rfl, k9⟩
                  go_wp2
                  go_ret
                  exact ⟨rfl, k9⟩
end Go.Proofs.Ytialldmepphloaa.clockComingW
