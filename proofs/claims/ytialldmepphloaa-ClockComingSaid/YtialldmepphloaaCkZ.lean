/- The document's clock: Coming. -/
import Derived.Test.YtialldmepphloaaCkY
import Derived.Test.YtialldmepphloaaClkE
import Derived.Test.YtialldmepphloaaComM
import Derived.BigQuiet
import Derived.Deep.LoopGhost
import Derived.Deep.CutBlock
namespace Go.Proofs.Ytialldmepphloaa.CR
open Go.RowKit Go.Fr Go.Proofs.Ytialldmepphloaa.CK

theorem row_spot {w : World} {aA : Option Addr} {cA N k : Nat} {A : List (Bool × Nat × Nat)} {s : Bool} {lf cy : Nat} (h : Row w 87 3 (.slice aA N cA) N (A.flatMap encA)) (hA : A.length = N) (hx : A[k]? = some (s, lf, cy)) :
    ∃ g, aA = some ⟨g, 0, none⟩ ∧ w.cell? ⟨g, k * 3, none⟩ = some (.bool s) ∧ w.cell? ⟨g, k * 3 + 1, none⟩ = some (.int .u64 lf) ∧ w.cell? ⟨g, k * 3 + 2, none⟩ = some (.int .u32 cy) ∧
    w.frozen? ⟨g, k * 3, none⟩ = false ∧ w.frozen? ⟨g, k * 3 + 1, none⟩ = false ∧ w.frozen? ⟨g, k * 3 + 2, none⟩ = false := by
  have hk := (List.getElem?_eq_some_iff.1 hx).1
  rcases row_forms h with ⟨_, h0⟩ | ⟨g, c, hv, _, _, hg⟩
  · omega
  · simp only [Value.slice.injEq] at hv
    obtain ⟨rfl, _, rfl⟩ := hv
    exact ⟨g, rfl, rows_cell (i := 0) encA_len h hx rfl, rows_cell (i := 1) encA_len h hx rfl, rows_cell (i := 2) encA_len h hx rfl, row_frozen h _, row_frozen h _, row_frozen h _⟩

/-- the reckoning of what comes, under way -/
structure Cm (w wr : World) (vA r : Value) (M : Nat) (A0 A : List (Bool × Nat × Nat)) (O : List (Nat × Nat)) : Prop where
  ra : Row wr 87 3 vA A.length (A.flatMap encA)
  ro : Row wr 53 2 r O.length (O.flatMap encX)
  fa : ∀ g, vA.ownBlock = some g → w.heap.size ≤ g ∧ r.ownBlock ≠ some g
  fo : ∀ g, r.ownBlock = some g → w.heap.size ≤ g
  kept : Kept (fun _ => False) w wr
  spec : Com.refRun M A0 = O ++ Com.refRun (M - O.length) (A.map Com.norm)
  le : O.length ≤ M
  bl : ∀ a ∈ A, a.2.1 ≤ (O.length + 1) * 4294967296
  bc : ∀ a ∈ A, a.2.2 ≤ 2147483647

theorem Cm.same {w wr wf : World} {vA r : Value} {M : Nat} {A0 A : List (Bool × Nat × Nat)} {O : List (Nat × Nat)} (h : Cm w wr vA r M A0 A O) (k : Kept (fun _ => False) wr wf) : Cm w wf vA r M A0 A O :=
  { h with ra := row_kept h.ra k (fun _ _ h => h), ro := row_kept h.ro k (fun _ _ h => h), kept := h.kept.then k (fun _ h => False.elim h) }

/-- one more is told, and its alarm is set on -/
theorem Cm.next {w wr wc : World} {g N cA k lf cy : Nat} {r r' : Value} {M : Nat} {A0 A : List (Bool × Nat × Nat)} {O : List (Nat × Nat)} (h : Cm w wr (.slice (some ⟨g, 0, none⟩) N cA) r M A0 A O) (hA : A.length = N) (hO : O.length < M)
    (hx : A[k]? = some (true, lf, cy)) (hm : Com.am A = some (k, lf)) (ha : Row wc 87 3 (.slice (some ⟨g, 0, none⟩) N cA) N (A.flatMap encA))
    (hr : Row wc 53 2 r' (O.length + 1) (O.flatMap encX ++ encX (lf, k))) (hf : ∀ i, r'.ownBlock = some i → w.heap.size ≤ i ∧ i ≠ g) (hk : Kept (fun _ => False) w wc) :
    Cm w ((wc.setCell ⟨g, k * 3, none⟩ (.bool (decide (0 < cy)))).setCell ⟨g, k * 3 + 1, none⟩ (.int .u64 ((lf + cy : Nat) : Int))).drew (.slice (some ⟨g, 0, none⟩) N cA) r' M A0 (A.set k (decide (0 < cy), lf + cy, cy)) (O ++ [(lf, k)]) := by
  have hkl := (List.getElem?_eq_some_iff.1 hx).1
  have hg := (h.fa g rfl).1
  have hne : r'.ownBlock ≠ some g := fun e => (hf g e).2 rfl
  have hb : lf + cy ≤ (O.length + 1 + 1) * 4294967296 := by
    have b1 := h.bl _ (List.mem_of_getElem? hx)
    have b2 := h.bc _ (List.mem_of_getElem? hx)
    simp only at b1 b2
    omega
  have hlenO : (O ++ [(lf, k)]).length = O.length + 1 := by simp
  have r1 := rows_set (k := k) (i := 0) encA_len ha (decide (0 < cy), lf, cy) (u := .bool (decide (0 < cy))) hx (by decide) rfl
  have r2 := rows_set (k := k) (i := 1) (x := (decide (0 < cy), lf, cy)) encA_len r1 (decide (0 < cy), lf + cy, cy) (u := .int .u64 ((lf + cy : Nat) : Int)) (by rw [List.getElem?_set_self hkl]) (by decide) rfl
  rw [List.set_set] at r2
  refine { ra := by rw [List.length_set, hA]; exact r2, ro := ?_, fa := fun i hi => ?_, fo := fun i hi => (hf i hi).1, kept := ?_, spec := ?_, le := by rw [hlenO]; omega, bl := ?_, bc := ?_ }
  · rw [hlenO, encX_snoc]
    exact row_setCell_other (row_setCell_other hr (a := ⟨g, k * 3, none⟩) hne _) (a := ⟨g, k * 3 + 1, none⟩) hne _
  · simp [Value.ownBlock] at hi; subst hi; exact ⟨hg, hne⟩
  · exact ((hk.then ((Kept.refl (fun i => i = g) wc).setCell (p := ⟨g, k * 3, none⟩) (Or.inl rfl) _) (fun i hi => Or.inr (by omega))).then ((Kept.refl (fun i => i = g) _).setCell (p := ⟨g, k * 3 + 1, none⟩) (Or.inl rfl) _) (fun i hi => Or.inr (by omega))).drew
  · rw [h.spec, List.append_assoc, List.singleton_append]
    refine congrArg (O ++ ·) ?_
    have e1 : M - O.length = (M - (O ++ [(lf, k)]).length) + 1 := by rw [hlenO]; omega
    rw [e1, Com.refRun, Com.am_norm, hm]
    simp only
    rw [Com.upd_norm hx rfl, show Com.nxr (true, lf, cy) = (decide (0 < cy), lf + cy, cy) from rfl]
  · rw [hlenO]
    intro a ha
    rcases List.mem_or_eq_of_mem_set ha with h1 | rfl
    · exact Nat.le_trans (h.bl a h1) (Nat.mul_le_mul_right _ (by omega))
    · exact hb
  · intro a ha
    rcases List.mem_or_eq_of_mem_set ha with h1 | rfl
    · exact h.bc a h1
    · exact h.bc (true, lf, cy) (List.mem_of_getElem? hx)

theorem info_al2 : (Try.prog.info? 87).map (fun i => (i.zero, i.size, i.bytes)) = some (some (.agg #[.bool false, .int .u64 0, .int .u32 0]), 3, 24) := by kernel_rfl
theorem encA_ones2 (l : List (Bool × Nat × Nat)) : ∀ u ∈ l.flatMap encA, u.oneCell' = true := by
  intro u hu
  obtain ⟨x, _, hx⟩ := List.mem_flatMap.1 hu
  simp only [encA, List.mem_cons, List.not_mem_nil, or_false] at hx
  rcases hx with rfl | rfl | rfl <;> rfl

section
variable {w : World} {b : Nat} {v : Value} {nm : ByteArray} {bs m n x : Nat} {l : List (Bool × Nat × Nat)}
set_option maxRecDepth 100000 in
set_option maxHeartbeats 4000000 in
theorem coming_ok (hs : IsRef w b v nm bs m n x l) (hfn : Fine m n x l) (mo : Int) (_ : (Lit.int .i64 mo).wf = true) : Calls Try.prog 52 #[.pointer (some ⟨b, 0, none⟩), .int .i64 mo] w fun e w' =>
    ∃ ao c, e = .returned (.slice ao (Com.refRun (min mo 65536).toNat (l.map (Com.absA 0))).length c) ∧
      Row w' 53 2 (.slice ao (Com.refRun (min mo 65536).toNat (l.map (Com.absA 0))).length c) (Com.refRun (min mo 65536).toNat (l.map (Com.absA 0))).length ((Com.refRun (min mo 65536).toNat (l.map (Com.absA 0))).flatMap encX) ∧
      Kept (fun _ => False) w w' ∧ (∀ g, (Value.slice ao (Com.refRun (min mo 65536).toNat (l.map (Com.absA 0))).length c).ownBlock = some g → w.heap.size ≤ g) := by
  obtain ⟨iX, hiX, hx0, hx1, hx2⟩ := info_parts info_x
  obtain ⟨i0, hi, hz0, hz1, hz2⟩ := info_parts info_al2
  have hl := hfn.hlen
  obtain ⟨ao, c, rfl, hc⟩ := row_any hs.2.1
  have c6 := hs.1.cell 6 rfl
  obtain ⟨M, hM⟩ : ∃ M, (min mo 65536).toNat = M := ⟨_, rfl⟩
  obtain ⟨mm, hmm⟩ : ∃ mm, min mo 65536 = mm := ⟨_, rfl⟩
  rw [hM]
  rw [hmm] at hM
  have hsh := hs.2.1.shows
  have hlt := hs.lt
  clear hs
  go_enter Try.func52, Try.ntmps52
  go_upto_if 10 with fail
  go_cut [1] (fun t1 wx => wx = w ∧ t1 = .int .i64 mm)
  case first =>
    by_cases h : 65536 < mo
    · have hd : decide (65536 < mo) = true := by simpa using h
      go_wp2_with fail
      go_meet
      exact ⟨rfl, by rw [← hmm]; congr 1; omega⟩
    · have hd : decide (65536 < mo) = false := by simpa using h
      go_wp2_with fail
      go_meet
      exact ⟨rfl, by rw [← hmm]; congr 1; omega⟩
  case rest =>
    obtain ⟨hw, rfl⟩ := hcut
    have hw := hw.symm
    subst hw
    go_wp2_with ((at_builtin; refine wpList_append_any rfl (.const (.slice none 0 0)) (.tmp 14) 58 rfl 87 i0 (.agg #[.bool false, .int .u64 0, .int .u32 0]) 3 24 Try.underlying58 hi hz0 hz1 hz2 rfl (by decide) none 0 0 [] rfl (World.ownsRow_nil _ _ _ _) ao l.length c (l.flatMap encA) rfl hsh (encA_ones2 l) ?b1 ?b2 ?_))
    case b1 => unfold maxLen; omega
    case b2 => omega
    intro aA cA w1 r1 r2 r3
    have hge : ∀ g, (Value.slice aA l.length cA).ownBlock = some g → w.heap.size ≤ g := fun g hg => (r3 g hg).elim (fun e => by cases e) id
    have k1 : Kept (fun _ => False) w w1 := (Kept.refl (fun _ => False) w).grown r2 (fun k hk => by cases hk)
    have H0 : Hid (Cm w w1 (.slice aA l.length cA) (.slice none 0 0) M (l.map (Com.absA 0)) l []) :=
      { ra := r1, ro := World.ownsRow_nil _ _ _ _, fa := fun g hg => ⟨hge g hg, by simp [Value.ownBlock]⟩, fo := by simp [Value.ownBlock], kept := k1, spec := by rw [Com.absA_zero]; simp, le := Nat.zero_le _,
        bl := fun a ha => by have := hfn.hleft a ha; simp; omega, bc := fun a ha => by have := hfn.hcycle a ha; have := hfn.hmost; omega }
    have hM65 : M ≤ 65536 := by omega
    clear r1 r2 r3 hge k1 c6 hsh hlt hmm hfn
    obtain ⟨N, hN⟩ : ∃ N, l.length = N := ⟨_, rfl⟩
    have HN := Lib.hid hN
    rw [hN] at H0 hl ⊢
    clear hN hc
    go_wp2
    go_loopg [6] M (fun gh r wx => ∃ (A : List (Bool × Nat × Nat)) (O : List (Nat × Nat)) (ao : Option Addr) (c : Nat), gh = M - O.length ∧ r = .slice ao O.length c ∧ A.length = N ∧ Hid (Cm w wx (.slice aA N cA) (.slice ao O.length c) M (l.map (Com.absA 0)) A O))
    case atStart => exact ⟨l, [], none, 0, rfl, rfl, HN.out, H0⟩
    case round =>
      clear H0
      obtain ⟨A, O, ar, cr, rfl, rfl, hA, hC⟩ := hrel
      have hle := hC.out.le
      by_cases hOM : O.length < M
      · have d0 : decide ((O.length : Int) < mm) = true := by simp; omega
        go_wp2
        clear d0
        go_loopg [7, 8] N (fun gh kk ii wy => ∃ i : Nat, gh = N - i ∧ i ≤ N ∧ ii = .int .i64 i ∧ kk = .int .i64 (Com.amI (A.take i)) ∧ Hid (Cm w wy (.slice aA N cA) (.slice ar O.length cr) M (l.map (Com.absA 0)) A O))
        case atStart => exact ⟨0, rfl, Nat.zero_le _, rfl, rfl, hC⟩
        case round =>
          clear hC
          obtain ⟨i, rfl, hi, rfl, rfl, hC⟩ := hrel
          by_cases hiN : i < N
          · obtain ⟨⟨s, lf, cy⟩, hx⟩ : ∃ a, A[i]? = some a := ⟨_, List.getElem?_eq_getElem (by omega)⟩
            have hi0 : (0 : Int) ≤ (i : Int) := by omega
            have hi1 : (i : Int) < (N : Int) := by omega
            have hra := hC.out.ra
            rw [hA] at hra
            obtain ⟨g, rfl, e0, e1, e2, z0, z1, z2⟩ := row_spot hra hA hx
            clear hra z0 z1 z2 e2
            cases s with
            | false =>
              have hs := Com.amI_skip hx
              have HX := Lib.hid hs
              obtain ⟨j, hj⟩ : ∃ j, Com.amI (A.take i) = j := ⟨_, rfl⟩
              rw [hj] at HX ⊢
              clear hx hs hj
              go_wp2
              go_big_quiet (fail)
              go_wp2
              go_roundg (N - (i + 1))
              case measure => omega
              case rel => exact ⟨i + 1, rfl, by omega, by go_num, by rw [HX.out], hC.out.same (by exact (Kept.refl (fun _ => False) _).same rfl rfl rfl rfl)⟩
            | true =>
              have hlo := (Com.amI_lt (A.take i)).1
              obtain ⟨j, hj⟩ : ∃ j, Com.amI (A.take i) = j := ⟨_, rfl⟩
              by_cases hjn : j < 0
              · have hs := Com.amI_first hx (by rw [hj]; exact hjn)
                have HX := Lib.hid hs
                have d1 : decide (j < 0) = true := by simpa using hjn
                rw [hj]
                clear hx hs hj
                go_wp2
                go_big_quiet (fail)
                go_wp2
                go_roundg (N - (i + 1))
                case measure => omega
                case rel => exact ⟨i + 1, rfl, by omega, by go_num, by rw [HX.out], hC.out.same (by exact (Kept.refl (fun _ => False) _).same rfl rfl rfl rfl)⟩
              · have d1 : decide (j < 0) = false := by simpa using hjn
                obtain ⟨k, rfl⟩ := Int.eq_ofNat_of_zero_le (show 0 ≤ j by omega)
                obtain ⟨m', c', hk⟩ := Com.amI_set' hj
                have hkl := (List.getElem?_eq_some_iff.1 hk).1
                have hk0 : (0 : Int) ≤ (k : Int) := by omega
                have hk1 : (k : Int) < (N : Int) := by omega
                have hs := Com.amI_more hx hj hk
                have hra := hC.out.ra
                rw [hA] at hra
                obtain ⟨g', hg', y0, y1, y2, z0, z1, z2⟩ := row_spot hra hA hk
                simp only [Option.some.injEq, Addr.mk.injEq, and_true] at hg'
                subst hg'
                rw [hj]
                clear hra z0 z1 z2 y0 y2 hj hlo
                by_cases hl2 : lf < m'
                · have d2 : decide ((lf : Int) < (m' : Int)) = true := by simp; omega
                  rw [if_pos hl2] at hs
                  have HX := Lib.hid hs
                  clear hx hk hs
                  go_wp2
                  go_big_quiet (fail)
                  go_wp2
                  go_roundg (N - (i + 1))
                  case measure => omega
                  case rel => exact ⟨i + 1, rfl, by omega, by go_num, by rw [HX.out], hC.out.same (by exact (Kept.refl (fun _ => False) _).same rfl rfl rfl rfl)⟩
                · have d2 : decide ((lf : Int) < (m' : Int)) = false := by simp; omega
                  rw [if_neg hl2] at hs
                  have HX := Lib.hid hs
                  clear hx hk hs
                  go_wp2
                  go_big_quiet (fail)
                  go_wp2
                  go_roundg (N - (i + 1))
                  case measure => omega
                  case rel => exact ⟨i + 1, rfl, by omega, by go_num, by rw [HX.out], hC.out.same (by exact (Kept.refl (fun _ => False) _).same rfl rfl rfl rfl)⟩
          · obtain rfl : i = N := by omega
            rw [show A.take i = A by rw [← hA, List.take_length]]
            have hlo := (Com.amI_lt A).1
            obtain ⟨j, hj⟩ : ∃ j, Com.amI A = j := ⟨_, rfl⟩
            rw [hj]
            by_cases hjn : j < 0
            · have d1 : decide (j < 0) = true := by simpa using hjn
              have e : Com.refRun M (l.map (Com.absA 0)) = O := by
                rw [hC.out.spec, show M - O.length = (M - O.length - 1) + 1 by omega, Com.refRun, Com.am_norm, Com.amI_none (by rw [hj]; exact hjn), List.append_nil]
              have E := Lib.hid e
              clear e hj
              go_wp2
              go_ret
              rw [E.out]
              exact ⟨ar, cr, rfl, hC.out.ro, hC.out.kept, hC.out.fo⟩
            · have d1 : decide (j < 0) = false := by simpa using hjn
              obtain ⟨k, rfl⟩ := Int.eq_ofNat_of_zero_le (show 0 ≤ j by omega)
              obtain ⟨lf, cy, hk, ham⟩ := Com.amI_set hj
              have hkl := (List.getElem?_eq_some_iff.1 hk).1
              have hk0 : (0 : Int) ≤ (k : Int) := by omega
              have hk1 : (k : Int) < (i : Int) := by omega
              have hra := hC.out.ra
              rw [hA] at hra
              obtain ⟨g, rfl, e0, e1, e2, z0, z1, z2⟩ := row_spot hra hA hk
              have hbl := hC.out.bl _ (List.mem_of_getElem? hk)
              have hbc := hC.out.bc _ (List.mem_of_getElem? hk)
              simp only at hbl hbc
              go_wp2_with ((at_builtin; refine wpList_append_any rfl (.tmp 52) (.tmp 60) 50 rfl 53 iX (.agg #[.int .u64 0, .int .i64 0]) 2 16 Try.underlying50 hiX hx0 hx1 hx2 rfl (by decide) _ _ _ (O.flatMap encX) rfl ?hrow _ 1 1 (encX (lf, k)) rfl ?hnew ?hone ?b1 ?b2 ?_))
              case hrow => exact row_alloc hC.out.ro _
              case hnew => exact shows_new _ _ _ (by simp) (by rfl)
              case hone => intro u hu; simp only [encX, List.mem_cons, List.not_mem_nil, or_false] at hu; rcases hu with rfl | rfl <;> rfl
              case b1 => unfold maxLen; omega
              case b2 => omega
              intro ao3 c3 wc r1 r2 r3
              have hfa := (hC.out.fa g rfl).2
              have kc : Kept (fun i => (Value.slice ar O.length cr).ownBlock = some i) wr wc := ((Kept.refl _ wr).alloc _).grown r2 (fun i e => Or.inl e)
              have hra2 := row_kept hra kc (fun i hi e => by simp [Value.ownBlock] at hi; subst hi; exact hfa e)
              have hk2 := hC.out.kept.then kc (fun i hi => Or.inr (hC.out.fo i hi))
              have hf2 : ∀ i, (Value.slice ao3 (O.length + 1) c3).ownBlock = some i → w.heap.size ≤ i ∧ i ≠ g := fun i e => (r3 i e).elim (fun h => ⟨hC.out.fo i h, fun e => hfa (by rw [← e]; exact h)⟩) (fun h => by
                have h1 := hC.out.kept.size
                have h2 := row_lt hra (k := g) rfl
                exact ⟨by omega, by omega⟩)
              have hN := hC.out.next hA hOM hk ham hra2 r1 hf2 hk2
              have hgt : decide ((0 : Int) < (cy : Int)) = decide (0 < cy) := by by_cases h : 0 < cy <;> simp [h]
              have hwc : IntKind.u64.wrap (cy : Int) = (cy : Int) := IntWalk.u64_in _ (by omega)
              have hwl : IntKind.u64.wrap ((lf : Int) + (cy : Int)) = ((lf + cy : Nat) : Int) := by rw [IntWalk.u64_in _ (by omega)]; omega
              have hlO : (O ++ [(lf, k)]).length = O.length + 1 := by simp
              have hls : (A.set k (decide (0 < cy), lf + cy, cy)).length = i := by rw [List.length_set, hA]
              have rB := row_set hra2 (k * 3) (.bool (decide (0 < cy)))
              obtain ⟨_, hgg, y0, y1, y2, x0, x1, x2⟩ := row_spot hra2 hA hk
              simp only [Option.some.injEq, Addr.mk.injEq, and_true] at hgg
              subst hgg
              have n1 : (wc.setCell ⟨g, k * 3, none⟩ (.bool (decide (0 < cy)))).cell? ⟨g, k * 3 + 1, none⟩ = some (.int .u64 lf) := by go_simp
              have n2 : (wc.setCell ⟨g, k * 3, none⟩ (.bool (decide (0 < cy)))).cell? ⟨g, k * 3 + 2, none⟩ = some (.int .u32 cy) := by go_simp
              have n3 : (wc.setCell ⟨g, k * 3, none⟩ (.bool (decide (0 < cy)))).frozen? ⟨g, k * 3 + 1, none⟩ = false := by go_simp
              have HN2 := Lib.hid hN
              have HLO := Lib.hid hlO
              have HLS := Lib.hid hls
              clear hN r1 r2 r3 hra hra2 kc hk2 hf2 hfa rB hk ham hj e0 e1 e2 z0 z1 z2 hlO hls hjn hbl
              go_upto_region 16 with fail
              obtain ⟨wd, hwd⟩ : ∃ wd, wc.setCell ⟨g, k * 3, none⟩ (.bool (decide (0 < cy))) = wd := ⟨_, rfl⟩
              have hN := HN2.out
              rw [hwd] at n1 n2 n3 hN ⊢
              have HN := Lib.hid hN
              clear hwd HN2 hN y0 y1 y2 x0 x1 x2 hwc hgt
              go_still_tail 16, (by kernel_rfl)
              go_wp2
              go_roundg (M - (O.length + 1))
              case measure => omega
              case rel => exact ⟨_, O ++ [(lf, k)], ao3, c3, by rw [HLO.out], by rw [HLO.out], HLS.out, by rw [HLO.out, hwl]; exact HN.out⟩
      · have d0 : decide ((O.length : Int) < mm) = false := by simp; omega
        have e : Com.refRun M (l.map (Com.absA 0)) = O := by rw [hC.out.spec, show M - O.length = 0 by omega, Com.refRun, List.append_nil]
        have E := Lib.hid e
        clear e
        go_wp2
        go_ret
        rw [E.out]
        exact ⟨ar, cr, rfl, hC.out.ro, hC.out.kept, hC.out.fo⟩
end
end Go.Proofs.Ytialldmepphloaa.CR
