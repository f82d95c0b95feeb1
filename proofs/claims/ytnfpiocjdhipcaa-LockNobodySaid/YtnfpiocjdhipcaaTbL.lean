/- Package table: room. -/
import Derived.Test.YtnfpiocjdhipcaaTbK
import Derived.Test.YtnfpiocjdhipcaaTbD
namespace Go.Proofs.Ytnfpiocjdhipcaa.TC
open Go.RowKit Go.Fr Go.Tb
attribute [local go_sem] Oper.semAt_some

theorem infoI : (Try.prog.info? 3).map (fun i => (i.zero, i.size, i.bytes)) = some (some (.int .i64 0), 1, 8) := by kernel_rfl
abbrev eI (x : Int) : List Value := [.int .i64 x]
theorem flatI (l : List Int) : l.flatMap eI = l.map (Value.int .i64) := by induction l with | nil => rfl | cons a l ih => simp [ih]

/-- the counts lie in the row of block g, which is new -/
structure Cn (w1 wr : World) (g n : Nat) (l : List Int) : Prop where
  row : Row wr 3 1 (.slice (some ⟨g, 0, none⟩) n n) n (l.flatMap eI)
  kept : Kept (fun _ => False) w1 wr
  new : w1.heap.size ≤ g
theorem Cn.same {w1 wr wf : World} {g n : Nat} {l : List Int} (h : Cn w1 wr g n l) (k : Kept (fun _ => False) wr wf) : Cn w1 wf g n l :=
  ⟨row_kept h.row k (fun _ _ x => x), h.kept.then k (fun _ x => x.elim), h.new⟩
theorem Cn.put {w1 wr : World} {g n c : Nat} {l : List Int} {v : Int} (h : Cn w1 wr g n l) (hv : l[c]? = some v) (u : Int) : Cn w1 (wr.setCell ⟨g, c, none⟩ (.int .i64 u)) g n (l.set c u) := by
  refine ⟨?_, h.kept.setCell (p := ⟨g, c, none⟩) (Or.inr h.new) _, h.new⟩
  have := rows_set (enc := eI) (fun _ => rfl) h.row (i := 0) (x' := u) (u := .int .i64 u) hv Nat.zero_lt_one rfl
  simpa using this
theorem Cn.at {w1 wr : World} {g n c : Nat} {l : List Int} {v : Int} (h : Cn w1 wr g n l) (hv : l[c]? = some v) : wr.cell? ⟨g, c, none⟩ = some (.int .i64 v) := by
  have := rows_cell (enc := eI) (fun _ => rfl) h.row (i := 0) hv rfl
  simpa using this
theorem Cn.frozen {w1 wr : World} {g n : Nat} {l : List Int} (h : Cn w1 wr g n l) (c : Nat) : wr.frozen? ⟨g, c, none⟩ = false := row_frozen h.row c
theorem Cn.lt {w1 wr : World} {g n : Nat} {l : List Int} (h : Cn w1 wr g n l) : g < wr.heap.size := row_lt h.row rfl

theorem results_tmp4 {fn : Func} {t u v x : Tmp} (h : fn.results = #[.tmp t, .tmp u, .tmp v, .tmp x]) (tmps : Array Value) (P : Program) (w : World) :
    (results fn tmps).run P w = .ok (.tuple #[tmps.getD t undef, tmps.getD u undef, tmps.getD v undef, tmps.getD x undef]) w := by
  simp [results, h]
/-- what the tables need of rooms -/
def RoomIs (T : Tb) (m b : Int) : Prop := Mx m (ctrs T.alarms) (srcs T.msgs) ∧ b = backsA T.alarms + backsM T.msgs

set_option maxRecDepth 100000 in
set_option maxHeartbeats 8000000 in
theorem room_ok {w : World} {T : Tb} (hT : TabIn w T) (hnc : T.counters.length ≤ 64) (hna : T.alarms.length ≤ 64) (hnm : T.msgs.length ≤ 64) (hni : T.isrs.length ≤ 64) (hnr : T.rings.length ≤ 140737488355328)
    (ha : ∀ x ∈ T.alarms, 0 ≤ x.counter ∧ x.counter < T.counters.length) (hm : ∀ x ∈ T.msgs, x.kind ≠ 1 → 0 ≤ x.src ∧ x.src < T.msgs.length) :
    Calls Try.prog 65 #[.agg T.cells.toArray] w fun e w' => (∃ m b : Int, e = .returned (.tuple #[.int .i64 T.rings.length, .int .i64 ((T.isrs.length : Int) + 4), .int .i64 m, .int .i64 b]) ∧ RoomIs T m b) ∧ Kept (fun _ => False) w w' := by
  obtain ⟨i0, hi, hz0, hz1, hz2⟩ := info_parts infoI
  have k0 : Kept (fun _ => False) w (box w T) := (Kept.refl _ w).alloc _
  have nb : Blk (box w T) w.heap.size T.cells 30 := Blk.new w T.cells 30
  have hT1 := hT.same k0
  have hzb : (box w T).heap.size = w.heap.size + 1 := World.size_alloc _ _
  obtain ⟨w1, hw1⟩ : ∃ w1, box w T = w1 := ⟨_, rfl⟩
  obtain ⟨B, hB⟩ : ∃ B, w.heap.size = B := ⟨_, rfl⟩
  rw [hw1] at k0 nb hT1 hzb
  rw [hB] at nb hzb
  have HT := Lib.hid hT1
  have NB := Lib.hid nb
  have K0 := Lib.hid k0
  have HA := Lib.hid ha
  have HM := Lib.hid hm
  clear hT hT1 nb k0 ha hm
  have hs : T.cells.toArray.size = 13 := rfl
  have hn0 : (T.cells.toArray = #[]) = False := by simp [Tb.cells]
  unfold box at hw1
  generalize T.cells.toArray = Z at hw1 hs hn0 ⊢
  obtain ⟨nc, hnc'⟩ : ∃ n, T.counters.length = n := ⟨_, rfl⟩
  obtain ⟨A0, hA0⟩ : ∃ A, (List.replicate nc (0 : Int)).flatMap eI = A := ⟨_, rfl⟩
  have hk1 : ∀ w, (Instr.makeSlice 47 (.int .i64 (nc : Int)) (.int .i64 (nc : Int))).run Try.prog w = .ok (.slice (some ⟨w.heap.size, 0, none⟩) nc nc) (w.alloc (.cells A0.toArray 3)) := by
    rw [← hA0]; exact fun w => run_make_flat (enc := eI) (fun _ => rfl) (by decide) 0 _ _ i0 _ Try.underlying47 hi hz0 hz1 rfl .i64 .i64 nc (by rw [hz2]; omega) (by omega) w
  have c0 : Hid (Cn w1 (w1.alloc (.cells A0.toArray 3)) w1.heap.size nc (cnts (ctrs (T.alarms.take 0)) nc)) := by
    refine ⟨?_, (Kept.refl _ w1).alloc _, Nat.le_refl _⟩
    rw [show ctrs (T.alarms.take 0) = [] from rfl, cnts_nil, hA0]
    exact row_new w1 3 1 nc A0 (by rw [← hA0, flatI]; simp) (by unfold maxLen; omega)
  have HNC := Lib.hid hnc'
  have M0 : Hid (Mx 2 (ctrs (T.alarms.take 0)) []) := Mx.start
  have B0 : Hid ((0 : Int) = backsA (T.alarms.take 0)) := by simp [Hid, backsA]
  clear hA0
  go_enter Try.func65, Try.ntmps65
  go_upto_region 1 with fail
  clear hs hn0 hw1 hB
  have c5 := NB.out.cell 5 rfl
  rw [HNC.out] at c5
  go_upto_region 2 with fail
  obtain ⟨w2, hw2⟩ : ∃ w2, w1.alloc (.cells A0.toArray 3) = w2 := ⟨_, rfl⟩
  rw [hw2, hzb] at c0
  rw [hw2]
  try rw [hzb]
  have c6 := (NB.out.kept c0.out.kept (fun x => x)).cell 6 rfl
  clear hw2 c5 hk1
  go_wp2_with fail
  clear c6
  go_loopw [7, 8, 21] (fun m b i wr => ∃ (k : Nat) (mv bv : Int), k ≤ T.alarms.length ∧ i = .int .i64 k ∧ m = .int .i64 mv ∧ b = .int .i64 bv ∧ Hid (Cn w1 wr (B + 1) nc (cnts (ctrs (T.alarms.take k)) nc)) ∧ Hid (Mx mv (ctrs (T.alarms.take k)) []) ∧ Hid (bv = backsA (T.alarms.take k))) (fun _ _ i _ => T.alarms.length - (intOf i).toNat)
  case atStart => exact ⟨0, 2, 0, Nat.zero_le _, rfl, rfl, rfl, c0, M0, B0⟩
  case round =>
    clear c0 M0 B0
    obtain ⟨k, mv, bv, hk, rfl, rfl, rfl, hC, hMx, hBk⟩ := hrel
    by_cases hkl : k < T.alarms.length
    · obtain ⟨x, hx, hmx⟩ := at_of hkl
      have hax := HA.out _ hmx
      have hcs := ctrs_snoc hx
      have hbs := backsA_snoc hx
      obtain ⟨xc, xk, xt, xm, xa, xi, xy⟩ := x
      dsimp only at hax hcs hbs
      obtain ⟨n, rfl⟩ := Int.eq_ofNat_of_zero_le (a := xc) hax.1
      have hk0 : (0 : Int) ≤ (k : Int) := by omega
      have hk1 : (k : Int) < (T.alarms.length : Int) := by omega
      have hnn : n < nc := by have := HNC.out; omega
      have hn0 : (0 : Int) ≤ (n : Int) := by omega
      have hn1 : (n : Int) < (nc : Int) := by omega
      obtain ⟨b, off, hta, hb, hcl⟩ := camel_at (camel_same HT.out.alarms hC.out.kept) hx
      have e0 := hcl 0 _ rfl
      have e1 := hcl 1 _ rfl
      have e2 := hcl 2 _ rfl
      have e3 := hcl 3 _ rfl
      have e4 := hcl 4 _ rfl
      have e5 := hcl 5 _ rfl
      have e6 := hcl 6 _ rfl
      simp only [Nat.add_zero] at e0
      dsimp only at e0 e1 e2 e3 e4 e5 e6
      have hat := cnts_at (ctrs (T.alarms.take k)) hnn
      obtain ⟨v, hv⟩ : ∃ v : Int, ((ctrs (T.alarms.take k)).count (n : Int) : Int) = v := ⟨_, rfl⟩
      have hvb : 0 ≤ v ∧ v ≤ 64 := by
        have h1 := List.count_le_length (a := (n : Int)) (l := ctrs (T.alarms.take k))
        rw [ctrs_len, List.length_take] at h1
        omega
      have hbb : 0 ≤ bv ∧ bv ≤ 64 := by
        have h1 := backsA_le (T.alarms.take k)
        rw [List.length_take] at h1
        rw [hBk.out]; omega
      have hM2 := hMx.out.left (n : Int)
      have hcn := cnts_snoc (ctrs (T.alarms.take k)) hnn
      rw [hv] at hat hM2 hcn
      rw [← hcs] at hM2 hcn
      have HAT := Lib.hid hat
      have HM2 := Lib.hid hM2
      have HCN := Lib.hid hcn
      have HBS := Lib.hid hbs
      clear hcl hx hmx hat hM2 hcn hbs hcs hv
      rw [hta]
      go_upto_region 5 with fail
      have hC2 := hC.out.same ((Kept.refl _ wr).alloc (.cells #[.int .i64 (n : Int), .int .i64 xk, .int .i64 xt, .int .u32 xm, .int .u32 xa, .int .u32 xi, .int .u32 xy] 141))
      have nr := Blk.new wr [.int .i64 (n : Int), .int .i64 xk, .int .i64 xt, .int .u32 xm, .int .u32 xa, .int .u32 xi, .int .u32 xy] 141
      have hgl := hC.out.lt
      obtain ⟨w3, hw3⟩ : ∃ w3, wr.alloc (.cells #[.int .i64 (n : Int), .int .i64 xk, .int .i64 xt, .int .u32 xm, .int .u32 xa, .int .u32 xi, .int .u32 xy] 141) = w3 := ⟨_, rfl⟩
      obtain ⟨M, hMM⟩ : ∃ M, wr.heap.size = M := ⟨_, rfl⟩
      rw [hw3] at hC2 nr ⊢
      rw [hMM] at nr hgl
      try rw [hMM]
      clear hw3 hMM e0 e1 e2 e3 e4 e5 e6 hta hC
      have y0 := nr.cell 0 rfl
      have g0 := hC2.at HAT.out
      have gf := hC2.frozen n
      have hC3 := hC2.put HAT.out (v + 1)
      have n3 := nr.other (p := ⟨B + 1, n, none⟩) (by intro e; have e' : B + 1 = M := e; omega) (.int .i64 (v + 1))
      have hw' : IntKind.i64.wrap (v + 1) = v + 1 := IntWalk.i64_in _ (by omega)
      have C3 := Lib.hid hC3
      have N3 := Lib.hid n3
      clear hC2 hC3 n3 nr
      go_upto_region 6 with fail
      obtain ⟨w4, hw4⟩ : ∃ w4, w3.setCell ⟨B + 1, n, none⟩ (.int .i64 (v + 1)) = w4 := ⟨_, rfl⟩
      rw [hw4] at C3 N3 ⊢
      clear hw4 y0 g0 gf
      have y0 := N3.out.cell 0 rfl
      have y1 := N3.out.cell 1 rfl
      have g0 := C3.out.at (c := n) (v := v + 1) (by rw [List.getElem?_set_self (by rw [cnts_len]; exact hnn)])
      have hwb : IntKind.i64.wrap (bv + 1) = bv + 1 := IntWalk.i64_in _ (by omega)
      have C4 : Hid (Cn w1 w4 (B + 1) nc (cnts (ctrs (T.alarms.take (k + 1))) nc)) := by unfold Hid; rw [HCN.out]; exact C3.out
      clear C3
      by_cases h3 : xk = 3
      · have HB5 : Hid (bv + 1 = backsA (T.alarms.take (k + 1))) := by unfold Hid; rw [HBS.out, hBk.out, if_pos h3]
        subst h3
        go_wp2_with fail
        go_roundw
        case rel => exact ⟨k + 1, _, bv + 1, by omega, by go_num, rfl, rfl, C4, HM2, HB5⟩
        case measure => simp [intOf]; omega
      · have d3 : (xk == 3) = false := by simpa using h3
        have HB5 : Hid (bv = backsA (T.alarms.take (k + 1))) := by unfold Hid; rw [HBS.out, hBk.out, if_neg h3]; omega
        clear h3
        go_wp2_with fail
        go_roundw
        case rel => exact ⟨k + 1, _, bv, by omega, by go_num, rfl, rfl, C4, HM2, HB5⟩
        case measure => simp [intOf]; omega
    · obtain rfl : k = T.alarms.length := by omega
      rw [List.take_length] at hC hMx hBk
      obtain ⟨A1, hA1⟩ : ∃ A, (List.replicate T.msgs.length (0 : Int)).flatMap eI = A := ⟨_, rfl⟩
      have hk1 : ∀ w, (Instr.makeSlice 47 (.int .i64 (T.msgs.length : Int)) (.int .i64 (T.msgs.length : Int))).run Try.prog w = .ok (.slice (some ⟨w.heap.size, 0, none⟩) T.msgs.length T.msgs.length) (w.alloc (.cells A1.toArray 3)) := by
        rw [← hA1]; exact fun w => run_make_flat (enc := eI) (fun _ => rfl) (by decide) 0 _ _ i0 _ Try.underlying47 hi hz0 hz1 rfl .i64 .i64 T.msgs.length (by rw [hz2]; omega) (by omega) w
      obtain ⟨G, hG⟩ : ∃ G, wr.heap.size = G := ⟨_, rfl⟩
      have hszw := hC.out.kept.size
      have c1 : Hid (Cn w1 (wr.alloc (.cells A1.toArray 3)) G T.msgs.length (cnts (srcs (T.msgs.take 0)) T.msgs.length)) := by
        refine ⟨?_, hC.out.kept.alloc _, by omega⟩
        rw [show srcs (T.msgs.take 0) = [] from rfl, cnts_nil, hA1, ← hG]
        exact row_new wr 3 1 T.msgs.length A1 (by rw [← hA1, flatI]; simp) (by unfold maxLen; omega)
      have M0 : Hid (Mx mv (ctrs T.alarms) (srcs (T.msgs.take 0))) := hMx.out
      have B1 : Hid (bv = backsA T.alarms + backsM (T.msgs.take 0)) := by unfold Hid; rw [hBk.out]; simp [backsM]
      have c8 := (NB.out.kept hC.out.kept (fun x => x)).cell 8 rfl
      clear hA1
      go_upto_region 11 with fail
      obtain ⟨w2', hw2⟩ : ∃ w2, wr.alloc (.cells A1.toArray 3) = w2 := ⟨_, rfl⟩
      rw [hw2] at c1 ⊢
      try rw [hG]
      clear c8 hk1
      have c8 := (NB.out.kept c1.out.kept (fun x => x)).cell 8 rfl
      clear hw2 hG hC hMx hBk
      go_wp2_with fail
      clear c8
      go_loopw [7, 8, 53] (fun m b i wx => ∃ (k : Nat) (mv bv : Int), k ≤ T.msgs.length ∧ i = .int .i64 k ∧ m = .int .i64 mv ∧ b = .int .i64 bv ∧ Hid (Cn w1 wx G T.msgs.length (cnts (srcs (T.msgs.take k)) T.msgs.length)) ∧ Hid (Mx mv (ctrs T.alarms) (srcs (T.msgs.take k))) ∧ Hid (bv = backsA T.alarms + backsM (T.msgs.take k))) (fun _ _ i _ => T.msgs.length - (intOf i).toNat)
      case atStart => exact ⟨0, mv, bv, Nat.zero_le _, rfl, rfl, rfl, c1, M0, B1⟩
      case round =>
        clear c1 M0 B1
        obtain ⟨k, mv, bv, hk, rfl, rfl, rfl, hC, hMx, hBk⟩ := hrel
        by_cases hkl : k < T.msgs.length
        · obtain ⟨x, hx, hmx⟩ := at_of hkl
          have hax := HM.out _ hmx
          have hbs := backsM_snoc hx
          have hcs := srcs_snoc hx
          have hck := srcs_skip hx
          obtain ⟨xk, xl, xs, xi, xq, ak, at', am⟩ := x
          dsimp only at hax hcs hbs hck
          have hk0 : (0 : Int) ≤ (k : Int) := by omega
          have hk1 : (k : Int) < (T.msgs.length : Int) := by omega
          obtain ⟨b, off, hta, hb, hcl⟩ := camel_at (camel_same HT.out.msgs hC.out.kept) hx
          have e0 := hcl 0 _ rfl
          have e1 := hcl 1 _ rfl
          have e2 := hcl 2 _ rfl
          have e3 := hcl 3 _ rfl
          have e4 := hcl 4 _ rfl
          have e5 := hcl 5 _ rfl
          have e6 := hcl 6 _ rfl
          have e7 := hcl 7 _ rfl
          simp only [Nat.add_zero] at e0
          dsimp only at e0 e1 e2 e3 e4 e5 e6 e7
          have hbb : 0 ≤ bv ∧ bv ≤ 128 := by
            have h1 := backsA_le T.alarms
            have h2 := backsM_le (T.msgs.take k)
            rw [List.length_take] at h2
            rw [hBk.out]; omega
          have HBS := Lib.hid hbs
          have HAX := Lib.hid hax
          have HCS := Lib.hid hcs
          have HCK := Lib.hid hck
          clear hcl hx hmx hbs hcs hck hax
          rw [hta]
          go_upto_region 14 with fail
          have hC2 := hC.out.same ((Kept.refl _ wr).alloc (.cells #[.int .i64 xk, .int .i64 xl, .int .i64 xs, .int .u64 xi, .int .i64 xq, .int .i64 ak, .int .i64 at', .int .u32 am] 146))
          have nr := Blk.new wr [.int .i64 xk, .int .i64 xl, .int .i64 xs, .int .u64 xi, .int .i64 xq, .int .i64 ak, .int .i64 at', .int .u32 am] 146
          have hgl := hC.out.lt
          obtain ⟨w3, hw3⟩ : ∃ w3, wr.alloc (.cells #[.int .i64 xk, .int .i64 xl, .int .i64 xs, .int .u64 xi, .int .i64 xq, .int .i64 ak, .int .i64 at', .int .u32 am] 146) = w3 := ⟨_, rfl⟩
          obtain ⟨M, hMM⟩ : ∃ M, wr.heap.size = M := ⟨_, rfl⟩
          rw [hw3] at hC2 nr ⊢
          rw [hMM] at nr hgl
          try rw [hMM]
          clear hw3 hMM e0 e1 e2 e3 e4 e5 e6 e7 hta hC
          have C2 := Lib.hid hC2
          have NR := Lib.hid nr
          have y0 := nr.cell 0 rfl
          have hwb : IntKind.i64.wrap (bv + 1) = bv + 1 := IntWalk.i64_in _ (by omega)
          clear hC2 nr
          by_cases h1 : xk = 1
          · have hS := HCK.out h1
            subst h1
            have C4 : Hid (Cn w1 w3 G T.msgs.length (cnts (srcs (T.msgs.take (k + 1))) T.msgs.length)) := by unfold Hid; rw [hS]; exact C2.out
            have M4 : Hid (Mx mv (ctrs T.alarms) (srcs (T.msgs.take (k + 1)))) := by unfold Hid; rw [hS]; exact hMx.out
            have y5 := NR.out.cell 5 rfl
            clear C2 hMx hS
            by_cases h3 : ak = 3
            · have HB5 : Hid (bv + 1 = backsA T.alarms + backsM (T.msgs.take (k + 1))) := by unfold Hid; rw [HBS.out, hBk.out, if_pos h3]; omega
              subst h3
              go_wp2_with fail
              go_roundw
              case rel => exact ⟨k + 1, mv, bv + 1, by omega, by go_num, rfl, rfl, C4, M4, HB5⟩
              case measure => simp [intOf]; omega
            · have d3 : (ak == 3) = false := by simpa using h3
              have HB5 : Hid (bv = backsA T.alarms + backsM (T.msgs.take (k + 1))) := by unfold Hid; rw [HBS.out, hBk.out, if_neg h3]; omega
              clear h3
              go_wp2_with fail
              go_roundw
              case rel => exact ⟨k + 1, mv, bv, by omega, by go_num, rfl, rfl, C4, M4, HB5⟩
              case measure => simp [intOf]; omega
          · have d1 : (xk != 1) = true := by simpa using h1
            have hcs := HCS.out h1
            have hax := HAX.out h1
            clear h1
            obtain ⟨n, rfl⟩ := Int.eq_ofNat_of_zero_le (a := xs) hax.1
            have hnn : n < T.msgs.length := by omega
            have hn0 : (0 : Int) ≤ (n : Int) := by omega
            have hn1 : (n : Int) < (T.msgs.length : Int) := hax.2
            have hat := cnts_at (srcs (T.msgs.take k)) hnn
            obtain ⟨v, hv⟩ : ∃ v : Int, ((srcs (T.msgs.take k)).count (n : Int) : Int) = v := ⟨_, rfl⟩
            have hvb : 0 ≤ v ∧ v ≤ 64 := by
              have h1 := List.count_le_length (a := (n : Int)) (l := srcs (T.msgs.take k))
              have h2 := srcs_len (T.msgs.take k)
              rw [List.length_take] at h2
              omega
            have hM2 := hMx.out.right (n : Int)
            have hcn := cnts_snoc (srcs (T.msgs.take k)) hnn
            rw [hv] at hat hM2 hcn
            rw [← hcs] at hM2 hcn
            have HAT := Lib.hid hat
            have HM2 := Lib.hid hM2
            have HCN := Lib.hid hcn
            clear hat hM2 hcn hcs hv hax hMx
            have y2 := NR.out.cell 2 rfl
            have g0 := C2.out.at HAT.out
            have gf := C2.out.frozen n
            have hC3 := C2.out.put HAT.out (v + 1)
            have n3 := NR.out.other (p := ⟨G, n, none⟩) (by intro e; have e' : G = M := e; omega) (.int .i64 (v + 1))
            have hw' : IntKind.i64.wrap (v + 1) = v + 1 := IntWalk.i64_in _ (by omega)
            have C3 := Lib.hid hC3
            have N3 := Lib.hid n3
            clear C2 hC3 n3 NR
            go_upto_region 16 with fail
            obtain ⟨w4, hw4⟩ : ∃ w4, w3.setCell ⟨G, n, none⟩ (.int .i64 (v + 1)) = w4 := ⟨_, rfl⟩
            rw [hw4] at C3 N3 ⊢
            clear hw4 y0 y2 g0 gf
            have y2 := N3.out.cell 2 rfl
            have y5 := N3.out.cell 5 rfl
            have g0 := C3.out.at (c := n) (v := v + 1) (by rw [List.getElem?_set_self (by rw [cnts_len]; exact hnn)])
            have C4 : Hid (Cn w1 w4 G T.msgs.length (cnts (srcs (T.msgs.take (k + 1))) T.msgs.length)) := by unfold Hid; rw [HCN.out]; exact C3.out
            clear C3
            by_cases h3 : ak = 3
            · have HB5 : Hid (bv + 1 = backsA T.alarms + backsM (T.msgs.take (k + 1))) := by unfold Hid; rw [HBS.out, hBk.out, if_pos h3]; omega
              subst h3
              go_wp2_with fail
              go_roundw
              case rel => exact ⟨k + 1, _, bv + 1, by omega, by go_num, rfl, rfl, C4, HM2, HB5⟩
              case measure => simp [intOf]; omega
            · have d3 : (ak == 3) = false := by simpa using h3
              have HB5 : Hid (bv = backsA T.alarms + backsM (T.msgs.take (k + 1))) := by unfold Hid; rw [HBS.out, hBk.out, if_neg h3]; omega
              clear h3
              go_wp2_with fail
              go_roundw
              case rel => exact ⟨k + 1, _, bv, by omega, by go_num, rfl, rfl, C4, HM2, HB5⟩
              case measure => simp [intOf]; omega
        · obtain rfl : k = T.msgs.length := by omega
          rw [List.take_length] at hC hMx hBk
          have n8 := NB.out.kept hC.out.kept (fun x => x)
          have c3 := n8.cell 3 rfl
          have c7 := n8.cell 7 rfl
          have hwi : IntKind.i64.wrap ((T.isrs.length : Int) + 4) = (T.isrs.length : Int) + 4 := IntWalk.i64_in _ (by omega)
          have KF := Lib.hid (K0.out.then hC.out.kept (fun _ x => x.elim))
          clear n8 hC
          go_wp2_with fail
          go_quiet (fail)
          go_wp2_with fail
          refine bodyPost_ret (v := .tuple #[.int .i64 T.rings.length, .int .i64 ((T.isrs.length : Int) + 4), .int .i64 mv, .int .i64 bv]) (by rw [results_tmp4 rfl]; rfl) rfl ?_
          exact ⟨⟨mv, bv, rfl, hMx.out, hBk.out⟩, KF.out.drewN _⟩
end Go.Proofs.Ytnfpiocjdhipcaa.TC
