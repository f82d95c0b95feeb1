/- Package tick: Requested, Next, Counters. -/
import Derived.Test.YtemhfonneggneaaBdR
namespace Go.Proofs.Ytemhfonneggneaa.BD
open Go.RowKit Go.Fr Go.Tb
open Go.Proofs.Ytemhfonneggneaa.CK (IsClk foot value_ok)
attribute [local go_sem] Oper.semAt_some

/-- the requests among the first k -/
def reqB (R : List Bool) (k : Nat) : List Int := ((List.range k).filter (fun i => R[i]? == some true)).map (fun i : Nat => (i : Int))
theorem reqB_succ (R : List Bool) (k : Nat) : reqB R (k + 1) = reqB R k ++ (if R[k]? = some true then [(k : Int)] else []) := by
  unfold reqB
  rw [List.range_succ, List.filter_append, List.map_append]
  congr 1
  simp only [List.filter_cons, List.filter_nil]
  by_cases h : R[k]? = some true <;> simp [h]
theorem reqB_len (R : List Bool) : ∀ k, (reqB R k).length ≤ k
  | 0 => by simp [reqB]
  | k + 1 => by
    have := reqB_len R k
    rw [reqB_succ, List.length_append]
    split <;> simp <;> omega
theorem reqB_mem {R : List Bool} {k : Nat} {a : Int} (h : a ∈ reqB R k) : ∃ i : Nat, a = (i : Int) ∧ i < k ∧ R[i]? = some true := by
  unfold reqB at h
  obtain ⟨i, hi, rfl⟩ := List.mem_map.1 h
  rw [List.mem_filter, List.mem_range] at hi
  exact ⟨i, rfl, hi.1, by simpa using hi.2⟩

section
variable {w : World} {b : Nat} {M : Bm} {T : Tb} {C : List Cs} {R : List Bool}
theorem IsBd.range (hs : IsBd w b M T C R) : w.rangeAt b 6 (R.map Value.bool) := by
  intro i v hv
  obtain ⟨r, hr, rfl⟩ : ∃ r, R[i]? = some r ∧ Value.bool r = v := by
    rw [List.getElem?_map] at hv
    cases h : R[i]? with
    | none => rw [h] at hv; cases hv
    | some r => rw [h] at hv; exact ⟨r, rfl, Option.some.inj hv⟩
  exact hs.blk.cell (6 + i) (bcells_req hr)
theorem info32 : (Try.prog.info? 66).map (·.size) = some 32 := by kernel_rfl
theorem run_idx {cells : List Value} {k : Nat} {v : Value} (hk : k < 32) (hv : cells[k]? = some v) (w : World) : (Instr.index 66 (.agg cells.toArray) (.int .i64 (k : Int))).run Try.prog w = .ok v w := by
  have h0 : (0 : Int) ≤ (k : Int) ∧ (k : Int) < 32 := by omega
  have hz : (sizeOf 4).run Try.prog w = .ok 1 w := by kernel_rfl
  have ha : (isAgg 4).run Try.prog w = .ok false w := by kernel_rfl
  simp [Instr.index, run_underlying Try.underlying66, asIntOf, h0, hz, part, hv, go_sem]
  intro h; omega

set_option maxRecDepth 100000 in
set_option maxHeartbeats 4000000 in
theorem requested_ok (hs : IsBd w b M T C R) : Calls Try.prog 53 #[.pointer (some ⟨b, 0, none⟩)] w fun e w' =>
    ∃ ao c, e = .returned (.slice ao (reqB R 32).length c) ∧ Ob w w' ao c (reqB R 32) ∧ Kept (fun _ => False) w w' := by
  obtain ⟨i0, hi, hz0, hz1, hz2⟩ := info_parts infoI
  have ha := alive_ok hs
  have hr := hs.range
  have h32 : (R.map Value.bool).length = 32 := by rw [List.length_map]; exact hs.n32
  have hi32 := info32
  rw [← h32] at hi32
  have B0 : Hid (Ob w w none 0 (reqB R 0)) := ob_nil w
  have H32 := Lib.hid hs.n32
  obtain ⟨F, hF⟩ : ∃ F, reqB R 32 = F := ⟨_, rfl⟩
  rw [hF]
  have HF := Lib.hid hF
  clear hF hs
  go_enter Try.func53, Try.ntmps53
  go_wp2_with (first
    | (go_at_call 29; refine ha.mono ?_; rintro e w' ⟨rfl, rfl⟩)
    | (refine wpList_load_mid rfl 66 _ rfl b 6 rfl (R.map Value.bool) _ hr Try.underlying66 rfl hi32 ?_))
  clear hr ha h32 hi32
  go_loopw [3, 12] (fun l i wr => ∃ (k : Nat) (ao : Option Addr) (c : Nat), k ≤ 32 ∧ i = .int .i64 k ∧ l = .slice ao (reqB R k).length c ∧ Hid (Kept (fun _ => False) w wr) ∧ Hid (Ob w wr ao c (reqB R k))) (fun _ i _ => 32 - (intOf i).toNat)
  case atStart => exact ⟨0, none, 0, by omega, rfl, rfl, Kept.refl _ _, B0⟩
  case round =>
    clear B0
    obtain ⟨k, ao, c, hk, rfl, rfl, hK, hO⟩ := hrel
    by_cases hkl : k < 32
    · obtain ⟨r, hr⟩ : ∃ r, R[k]? = some r := ⟨_, List.getElem?_eq_getElem (by have := H32.out; omega)⟩
      have hix := run_idx (cells := R.map Value.bool) hkl (by rw [List.getElem?_map, hr]; rfl)
      have hk0 : (0 : Int) ≤ (k : Int) := by omega
      have hk1 : (k : Int) < 32 := by omega
      have hsu := reqB_succ R k
      have hle := reqB_len R k
      rw [hr] at hsu
      obtain ⟨O, hO'⟩ : ∃ O, reqB R k = O := ⟨_, rfl⟩
      rw [hO'] at hO hsu hle ⊢
      have HSU := Lib.hid hsu
      have hsz := hK.out.size
      clear hsu hO' hr
      cases r with
      | true =>
        go_wp2_with (at_builtin; refine wpList_append_any rfl (.tmp 17) (.tmp 19) 40 rfl 3 i0 (.int .i64 0) 1 8 Try.underlying40 hi hz0 hz1 hz2 rfl (by decide) _ _ _ (O.map (Value.int .i64)) rfl (row_alloc hO.out.row _) _ 1 1 [.int .i64 (k : Int)] rfl (shows_new _ [_] _ (by simp) rfl) (by simp [Value.oneCell']) (by unfold maxLen; omega) (by omega) ?_; intro ao5 c5 w5 r1 r2 r3)
        have e1 : reqB R (k + 1) = O ++ [(k : Int)] := by rw [HSU.out]; simp
        have O5 : Hid (Ob w w5 ao5 c5 (reqB R (k + 1))) := by unfold Hid; rw [e1]; exact hO.out.snoc hsz r1 r3
        have KC : Hid (Kept (fun _ => False) w w5) := hK.out.then ((((Kept.refl _ wr).alloc _).grown r2 (fun i e => Or.inl e)) : Kept (fun i => (Value.slice ao O.length c).ownBlock = some i) wr w5) (fun i e => Or.inr (hO.out.own i e))
        have HL5 : Hid (O.length + 1 = (reqB R (k + 1)).length) := by unfold Hid; rw [e1]; simp
        clear r1 r2 r3 hO e1
        go_wp2_with fail
        go_roundw
        case rel => exact ⟨k + 1, ao5, c5, by omega, by go_num, by rw [HL5.out], KC, O5⟩
        case measure => simp [intOf]; omega
      | false =>
        have e1 : reqB R (k + 1) = O := by rw [HSU.out]; simp
        have O5 : Hid (Ob w wr ao c (reqB R (k + 1))) := by unfold Hid; rw [e1]; exact hO.out
        have HL5 : Hid (O.length = (reqB R (k + 1)).length) := by unfold Hid; rw [e1]
        clear hO e1
        go_wp2_with fail
        go_roundw
        case rel => exact ⟨k + 1, ao, c, by omega, by go_num, by rw [HL5.out], hK, O5⟩
        case measure => simp [intOf]; omega
    · obtain rfl : k = 32 := by omega
      rw [HF.out] at hO ⊢
      go_wp2_with fail
      go_ret
      exact ⟨ao, c, rfl, hO.out, hK.out⟩

theorem infoU : (Try.prog.info? 22).map (fun i => (i.zero, i.size, i.bytes)) = some (some (.int .u32 0), 1, 4) := by kernel_rfl
set_option maxRecDepth 100000 in
set_option maxHeartbeats 4000000 in
theorem counters_ok (hs : IsBd w b M T C R) (hl : T.counters.length ≤ 64) : Calls Try.prog 24 #[.pointer (some ⟨b, 0, none⟩)] w fun e w' =>
    ∃ ao c, e = .returned (.slice ao C.length c) ∧ Row w' 22 1 (.slice ao C.length c) C.length (C.map (fun s => Value.int .u32 s.x)) ∧ (∀ g, (Value.slice ao C.length c).ownBlock = some g → w.heap.size ≤ g) ∧ Kept (fun _ => False) w w' := by
  obtain ⟨i0, hi, hz0, hz1, hz2⟩ := info_parts infoU
  have ha := alive_ok hs
  obtain ⟨_, _, _, _, a3, k3, _, _, _, _, _, _, e3, _, _, _, _, c3, _⟩ := hs.heads
  have hlC : C.length = T.counters.length := hs.lens.2.2
  have HS := Lib.hid hs
  have B0 : Hid (Row w 22 1 (.slice none (C.take 0).length 0) (C.take 0).length ((C.take 0).map (fun s => Value.int .u32 s.x)) ∧ ∀ g, (Value.slice none (C.take 0).length 0).ownBlock = some g → w.heap.size ≤ g) := ⟨World.ownsRow_nil _ _ _ _, by simp [Value.ownBlock]⟩
  clear hs
  go_enter Try.func24, Try.ntmps24
  go_wp2_with (go_at_call 29; refine ha.mono ?_; rintro e w' ⟨rfl, rfl⟩)
  clear ha c3
  go_loopw [3, 13] (fun l i wr => ∃ (k : Nat) (ao : Option Addr) (c : Nat), k ≤ C.length ∧ i = .int .i64 k ∧ l = .slice ao (C.take k).length c ∧ Hid (Kept (fun _ => False) w wr) ∧ Hid (Row wr 22 1 (.slice ao (C.take k).length c) (C.take k).length ((C.take k).map (fun s => Value.int .u32 s.x)) ∧ ∀ g, (Value.slice ao (C.take k).length c).ownBlock = some g → w.heap.size ≤ g)) (fun _ i _ => C.length - (intOf i).toNat)
  case atStart => exact ⟨0, none, 0, Nat.zero_le _, rfl, rfl, Kept.refl _ _, B0⟩
  case round =>
    clear B0
    obtain ⟨k, ao, c, hk, rfl, rfl, hK, hO⟩ := hrel
    by_cases hkl : k < C.length
    · obtain ⟨s, cb, v, r, hc, hcb, hv, hr⟩ := HS.out.at (c := k) (by omega)
      have hs1 := HS.out.same hK.out
      obtain ⟨g, o, cc, e3', hg, q0, q1⟩ := hs1.ctr hcb hv
      rw [e3] at e3'
      cases e3'
      obtain ⟨av, ak, rfl, _⟩ := hs1.sls k v hv
      have hk0 : (0 : Int) ≤ (k : Int) := by omega
      have hk1 : (k : Int) < (T.counters.length : Int) := by omega
      have kA := (Kept.refl (fun _ => False) wr).alloc (.cells #[.pointer (some ⟨cb.1, 0, none⟩), .slice av (alsOf T.alarms k).length ak] 87)
      have y0 := (Blk.new wr [.pointer (some ⟨cb.1, 0, none⟩), .slice av (alsOf T.alarms k).length ak] 87).cell 0 rfl
      have hva := value_ok ((hs1.same kA).clk k s cb hc hcb)
      have htk : C.take (k + 1) = C.take k ++ [s] := by rw [List.take_add_one, hc]; rfl
      have hlt : (C.take k).length ≤ 64 := by rw [List.length_take]; omega
      obtain ⟨O, hO'⟩ : ∃ O, C.take k = O := ⟨_, rfl⟩
      rw [hO'] at hO htk hlt ⊢
      have HTK := Lib.hid htk
      have hsz := hK.out.size
      have HKA := Lib.hid (hK.out.then kA (fun _ x => x.elim))
      have hOr := row_kept hO.out.1 kA (fun _ _ x => x)
      have hszA := kA.size
      clear hs1 hc hcb hv hr htk hO'
      go_upto_region 6 with fail
      obtain ⟨w1, hw1⟩ : ∃ w1, wr.alloc (.cells #[.pointer (some ⟨cb.1, 0, none⟩), .slice av (alsOf T.alarms k).length ak] 87) = w1 := ⟨_, rfl⟩
      rw [hw1] at kA y0 hva HKA hOr hszA ⊢
      clear hw1 kA q0 q1
      go_wp2_with (first
        | (go_at_call 55; refine hva.mono ?_; rintro e w' ⟨rfl, rfl⟩)
        | (at_builtin; refine wpList_append_any rfl (.tmp 17) (.tmp 21) 72 rfl 22 i0 (.int .u32 0) 1 4 Try.underlying72 hi hz0 hz1 hz2 rfl (by decide) _ _ _ (O.map (fun s => Value.int .u32 s.x)) rfl (row_alloc hOr _) _ 1 1 [.int .u32 s.x] rfl (shows_new _ [_] _ (by simp) rfl) (by simp [Value.oneCell']) (by unfold maxLen; omega) (by omega) ?_; intro ao5 c5 w5 r1 r2 r3))
      have hl1 : (C.take (k + 1)).length = O.length + 1 := by rw [HTK.out]; simp
      have O5 : Hid (Row w5 22 1 (.slice ao5 (C.take (k + 1)).length c5) (C.take (k + 1)).length ((C.take (k + 1)).map (fun s => Value.int .u32 s.x)) ∧ ∀ g, (Value.slice ao5 (C.take (k + 1)).length c5).ownBlock = some g → w.heap.size ≤ g) := by
        unfold Hid
        rw [hl1]
        refine ⟨?_, fun g hg => ?_⟩
        · rw [HTK.out, List.map_append]; exact r1
        · rcases r3 g hg with h1 | h1
          · exact hO.out.2 g h1
          · rw [World.size_alloc] at h1; omega
      have KC : Hid (Kept (fun _ => False) w w5) := HKA.out.then ((((Kept.refl _ w1).alloc _).grown r2 (fun i e => Or.inl e)) : Kept (fun i => (Value.slice ao O.length c).ownBlock = some i) w1 w5) (fun i e => Or.inr (hO.out.2 i e))
      have HL := Lib.hid hl1
      clear r1 r2 r3 hO hOr hva y0 hl1
      go_wp2_with fail
      go_roundw
      case rel => exact ⟨k + 1, ao5, c5, by omega, by go_num, by rw [HL.out], KC, O5⟩
      case measure => simp [intOf]; omega
    · obtain rfl : k = C.length := by omega
      rw [List.take_length] at hO ⊢
      rw [← hlC]
      have hO2 := hO.out
      go_wp2_with fail
      go_ret
      exact ⟨ao, c, rfl, hO2.1, hO2.2, hK.out⟩

/-- one request more is looked at -/
def pick (T : Tb) (g : Bool × Int × Int) (bl : Int × Int) (i : Int) : Int × Int :=
  match T.isrs[i.toNat]? with
  | some x => if bl.2 < x.pr ∧ g.1 = false ∧ g.2.1 = 0 ∧ (x.cat ≠ 2 ∨ g.2.2 = 0) then (i, x.pr) else bl
  | none => bl
def nextOf (T : Tb) (R : List Bool) (level : Int) (g : Bool × Int × Int) : Int × Int := (reqB R 32).foldl (pick T g) (-1, level)
set_option maxRecDepth 100000 in
set_option maxHeartbeats 4000000 in
theorem next_ok (level : Int) (g : Bool × Int × Int) (hs : IsBd w b M T C R) (hR : ∀ i : Nat, R[i]? = some true → i < T.isrs.length) : Calls Try.prog 23 #[.pointer (some ⟨b, 0, none⟩), .int .i64 level, .agg #[.bool g.1, .int .i64 g.2.1, .int .i64 g.2.2]] w fun e w' =>
    e = .returned (.tuple #[.int .i64 (nextOf T R level g).1, .bool (decide (0 ≤ (nextOf T R level g).1))]) ∧ Kept (fun _ => False) w w' := by
  obtain ⟨gs, ga, go⟩ := g
  dsimp only
  obtain ⟨_, _, _, _, _, _, a5, k5, _, _, _, _, _, _, _, _, _, _, _⟩ := hs.heads
  have kA := (Kept.refl (fun _ => False) w).alloc (.cells #[.bool gs, .int .i64 ga, .int .i64 go] 46)
  have nA := Blk.new w [.bool gs, .int .i64 ga, .int .i64 go] 46
  obtain ⟨w1, hw1⟩ : ∃ w1, w.alloc (.cells #[.bool gs, .int .i64 ga, .int .i64 go] 46) = w1 := ⟨_, rfl⟩
  obtain ⟨N, hN⟩ : ∃ N, w.heap.size = N := ⟨_, rfl⟩
  have hs1 := hs.same kA
  rw [hw1] at hs1 kA
  have nA' : Blk w1 N [.bool gs, .int .i64 ga, .int .i64 go] 46 := by rw [← hw1, ← hN]; exact nA
  have hrq := requested_ok hs1
  have hfl := reqB_len R 32
  have hmem := fun a => reqB_mem (R := R) (k := 32) (a := a)
  have hnx : nextOf T R level (gs, ga, go) = (reqB R 32).foldl (pick T (gs, ga, go)) (-1, level) := rfl
  obtain ⟨F, hF⟩ : ∃ F, reqB R 32 = F := ⟨_, rfl⟩
  rw [hF] at hrq hfl hnx
  simp only [hF] at hmem
  have HMEM := Lib.hid hmem
  have HNX := Lib.hid hnx
  have HS := Lib.hid hs1
  have HR := Lib.hid hR
  have NA := Lib.hid nA'
  have KA := Lib.hid kA
  obtain ⟨Z, hZ⟩ : ∃ Z, (#[.bool gs, .int .i64 ga, .int .i64 go] : Array Value) = Z := ⟨_, rfl⟩
  have hsz : Z.size = 3 := by rw [← hZ]; rfl
  have hne : (Z = #[]) = False := by rw [← hZ]; simp
  rw [hZ] at hw1 ⊢
  have HW1 := Lib.hid hw1
  have HNN := Lib.hid hN
  clear hZ
  clear hF hs hs1 hR hmem hnx nA nA' kA hw1 hN
  go_enter Try.func23, Try.ntmps23
  go_upto_region 1 with fail
  rw [HW1.out]
  try rw [HNN.out]
  go_wp2_with (go_at_call 53; refine hrq.mono ?_; rintro e w2 ⟨ao, c, rfl, hO, k2⟩)
  have HO := Lib.hid hO
  have K2 := Lib.hid k2
  clear hO k2 hrq
  go_loopw [1, 8, 15] (fun lv be i wr => ∃ k : Nat, k ≤ F.length ∧ i = .int .i64 k ∧ be = .int .i64 ((F.take k).foldl (pick T (gs, ga, go)) (-1, level)).1 ∧ lv = .int .i64 ((F.take k).foldl (pick T (gs, ga, go)) (-1, level)).2 ∧ Hid (Kept (fun _ => False) w2 wr)) (fun _ _ i _ => F.length - (intOf i).toNat)
  case atStart => exact ⟨0, Nat.zero_le _, rfl, rfl, rfl, Kept.refl _ _⟩
  case round =>
    obtain ⟨k, hk, rfl, rfl, rfl, hK⟩ := hrel
    by_cases hkl : k < F.length
    · obtain ⟨a, hp, hpm⟩ := at_of hkl
      obtain ⟨n, rfl, _, hRn⟩ := HMEM.out a hpm
      have hni := HR.out n hRn
      obtain ⟨x, hx, _⟩ := at_of hni
      have hk0 : (0 : Int) ≤ (k : Int) := by omega
      have hk1 : (k : Int) < (F.length : Int) := by omega
      have n0 : (0 : Int) ≤ (n : Int) := by omega
      have n1 : (n : Int) < (T.isrs.length : Int) := by omega
      have hrow := row_kept HO.out.row hK.out (fun _ _ x => x)
      rcases row_forms hrow with ⟨_, h0⟩ | ⟨gf, cf, hv, _⟩
      · omega
      cases hv
      have f0 := row_cell hrow k (by rw [List.getElem?_map, hp]; rfl)
      have hs3 := (HS.out.same K2.out).same hK.out
      obtain ⟨_, _, _, _, _, _, a5, k5, _, _, _, _, _, _, h5, _, _, _, c5⟩ := hs3.heads
      obtain ⟨b5, o5, rfl, _, hcl⟩ := camel_at h5 (k := n) (x := (x.cat, x.pr)) (by rw [List.getElem?_map, hx]; rfl)
      have q0 := hcl 0 _ rfl
      have q1 := hcl 1 _ rfl
      simp only [Nat.add_zero] at q0
      have htk : (F.take (k + 1)).foldl (pick T (gs, ga, go)) (-1, level) = pick T (gs, ga, go) ((F.take k).foldl (pick T (gs, ga, go)) (-1, level)) n := by
        rw [List.take_add_one, hp]; simp [List.foldl_append]
      obtain ⟨bl, hbl⟩ : ∃ bl, (F.take k).foldl (pick T (gs, ga, go)) (-1, level) = bl := ⟨_, rfl⟩
      obtain ⟨be, lv⟩ := bl
      rw [hbl] at htk ⊢
      dsimp only
      have hpk : pick T (gs, ga, go) (be, lv) n = if lv < x.pr ∧ gs = false ∧ ga = 0 ∧ (x.cat ≠ 2 ∨ go = 0) then ((n : Int), x.pr) else (be, lv) := by
        unfold pick
        rw [Int.toNat_natCast, hx]
      rw [hpk] at htk
      obtain ⟨xcat, xpr, xoa, xoc, xown⟩ := x
      dsimp only at q0 q1 htk
      have HTK := Lib.hid htk
      clear htk hbl hpk hx hp hpm hRn hrow hcl h5 hs3
      go_upto_region 6 with fail
      have kB := (Kept.refl (fun _ => False) wr).alloc (.cells #[.int .i64 xcat, .int .i64 xpr] 95)
      have nB := Blk.new wr [.int .i64 xcat, .int .i64 xpr] 95
      have y0 := nB.cell 0 rfl
      have y1 := nB.cell 1 rfl
      have nG := (((NA.out.kept K2.out (fun x => x)).kept hK.out (fun x => x)).kept kB (fun x => x))
      have z0 := nG.cell 0 rfl
      have z1 := nG.cell 1 rfl
      have z2 := nG.cell 2 rfl
      obtain ⟨w5, hw5⟩ : ∃ w5, wr.alloc (.cells #[.int .i64 xcat, .int .i64 xpr] 95) = w5 := ⟨_, rfl⟩
      obtain ⟨M5, hM5⟩ : ∃ M, wr.heap.size = M := ⟨_, rfl⟩
      rw [hw5] at kB y0 y1 z0 z1 z2 ⊢
      rw [hM5] at y0 y1
      try rw [hM5]
      have KB := Lib.hid (hK.out.then kB (fun _ x => x.elim))
      clear hw5 hM5 kB nB nG f0 q0 q1 c5
      go_cut [49] (fun t wx => wx = w5 ∧ ∃ q : Bool, t = .bool q ∧ Hid (q = true ↔ (lv < xpr ∧ gs = false ∧ ga = 0 ∧ (xcat ≠ 2 ∨ go = 0))))
      case first =>
        go_wp2_with fail
        all_goals
          go_meet
          refine ⟨rfl, _, rfl, ?_⟩
          unfold Hid
          go_light
          grind
      case rest =>
        obtain ⟨hwc, q, rfl, hq⟩ := hcut
        subst hwc
        cases q with
        | true =>
          have hc := hq.out.1 rfl
          have HT := HTK.out
          rw [if_pos hc] at HT
          have HT1 := Lib.hid HT
          clear hq hc HT z0 z1 z2 y0
          go_wp2_with fail
          go_quiet (fail)
          go_wp2_with fail
          go_roundw
          case rel => exact ⟨k + 1, by omega, by go_num, by rw [HT1.out], by rw [HT1.out], KB.out.drewN _⟩
          case measure => simp [intOf]; omega
        | false =>
          have hc : ¬ (lv < xpr ∧ gs = false ∧ ga = 0 ∧ (xcat ≠ 2 ∨ go = 0)) := fun h => by cases hq.out.2 h
          have HT := HTK.out
          rw [if_neg hc] at HT
          have HT1 := Lib.hid HT
          clear hq hc HT z0 z1 z2 y0 y1
          go_wp2_with fail
          go_roundw
          case rel => exact ⟨k + 1, by omega, by go_num, by rw [HT1.out], by rw [HT1.out], KB⟩
          case measure => simp [intOf]; omega
    · obtain rfl : k = F.length := by omega
      rw [List.take_length]
      go_wp2_with fail
      go_ret2
      rw [HNX.out]
      exact ⟨rfl, (KA.out.then K2.out (fun _ x => x.elim)).then hK.out (fun _ x => x.elim)⟩
end
end Go.Proofs.Ytemhfonneggneaa.BD
