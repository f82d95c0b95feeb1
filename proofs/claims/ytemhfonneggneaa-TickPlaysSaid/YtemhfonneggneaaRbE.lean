/- The document's board: Next. -/
import Derived.Test.YtemhfonneggneaaRbC
import Derived.Test.YtemhfonneggneaaBdS
/- The document's board: Requested, Next. -/
namespace Go.Proofs.Ytemhfonneggneaa.RB
open Go.RowKit Go.Fr Go.Tb Go.Proofs.Ytemhfonneggneaa.CK
open Go.Proofs.Ytemhfonneggneaa.BD (Ob ob_nil reqB reqB_succ reqB_len reqB_mem pick infoI)
attribute [local go_sem] Oper.semAt_some

section
variable {w w' : World} {p : Nat} {M : Rm} {T : Tb} {V : List Nat} {A : List (Bool × Nat × Nat)} {R : List Bool} {S : Nat → Prop}
set_option maxRecDepth 100000 in
set_option maxHeartbeats 4000000 in
theorem requested_ok (hs : IsRb w p M T V A R) (hl : R.length ≤ 32) : Calls Try.prog 54 #[.pointer (some ⟨p, 0, none⟩)] w fun e w' =>
    ∃ ao c, e = .returned (.slice ao (reqB R R.length).length c) ∧ Ob w w' ao c (reqB R R.length) ∧ Kept (fun _ => False) w w' := by
  obtain ⟨i0, hi, hz0, hz1, hz2⟩ := info_parts infoI
  have B0 : Hid (Ob w w none 0 (reqB R 0)) := ob_nil w
  obtain ⟨F, hF⟩ : ∃ F, reqB R R.length = F := ⟨_, rfl⟩
  rw [hF]
  have HF := Lib.hid hF
  have HS := Lib.hid hs
  clear hF hs
  go_enter Try.func54, Try.ntmps54
  go_wp2_with fail
  go_loopw [3, 4] (fun l i wr => ∃ (k : Nat) (ao : Option Addr) (c : Nat), k ≤ R.length ∧ i = .int .i64 k ∧ l = .slice ao (reqB R k).length c ∧ Hid (Kept (fun _ => False) w wr) ∧ Hid (Ob w wr ao c (reqB R k))) (fun _ i _ => R.length - (intOf i).toNat)
  case atStart => exact ⟨0, none, 0, by omega, rfl, rfl, Kept.refl _ _, B0⟩
  case round =>
    clear B0
    obtain ⟨k, ao, c, hk, rfl, rfl, hK, hO⟩ := hrel
    have hs2 := HS.out.same hK.out
    by_cases hkl : k < R.length
    · obtain ⟨r, hr, _⟩ := at_of hkl
      obtain ⟨g, cc, _, c15, q0, _⟩ := hs2.req hr
      have hk0 : (0 : Int) ≤ (k : Int) := by omega
      have hk1 : (k : Int) < (R.length : Int) := by omega
      have hsu := reqB_succ R k
      have hle := reqB_len R k
      rw [hr] at hsu
      obtain ⟨O, hO'⟩ : ∃ O, reqB R k = O := ⟨_, rfl⟩
      rw [hO'] at hO hsu hle ⊢
      have HSU := Lib.hid hsu
      have hsz := hK.out.size
      clear hsu hO' hr hs2
      cases r with
      | true =>
        go_wp2_with (at_builtin; refine wpList_append_any rfl (.tmp 21) (.tmp 23) 40 rfl 3 i0 (.int .i64 0) 1 8 Try.underlying40 hi hz0 hz1 hz2 rfl (by decide) _ _ _ (O.map (Value.int .i64)) rfl (row_alloc hO.out.row _) _ 1 1 [.int .i64 (k : Int)] rfl (shows_new _ [_] _ (by simp) rfl) (by simp [Value.oneCell']) (by unfold maxLen; omega) (by omega) ?_; intro ao5 c5 w5 r1 r2 r3)
        have e1 : reqB R (k + 1) = O ++ [(k : Int)] := by rw [HSU.out]; simp
        have O5 : Hid (Ob w w5 ao5 c5 (reqB R (k + 1))) := by unfold Hid; rw [e1]; exact hO.out.snoc hsz r1 r3
        have KC : Hid (Kept (fun _ => False) w w5) := hK.out.then ((((Kept.refl _ wr).alloc _).grown r2 (fun i e => Or.inl e)) : Kept (fun i => (Value.slice ao O.length c).ownBlock = some i) wr w5) (fun i e => Or.inr (hO.out.own i e))
        have HL5 : Hid (O.length + 1 = (reqB R (k + 1)).length) := by unfold Hid; rw [e1]; simp
        clear r1 r2 r3 hO e1
        go_wp2_with fail
        go_roundw
        case rel => exact ⟨k + 1, ao5, c5, by omega, by go_num, by rw [HL5.out], KC, O5⟩
        case measure => simp [intOf]; omega
      | false =>
        have e1 : reqB R (k + 1) = O := by rw [HSU.out]; simp
        have O5 : Hid (Ob w wr ao c (reqB R (k + 1))) := by unfold Hid; rw [e1]; exact hO.out
        have HL5 : Hid (O.length = (reqB R (k + 1)).length) := by unfold Hid; rw [e1]
        clear hO e1
        go_wp2_with fail
        go_roundw
        case rel => exact ⟨k + 1, ao, c, by omega, by go_num, by rw [HL5.out], hK, O5⟩
        case measure => simp [intOf]; omega
    · obtain rfl : k = R.length := by omega
      obtain ⟨o1, k1, o2, k2, o3, k3, _, _, _, _, _, c15⟩ := hs2.lists
      rw [HF.out] at hO ⊢
      clear hs2
      go_wp2_with fail
      go_ret
      exact ⟨ao, c, rfl, hO.out, hK.out⟩

/-- what is chosen of the first k requests -/
def best (T : Tb) (R : List Bool) (k : Nat) (level : Int) (g : Bool × Int × Int) : Int × Int := (reqB R k).foldl (pick T g) (-1, level)
theorem best_succ (T : Tb) (R : List Bool) (k : Nat) (level : Int) (g : Bool × Int × Int) : best T R (k + 1) level g = if R[k]? = some true then pick T g (best T R k level g) (k : Int) else best T R k level g := by
  unfold best
  rw [reqB_succ, List.foldl_append]
  split <;> rfl
/-- nothing is chosen yet, or one above the level -/
def Chosen (T : Tb) (level : Int) (bl : Int × Int) : Prop := (bl.1 = -1 ∧ bl.2 = level) ∨ ∃ (m : Nat) (y : IsrR), bl.1 = (m : Int) ∧ T.isrs[m]? = some y ∧ bl.2 = y.pr ∧ level < y.pr
theorem pick_chosen {T : Tb} {g : Bool × Int × Int} {level : Int} {bl : Int × Int} {k : Nat} (h : Chosen T level bl) : Chosen T level (pick T g bl (k : Int)) := by
  unfold pick
  rw [Int.toNat_natCast]
  cases hx : T.isrs[k]? with
  | none => exact h
  | some x =>
    dsimp only
    split
    · rename_i hc
      refine Or.inr ⟨k, x, rfl, hx, rfl, ?_⟩
      rcases h with ⟨_, h2⟩ | ⟨_, y, _, _, h2, h3⟩
      · rw [h2] at hc; exact hc.1
      · rw [h2] at hc; exact Int.lt_trans h3 hc.1
    · exact h
theorem best_chosen (T : Tb) (R : List Bool) (level : Int) (g : Bool × Int × Int) : ∀ k, Chosen T level (best T R k level g)
  | 0 => Or.inl ⟨rfl, rfl⟩
  | k + 1 => by
    rw [best_succ]
    split
    · exact pick_chosen (best_chosen T R level g k)
    · exact best_chosen T R level g k
end
end Go.Proofs.Ytemhfonneggneaa.RB
namespace Go.Proofs.Ytemhfonneggneaa.RB
open Go.RowKit Go.Fr Go.Tb Go.Proofs.Ytemhfonneggneaa.CK
open Go.Proofs.Ytemhfonneggneaa.BD (Ob ob_nil reqB reqB_succ reqB_len reqB_mem pick infoI)
attribute [local go_sem] Oper.semAt_some

section
variable {w w' : World} {p : Nat} {M : Rm} {T : Tb} {V : List Nat} {A : List (Bool × Nat × Nat)} {R : List Bool} {S : Nat → Prop}
set_option maxRecDepth 100000 in
set_option maxHeartbeats 8000000 in
theorem next_ok (level : Int) (gs : Bool) (ga go : Int) (hs : IsRb w p M T V A R) (hT : TabIn w T) (hl : R.length ≤ 32) (hcat : ∀ x ∈ T.isrs, x.cat = 1 ∨ x.cat = 2) :
    Calls Try.prog 49 #[.pointer (some ⟨p, 0, none⟩), .int .i64 level, .agg #[.bool gs, .int .i64 ga, .int .i64 go]] w fun e w' =>
    e = .returned (.tuple #[.int .i64 (best T R R.length level (gs, ga, go)).1, .bool (decide (0 ≤ (best T R R.length level (gs, ga, go)).1))]) ∧ Kept (fun _ => False) w w' := by
  have kA := (Kept.refl (fun _ => False) w).alloc (.cells #[.bool gs, .int .i64 ga, .int .i64 go] 46)
  have nA := Blk.new w [.bool gs, .int .i64 ga, .int .i64 go] 46
  obtain ⟨w1, hw1⟩ : ∃ w1, w.alloc (.cells #[.bool gs, .int .i64 ga, .int .i64 go] 46) = w1 := ⟨_, rfl⟩
  obtain ⟨N, hN⟩ : ∃ N, w.heap.size = N := ⟨_, rfl⟩
  rw [hw1] at kA nA
  rw [hN] at nA
  have HS := Lib.hid (hs.same kA)
  have HT := Lib.hid (hT.same kA)
  have NA := Lib.hid nA
  have KA := Lib.hid kA
  have HCAT := Lib.hid hcat
  have HW1 := Lib.hid hw1
  have HN := Lib.hid hN
  have hlen := hs.lens.2.2
  obtain ⟨F, hF⟩ : ∃ F, best T R R.length level (gs, ga, go) = F := ⟨_, rfl⟩
  rw [hF]
  have HF := Lib.hid hF
  obtain ⟨Z, hZ⟩ : ∃ Z, (#[.bool gs, .int .i64 ga, .int .i64 go] : Array Value) = Z := ⟨_, rfl⟩
  have hsz : Z.size = 3 := by rw [← hZ]; rfl
  have hne : (Z = #[]) = False := by rw [← hZ]; simp
  rw [hZ] at HW1 ⊢
  clear hs hT nA kA hcat hw1 hN hF hZ
  go_enter Try.func49, Try.ntmps49
  go_upto_region 1 with fail
  rw [HW1.out]
  try rw [HN.out]
  clear HW1 HN hsz hne
  go_wp2_with fail
  go_loopw [8, 9] (fun b i wr => ∃ (k : Nat) (be lv : Int), k ≤ R.length ∧ i = .int .i64 k ∧ b = .int .i64 be ∧ Hid (best T R k level (gs, ga, go) = (be, lv)) ∧ Hid (Kept (fun _ => False) w1 wr)) (fun _ i _ => R.length - (intOf i).toNat)
  case atStart => exact ⟨0, -1, level, Nat.zero_le _, rfl, rfl, rfl, Kept.refl _ _⟩
  case round =>
    obtain ⟨k, be, lv, hk, rfl, rfl, hB, hK⟩ := hrel
    have hs2 := HS.out.same hK.out
    by_cases hkl : k < R.length
    · obtain ⟨r, hr, _⟩ := at_of hkl
      obtain ⟨x, hx, hmx⟩ := at_of (l := T.isrs) (k := k) (by omega)
      have hxc := HCAT.out x hmx
      obtain ⟨b7, o7, h7, _, hl7⟩ := camel_at (camel_same HT.out.isrs hK.out) hx
      obtain ⟨_, _, _, _, c7⟩ := hs2.tab
      obtain ⟨o1, k1, o2, k2, o3, k3, _, _, _, _, _, c15⟩ := hs2.lists
      rw [h7] at c7
      have e0 := hl7 0 _ rfl
      have e1 := hl7 1 _ rfl
      have e2 := hl7 2 _ rfl
      simp only [Nat.add_zero] at e0
      have hk0 : (0 : Int) ≤ (k : Int) := by omega
      have hk1 : (k : Int) < (R.length : Int) := by omega
      have hk2 : (k : Int) < (T.isrs.length : Int) := by omega
      have hbs := best_succ T R k level (gs, ga, go)
      rw [hr, hB.out] at hbs
      have hch := best_chosen T R level (gs, ga, go) k
      rw [hB.out] at hch
      have hpk : pick T (gs, ga, go) (be, lv) (k : Int) = if lv < x.pr ∧ gs = false ∧ ga = 0 ∧ (x.cat ≠ 2 ∨ go = 0) then ((k : Int), x.pr) else (be, lv) := by
        unfold pick
        rw [Int.toNat_natCast, hx]
      rw [hpk] at hbs
      obtain ⟨xcat, xpr, xoa, xoc, xown⟩ := x
      dsimp only at e0 e1 e2 hbs hxc
      have HX := Lib.hid hx
      have HR := Lib.hid hr
      have HBS := Lib.hid hbs
      have HCH := Lib.hid hch
      have HXC := Lib.hid hxc
      have HS2 := Lib.hid hs2
      have H7 := Lib.hid h7
      clear hl7 hx hr hbs hch hpk hxc hs2 h7 hB hmx
      go_upto_region 6 with fail
      have kB := (Kept.refl (fun _ => False) wr).alloc (.cells #[.int .i64 xcat, .int .i64 xpr, .slice xoa xown.length xoc] 93)
      have nB := Blk.new wr [.int .i64 xcat, .int .i64 xpr, .slice xoa xown.length xoc] 93
      obtain ⟨w5, hw5⟩ : ∃ w5, wr.alloc (.cells #[.int .i64 xcat, .int .i64 xpr, .slice xoa xown.length xoc] 93) = w5 := ⟨_, rfl⟩
      obtain ⟨M5, hM5⟩ : ∃ M, wr.heap.size = M := ⟨_, rfl⟩
      rw [hw5] at kB nB ⊢
      rw [hM5] at nB
      try rw [hM5]
      have y0 := nB.cell 0 rfl
      have y1 := nB.cell 1 rfl
      have nG := (NA.out.kept hK.out (fun x => x)).kept kB (fun x => x)
      have z0 := nG.cell 0 rfl
      have z1 := nG.cell 1 rfl
      have z2 := nG.cell 2 rfl
      have KB := Lib.hid (hK.out.then kB (fun _ x => x.elim))
      have HS5 := Lib.hid (HS2.out.same kB)
      clear hw5 hM5 kB nB nG e0 e1 e2 c7 c15 hK HS2
      go_cut [11] (fun t wx => wx = w5 ∧ ∃ q : Bool, t = .bool q ∧ Hid (q = true ↔ (gs = false ∧ ga = 0 ∧ (xcat = 1 ∨ go = 0))))
      case first =>
        go_wp2_with fail
        all_goals
          go_meet
          refine ⟨rfl, _, rfl, ?_⟩
          unfold Hid
          go_light
          grind
      case rest =>
        obtain ⟨hwc, q, rfl, hq⟩ := hcut
        subst hwc
        clear z0 z1 z2 y0
        obtain ⟨gg, cc, _, c15, q0, _⟩ := HS5.out.req HR.out
        obtain ⟨_, _, _, _, c7⟩ := HS5.out.tab
        have hcq : Hid (q = true ↔ (gs = false ∧ ga = 0 ∧ (xcat ≠ 2 ∨ go = 0))) := by
          unfold Hid
          rw [hq.out]
          have := HXC.out
          constructor
          · rintro ⟨h1, h2, h3⟩
            exact ⟨h1, h2, h3.imp (fun h => by omega) id⟩
          · rintro ⟨h1, h2, h3⟩
            exact ⟨h1, h2, h3.imp (fun h => by omega) id⟩
        clear hq
        have keep : Hid ((r = false ∨ q = false ∨ ¬ lv < xpr) → best T R (k + 1) level (gs, ga, go) = (be, lv)) := fun h => by
          have hb := HBS.out
          rcases h with rfl | rfl | h
          · rw [hb, if_neg (by simp)]
          · rw [hb]
            split
            · rw [if_neg (fun h => by have := hcq.out.2 h.2; cases this)]
            · rfl
          · rw [hb]
            split
            · rw [if_neg (fun h2 => h h2.1)]
            · rfl
        have take : Hid ((r = true ∧ q = true ∧ lv < xpr) → best T R (k + 1) level (gs, ga, go) = ((k : Int), xpr)) := fun ⟨h1, h2, h3⟩ => by
          have hb := HBS.out
          subst h1 h2
          rw [hb, if_pos rfl, if_pos ⟨h3, hcq.out.1 rfl⟩]
        clear HBS hcq
        clear HS5 HCAT HXC HX H7
        cases r with
        | false =>
          have hb := keep.out (Or.inl rfl)
          have HB := Lib.hid hb
          clear hb keep take HCH c7
          go_wp2_with fail
          go_quiet (fail)
          go_wp2_with fail
          go_roundw
          case rel => exact ⟨k + 1, be, lv, by omega, by go_num, rfl, HB, KB.out.drewN _⟩
          case measure => simp [intOf]; omega
        | true =>
          cases q with
          | false =>
            have hb := keep.out (Or.inr (Or.inl rfl))
            have HB := Lib.hid hb
            clear hb keep take HCH c7
            go_wp2_with fail
            go_quiet (fail)
            go_wp2_with fail
            go_roundw
            case rel => exact ⟨k + 1, be, lv, by omega, by go_num, rfl, HB, KB.out.drewN _⟩
            case measure => simp [intOf]; omega
          | true =>
            by_cases hlev : level < xpr
            · have d0 : decide (level < xpr) = true := by simpa using hlev
              rcases HCH.out with ⟨hb1, hl1⟩ | ⟨m, y, hb1, hy, hl1, hl2⟩
              · dsimp only at hb1 hl1
                subst hb1 hl1
                have hb := take.out ⟨rfl, rfl, hlev⟩
                have HB := Lib.hid hb
                clear hb keep take HCH c7 hlev
                go_wp2_with fail
                go_quiet (fail)
                go_wp2_with fail
                go_roundw
                case rel => exact ⟨k + 1, k, xpr, by omega, by go_num, rfl, HB, KB.out.drewN _⟩
                case measure => simp [intOf]; omega
              · dsimp only at hb1 hl1
                subst hb1 hl1
                have hml : m < T.isrs.length := (List.getElem?_eq_some_iff.1 hy).1
                have hm0 : (0 : Int) ≤ (m : Int) := by omega
                have hm1 : (m : Int) < (T.isrs.length : Int) := by omega
                obtain ⟨b8, o8, h8, _, hl8⟩ := camel_at (camel_same HT.out.isrs KB.out) hy
                rw [h8] at c7
                have f1 := hl8 1 _ rfl
                obtain ⟨ycat, ypr, yoa, yoc, yown⟩ := y
                dsimp only at f1 keep take ⊢
                clear hl8 h8 hy HCH hl2
                by_cases hlt : ypr < xpr
                · have d1 : decide (ypr < xpr) = true := by simpa using hlt
                  have hb := take.out ⟨rfl, rfl, hlt⟩
                  have HB := Lib.hid hb
                  clear hb keep take hlev hlt
                  go_wp2_with fail
                  go_quiet (fail)
                  go_wp2_with fail
                  go_roundw
                  case rel => exact ⟨k + 1, k, xpr, by omega, by go_num, rfl, HB, KB.out.drewN _⟩
                  case measure => simp [intOf]; omega
                · have d1 : decide (ypr < xpr) = false := by simpa using hlt
                  have hb := keep.out (Or.inr (Or.inr hlt))
                  have HB := Lib.hid hb
                  clear hb keep take hlev hlt
                  go_wp2_with fail
                  go_quiet (fail)
                  go_wp2_with fail
                  go_roundw
                  case rel => exact ⟨k + 1, m, ypr, by omega, by go_num, rfl, HB, KB.out.drewN _⟩
                  case measure => simp [intOf]; omega
            · have d0 : decide (level < xpr) = false := by simpa using hlev
              have hnl : ¬ lv < xpr := by
                rcases HCH.out with ⟨_, hl1⟩ | ⟨m, y, _, _, hl1, hl2⟩
                · dsimp only at hl1; omega
                · dsimp only at hl1; omega
              have hb := keep.out (Or.inr (Or.inr hnl))
              have HB := Lib.hid hb
              clear hb keep take HCH c7 hlev hnl
              go_wp2_with fail
              go_quiet (fail)
              go_wp2_with fail
              go_roundw
              case rel => exact ⟨k + 1, be, lv, by omega, by go_num, rfl, HB, KB.out.drewN _⟩
              case measure => simp [intOf]; omega
    · obtain rfl : k = R.length := by omega
      obtain ⟨o1, k1, o2, k2, o3, k3, _, _, _, _, _, c15⟩ := hs2.lists
      have hfb := HF.out.symm.trans hB.out
      have HFB := Lib.hid hfb
      clear hs2 hfb
      go_wp2_with fail
      go_ret2
      rw [HFB.out]
      exact ⟨rfl, KA.out.then hK.out (fun _ x => x.elim)⟩
end
end Go.Proofs.Ytemhfonneggneaa.RB
