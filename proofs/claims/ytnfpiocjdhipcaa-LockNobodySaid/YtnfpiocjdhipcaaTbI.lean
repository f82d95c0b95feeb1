/- Package table: isrs. -/
import Derived.Test.YtnfpiocjdhipcaaTbD
namespace Go.Proofs.Ytnfpiocjdhipcaa.TC
open Go.RowKit Go.Fr Go.Tb
attribute [local go_sem] Oper.semAt_some

def IsrA (T : Tb) (x : IsrR) : Prop := (x.cat = 1 ∨ x.cat = 2) ∧ (64 ≤ x.pr ∧ x.pr ≤ 127) ∧ OwnP T x.pr x.own ∧ (x.cat = 1 → x.own.length = 0)
def IsrPair (x y : IsrR) : Prop := x.pr ≠ y.pr ∧ (x.cat = y.cat ∨ (x.cat < y.cat ↔ y.pr < x.pr))
def IsrAt (T : Tb) (k : Nat) : Prop := ∀ x, T.isrs[k]? = some x → IsrA T x ∧ ∀ j y, j < k → T.isrs[j]? = some y → IsrPair x y
def IsrsP (T : Tb) : Prop := ∀ k, k < T.isrs.length → IsrAt T k

set_option maxRecDepth 100000 in
set_option maxHeartbeats 8000000 in
theorem isrs_ok {w : World} {T : Tb} (hT : TabIn w T) (hW : T.Wf) (hic : T.isrs.length ≤ T.ic) :
    Calls Try.prog 63 #[.agg T.cells.toArray] w fun e w' => BoolIs e (IsrsP T) ∧ Kept (fun _ => False) w w' := by
  have k0 : Kept (fun _ => False) w (box w T) := (Kept.refl _ w).alloc _
  have nb : Blk (box w T) w.heap.size T.cells 30 := Blk.new w T.cells 30
  have hT1 := hT.same k0
  obtain ⟨w1, hw1⟩ : ∃ w1, box w T = w1 := ⟨_, rfl⟩
  obtain ⟨B, hB⟩ : ∃ B, w.heap.size = B := ⟨_, rfl⟩
  rw [hw1] at k0 nb hT1
  rw [hB] at nb
  have HT := Lib.hid hT1
  have HW := Lib.hid hW
  have NB := Lib.hid nb
  have K0 := Lib.hid k0
  have hle := hW.lens.2.2.2.2.2.1
  clear hT hT1 hW nb k0
  have hs : T.cells.toArray.size = 13 := rfl
  have hn0 : (T.cells.toArray = #[]) = False := by simp [Tb.cells]
  unfold box at hw1
  generalize T.cells.toArray = Z at hw1 hs hn0 ⊢
  go_enter Try.func63, Try.ntmps63
  go_upto_region 1 with fail
  clear hs hn0 hw1 hB
  have c7 := NB.out.cell 7 rfl
  go_wp2_with fail
  clear c7
  have K1 : Hid (Kept (fun _ => False) w1 w1) := Kept.refl _ _
  go_loopw [10] (fun i wr => ∃ k : Nat, k ≤ T.isrs.length ∧ i = .int .i64 k ∧ Hid (Kept (fun _ => False) w1 wr) ∧ Hid (∀ j, j < k → IsrAt T j)) (fun i _ => T.isrs.length - (intOf i).toNat)
  case atStart => exact ⟨0, Nat.zero_le _, rfl, K1, fun j h => by omega⟩
  case round =>
    clear K1
    obtain ⟨k, hk, rfl, hK, hP⟩ := hrel
    by_cases hkl : k < T.isrs.length
    · obtain ⟨x, hx, hmx⟩ := at_of hkl
      have hwx := HW.out.isrs _ hmx
      have hoc := camel_same (HT.out.iown _ hmx) hK.out
      obtain ⟨xcat, xpr, xoa, xoc, xown⟩ := x
      have hk0 : (0 : Int) ≤ (k : Int) := by omega
      have hk1 : (k : Int) < (T.isrs.length : Int) := by omega
      obtain ⟨b, off, hta, hb, hcl⟩ := camel_at (camel_same HT.out.isrs hK.out) hx
      have e0 := hcl 0 _ rfl
      have e1 := hcl 1 _ rfl
      have e2 := hcl 2 _ rfl
      simp only [Nat.add_zero] at e0
      dsimp only at e0 e1 e2 hwx hoc
      have HX := Lib.hid hx
      have HWX := Lib.hid hwx
      have HTA := Lib.hid hta
      clear hcl hx hwx hmx
      rw [hta]
      clear hta
      go_upto_region 4 with fail
      have nr := Blk.new wr [.int .i64 xcat, .int .i64 xpr, .slice xoa xown.length xoc] 57
      have k2 : Kept (fun _ => False) w1 (wr.alloc (.cells #[.int .i64 xcat, .int .i64 xpr, .slice xoa xown.length xoc] 57)) := hK.out.alloc _
      have ho2 := camel_same hoc ((Kept.refl _ wr).alloc (.cells #[.int .i64 xcat, .int .i64 xpr, .slice xoa xown.length xoc] 57))
      obtain ⟨w2, hw2⟩ : ∃ w2, wr.alloc (.cells #[.int .i64 xcat, .int .i64 xpr, .slice xoa xown.length xoc] 57) = w2 := ⟨_, rfl⟩
      obtain ⟨M, hM⟩ : ∃ M, wr.heap.size = M := ⟨_, rfl⟩
      have nr' : Blk w2 M [.int .i64 xcat, .int .i64 xpr, .slice xoa xown.length xoc] 57 := by rw [← hw2, ← hM]; exact nr
      rw [hw2] at k2 ho2 ⊢
      try rw [hM]
      have NR := Lib.hid nr'
      have K2 := Lib.hid k2
      have HO := Lib.hid ho2
      clear nr nr' hw2 hM k2 ho2 hoc e0 e1 e2
      have y0 := NR.out.cell 0 rfl
      have y1 := NR.out.cell 1 rfl
      have y2 := NR.out.cell 2 rfl
      have nb3 := NB.out.kept K2.out (fun x => x)
      have c0 := nb3.cell 0 rfl
      have c1 := nb3.cell 1 rfl
      have c2 := nb3.cell 2 rfl
      have c3 := nb3.cell 3 rfl
      have c4 := nb3.cell 4 rfl
      have c5 := nb3.cell 5 rfl
      have c6 := nb3.cell 6 rfl
      have c7 := nb3.cell 7 rfl
      have c8 := nb3.cell 8 rfl
      have c9 := nb3.cell 9 rfl
      have c10 := nb3.cell 10 rfl
      have c11 := nb3.cell 11 rfl
      have c12 := nb3.cell 12 rfl
      have hown := own_ok (c := xoc) xpr (HT.out.same K2.out) HW.out HO.out HWX.out.2.2.1 HWX.out.2.2.2
      have HOWN := Lib.hid hown
      clear hown nb3
      go_cut [52] (fun t wx => Hid (Kept (fun _ => False) w2 wx) ∧ ∃ bad : Bool, t = .bool bad ∧ Hid (bad = false ↔ IsrA T ⟨xcat, xpr, xoa, xoc, xown⟩))
      case first =>
        have KR : Hid (Kept (fun _ => False) w2 w2) := Kept.refl _ _
        go_wp2_with (go_at_call 86; refine HOWN.out.mono ?_; rintro e w4 ⟨⟨b4, rfl, hb4⟩, k4⟩; have HB4 := Lib.hid hb4; have K4 := Lib.hid k4; have y0 := (NR.out.kept k4 (fun x => x)).cell 0 rfl; have y2 := (NR.out.kept k4 (fun x => x)).cell 2 rfl; clear hb4 k4; cases b4)
        all_goals
          go_meet
          first
            | (have h4 := HB4.out
               clear HB4
               refine ⟨K4, _, rfl, ?_⟩
               unfold Hid IsrA
               clear HWX
               go_light
               grind)
            | (refine ⟨KR, _, rfl, ?_⟩
               unfold Hid IsrA
               clear HWX
               go_light
               grind)
      case rest =>
        obtain ⟨hk4, bad, rfl, hbad⟩ := hcut
        have K4 := Lib.hid (K2.out.then hk4.out (fun _ x => x.elim))
        have NR4 := Lib.hid (NR.out.kept hk4.out (fun x => x))
        clear y0 y1 y2 c0 c1 c2 c3 c4 c5 c6 c7 c8 c9 c10 c11 c12 HOWN
        cases bad with
        | true =>
          have hb := hbad.out
          have HB : Hid (¬ IsrA T ⟨xcat, xpr, xoa, xoc, xown⟩) := fun h => by cases hb.2 h
          clear hb hbad
          go_wp2_with fail
          go_ret
          exact ⟨bool_no fun h => HB.out (h k hkl _ HX.out).1, K0.out.then K4.out (fun _ x => x.elim)⟩
        | false =>
          have HA : Hid (IsrA T ⟨xcat, xpr, xoa, xoc, xown⟩) := hbad.out.1 rfl
          have c7 := (NB.out.kept K4.out (fun x => x)).cell 7 rfl
          rw [HTA.out] at c7
          have hkc : (k : Int) ≤ (T.ic : Int) := by omega
          clear hbad
          go_wp2_with fail
          clear c7
          have KR : Hid (Kept (fun _ => False) w1 wc) := K4
          go_loopw [58] (fun i wx => ∃ j : Nat, j ≤ k ∧ i = .int .i64 j ∧ Hid (Kept (fun _ => False) wc wx) ∧ Hid (∀ i y, i < j → T.isrs[i]? = some y → IsrPair ⟨xcat, xpr, xoa, xoc, xown⟩ y)) (fun i _ => k - (intOf i).toNat)
          case atStart => exact ⟨0, Nat.zero_le _, rfl, Kept.refl _ _, fun i y h => by omega⟩
          case round =>
            obtain ⟨j, hj, rfl, hKj, hPj⟩ := hrel
            by_cases hjk : j < k
            · obtain ⟨y, hy, _⟩ := at_of (l := T.isrs) (k := j) (by omega)
              obtain ⟨ycat, ypr, yoa, yoc, yown⟩ := y
              have hj0 : (0 : Int) ≤ (j : Int) := by omega
              have hj1 : (j : Int) < (k : Int) := by omega
              obtain ⟨b', off', hta', _, hcl'⟩ := camel_at (camel_same (camel_same HT.out.isrs K4.out) hKj.out) hy
              rw [HTA.out] at hta'
              cases hta'
              have f0 := hcl' 0 _ rfl
              have f1 := hcl' 1 _ rfl
              have f2 := hcl' 2 _ rfl
              simp only [Nat.add_zero] at f0
              dsimp only at f0 f1 f2
              have HY := Lib.hid hy
              clear hcl' hy
              go_upto_region 9 with fail
              have nj := Blk.new wr [.int .i64 ycat, .int .i64 ypr, .slice yoa yown.length yoc] 57
              have kj : Kept (fun _ => False) wc (wr.alloc (.cells #[.int .i64 ycat, .int .i64 ypr, .slice yoa yown.length yoc] 57)) := hKj.out.alloc _
              have z0 := nj.cell 0 rfl
              have z1 := nj.cell 1 rfl
              have nx := (NR4.out.kept hKj.out (fun x => x)).alloc (.cells #[.int .i64 ycat, .int .i64 ypr, .slice yoa yown.length yoc] 57)
              have y0 := nx.cell 0 rfl
              have y1 := nx.cell 1 rfl
              obtain ⟨w5, hw5⟩ : ∃ w5, wr.alloc (.cells #[.int .i64 ycat, .int .i64 ypr, .slice yoa yown.length yoc] 57) = w5 := ⟨_, rfl⟩
              obtain ⟨M5, hM5⟩ : ∃ M, wr.heap.size = M := ⟨_, rfl⟩
              rw [hw5] at kj z0 z1 y0 y1 ⊢
              rw [hM5] at z0 z1
              try rw [hM5]
              have KJ := Lib.hid kj
              clear hw5 hM5 nj nx kj f0 f1 f2 hKj
              go_cut [86] (fun t wx => wx = w5 ∧ ∃ bad : Bool, t = .bool bad ∧ Hid (bad = false ↔ IsrPair ⟨xcat, xpr, xoa, xoc, xown⟩ ⟨ycat, ypr, yoa, yoc, yown⟩))
              case first =>
                go_wp2_with fail
                all_goals
                  go_meet
                  refine ⟨rfl, _, rfl, ?_⟩
                  unfold Hid IsrPair
                  go_light
                  grind
              case rest =>
                obtain ⟨hwc, bad, rfl, hbad⟩ := hcut
                obtain rfl : w5 = wc := hwc.symm
                cases bad with
                | true =>
                  have hb := hbad.out
                  have HB : Hid (¬ IsrPair ⟨xcat, xpr, xoa, xoc, xown⟩ ⟨ycat, ypr, yoa, yoc, yown⟩) := fun h => by cases hb.2 h
                  clear hb hbad y0 y1 z0 z1
                  go_wp2_with fail
                  go_ret
                  exact ⟨bool_no fun h => HB.out ((h k hkl _ HX.out).2 j _ hjk HY.out), K0.out.then (K4.out.then KJ.out (fun _ x => x.elim)) (fun _ x => x.elim)⟩
                | false =>
                  have HN : Hid (∀ i y, i < j + 1 → T.isrs[i]? = some y → IsrPair ⟨xcat, xpr, xoa, xoc, xown⟩ y) := fun i y hi hy => by
                    rcases Nat.lt_or_ge i j with h | h
                    · exact hPj.out i y h hy
                    · obtain rfl : i = j := by omega
                      rw [HY.out] at hy
                      cases hy
                      exact hbad.out.1 rfl
                  clear hbad hPj y0 y1 z0 z1
                  go_wp2_with fail
                  go_roundw
                  case rel => exact ⟨j + 1, by omega, by go_num, KJ, HN⟩
                  case measure => simp [intOf]; omega
            · obtain rfl : j = k := by omega
              have HN : Hid (∀ i, i < j + 1 → IsrAt T i) := fun i hi => by
                rcases Nat.lt_or_ge i j with h | h
                · exact hP.out i h
                · obtain rfl : i = j := by omega
                  intro x hx
                  rw [HX.out] at hx
                  cases hx
                  exact ⟨HA.out, hPj.out⟩
              have KN := Lib.hid (K4.out.then hKj.out (fun _ x => x.elim))
              clear hP hPj
              go_wp2_with fail
              go_roundw
              case rel => exact ⟨j + 1, by omega, by go_num, KN, HN⟩
              case measure => simp [intOf]; omega
    · obtain rfl : k = T.isrs.length := by omega
      go_wp2_with fail
      go_ret
      exact ⟨bool_yes hP.out, K0.out.then hK.out (fun _ x => x.elim)⟩
end Go.Proofs.Ytnfpiocjdhipcaa.TC
