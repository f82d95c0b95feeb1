/- Package table: own, tick, action. -/
import Derived.Test.YtnfpiocjdhipcaaTab
import Derived.Test.YtnfpiocjdhipcaaRows
import Derived.Lib.Hide
import Derived.BigQuiet
namespace Go.Proofs.Ytnfpiocjdhipcaa.TC
open Go.RowKit Go.Fr Go.Tb
attribute [local go_sem] Oper.semAt_some

/-- an owner's i-th resource may be its -/
def OwnAt (T : Tb) (pr : Int) (l : List Int) (i : Nat) : Prop := ∃ r e, l[i]? = some r ∧ 0 ≤ r ∧ T.ress[r.toNat]? = some e ∧ (i = 0 ∨ ∃ q, l[i - 1]? = some q ∧ q < r) ∧ e.1 = false ∧ pr ≤ e.2
def OwnP (T : Tb) (pr : Int) (l : List Int) : Prop := ∀ i, i < l.length → OwnAt T pr l i

abbrev box (w : World) (T : Tb) : World := w.alloc (.cells T.cells.toArray 30)

set_option maxRecDepth 100000 in
set_option maxHeartbeats 4000000 in
theorem own_ok {w : World} {T : Tb} {ao : Option Addr} {c : Nat} {l : List Int} (pr : Int) (hT : TabIn w T) (hW : T.Wf) (hl : CameL w 1 (encK .i64) ao l) (hn : l.length ≤ 140737488355328) (hi : ∀ r ∈ l, I64 r) :
    Calls Try.prog 86 #[.agg T.cells.toArray, .slice ao l.length c, .int .i64 pr] w fun e w' => BoolIs e (OwnP T pr l) ∧ Kept (fun _ => False) w w' := by
  have k0 : Kept (fun _ => False) w (box w T) := (Kept.refl _ w).alloc _
  have nb : Blk (box w T) w.heap.size T.cells 30 := Blk.new _ _ _
  have c4 := nb.cell 4 rfl
  have hle := hW.lens.2.2.1
  have HT := Lib.hid (hT.ress)
  have HT1 := Lib.hid (camel_same hT.ress k0)
  have HL1 := Lib.hid (camel_same hl k0)
  have HI := Lib.hid hi
  have K0 := Lib.hid k0
  have HW := Lib.hid hW
  clear hT hW hl hi nb
  obtain ⟨w1, hw1⟩ : ∃ w1, box w T = w1 := ⟨_, rfl⟩
  obtain ⟨B, hB⟩ : ∃ B, w.heap.size = B := ⟨_, rfl⟩
  rw [hw1] at K0 HT1 HL1 c4
  rw [hB] at c4
  have hs : T.cells.toArray.size = 13 := rfl
  have hn0 : (T.cells.toArray = #[]) = False := by simp [Tb.cells]
  unfold box at hw1
  generalize T.cells.toArray = Z at hw1 hs hn0 ⊢
  go_enter Try.func86, Try.ntmps86
  go_upto_region 1 with fail
  clear hs hn0 hw1 hB
  go_wp2_with fail
  go_loopw [11] (fun i wr => ∃ k : Nat, k ≤ l.length ∧ i = .int .i64 k ∧ wr = w1 ∧ Hid (∀ i, i < k → OwnAt T pr l i)) (fun i _ => l.length - (intOf i).toNat)
  case atStart => exact ⟨0, Nat.zero_le _, rfl, rfl, fun i h => by omega⟩
  case round =>
    obtain ⟨k, hk, rfl, hwr, hP⟩ := hrel
    obtain rfl : w1 = wr := hwr.symm
    by_cases hkl : k < l.length
    · obtain ⟨r, hx, hm⟩ := at_of hkl
      have hk0 : (0 : Int) ≤ (k : Int) := by omega
      have hk1 : (k : Int) < (l.length : Int) := by omega
      obtain ⟨b, off, rfl, hb, e0⟩ := camel_one HL1.out hx rfl
      have hri := HI.out r hm
      have HX := Lib.hid hx
      clear hm hx
      unfold I64 at hri
      go_upto_region 4 with fail
      go_cut [55] (fun t wx => wx = w1 ∧ ∃ bad : Bool, t = .bool bad ∧ (bad = false ↔ OwnAt T pr l k))
      case first =>
        have no : ∀ bad : Bool, bad = true → (∀ r' e, l[k]? = some r' → T.ress[r'.toNat]? = some e → ¬ (0 ≤ r' ∧ (k = 0 ∨ ∃ q, l[k - 1]? = some q ∧ q < r') ∧ e.1 = false ∧ pr ≤ e.2)) → (bad = false ↔ OwnAt T pr l k) := by
          rintro _ rfl h
          refine ⟨(fun e => by cases e), ?_⟩
          rintro ⟨r', e, h1, h2, h3, h4, h5, h6⟩
          exact absurd ⟨h2, h4, h5, h6⟩ (h r' e h1 h3)
        have NO := Lib.hid no
        clear no
        by_cases h0 : r < 0
        · have d0 : decide (r < 0) = true := by simpa using h0
          go_wp2_with fail
          go_meet
          exact ⟨rfl, true, rfl, NO.out _ rfl (fun r' e h1 _ h2 => by rw [HX.out] at h1; cases h1; omega)⟩
        have d0 : decide (r < 0) = false := by simpa using h0
        by_cases h1 : (T.ress.length : Int) ≤ r
        · have d1 : decide ((T.ress.length : Int) ≤ r) = true := by simpa using h1
          go_wp2_with fail
          go_meet
          exact ⟨rfl, true, rfl, NO.out _ rfl (fun r' e h1 h3 h2 => by rw [HX.out] at h1; cases h1; have := (List.getElem?_eq_some_iff.1 h3).1; omega)⟩
        have d1 : decide ((T.ress.length : Int) ≤ r) = false := by simpa using h1
        obtain ⟨n, rfl⟩ := Int.eq_ofNat_of_zero_le (a := r) (by omega)
        obtain ⟨⟨ei, ec⟩, hxe, _⟩ := at_of (l := T.ress) (k := n) (by omega)
        obtain ⟨b2, off2, hea, hb2, hcl2⟩ := camel_at HT1.out hxe
        have f0 := hcl2 0 _ rfl
        have f1 := hcl2 1 _ rfl
        simp only [Nat.add_zero] at f0
        have HXE := Lib.hid hxe
        clear hcl2 hxe
        have n0 : (0 : Int) ≤ (n : Int) := by omega
        have n1 : (n : Int) < (T.ress.length : Int) := by omega
        rw [hea] at c4
        clear hea
        have fin : ∀ bad : Bool, (bad = false ↔ ((k = 0 ∨ ∃ q, l[k - 1]? = some q ∧ q < (n : Int)) ∧ ei = false ∧ pr ≤ ec)) → (bad = false ↔ OwnAt T pr l k) := by
          intro bad h
          rw [h]
          refine ⟨fun h => ⟨n, (ei, ec), HX.out, by omega, HXE.out, h.1, h.2.1, h.2.2⟩, ?_⟩
          rintro ⟨r', e, h1, h2, h3, h4, h5, h6⟩
          rw [HX.out] at h1; cases h1
          have := HXE.out
          rw [show ((n : Nat) : Int).toNat = n from Int.toNat_natCast n] at h3
          rw [this] at h3; cases h3
          exact ⟨h4, h5, h6⟩
        have FIN := Lib.hid fin
        clear fin
        have hb1 : ∃ b1 : Bool, Hid (b1 = true ↔ (k = 0 ∨ ∃ q, l[k - 1]? = some q ∧ q < (n : Int))) ∧ (k = 0 ∧ b1 = true ∨ ∃ q, 0 < k ∧ l[k - 1]? = some q ∧ I64 q ∧ b1 = decide (q < (n : Int))) := by
          by_cases hkz : k = 0
          · exact ⟨true, by unfold Hid; simp [hkz], Or.inl ⟨hkz, rfl⟩⟩
          · obtain ⟨q, hq, hmq⟩ := at_of (l := l) (k := k - 1) (by omega)
            refine ⟨decide (q < (n : Int)), ?_, Or.inr ⟨q, by omega, hq, HI.out q hmq, rfl⟩⟩
            unfold Hid
            rw [decide_eq_true_iff, hq]
            constructor
            · exact fun h => Or.inr ⟨q, rfl, h⟩
            · rintro (h | ⟨q', h1, h2⟩)
              · omega
              · cases h1; exact h2
        obtain ⟨b1, HB1, hcase⟩ := hb1
        rcases hcase with ⟨rfl, rfl⟩ | ⟨q, hkz, hxq, hqi, hb1⟩
        · cases ei with
          | true =>
            go_wp2_with fail
            go_meet
            exact ⟨rfl, true, rfl, FIN.out _ (by simp)⟩
          | false =>
            by_cases h6 : ec < pr
            · have d6 : decide (ec < pr) = true := by simpa using h6
              go_wp2_with fail
              go_meet
              exact ⟨rfl, true, rfl, FIN.out _ (by simp; omega)⟩
            · have d6 : decide (ec < pr) = false := by simpa using h6
              go_wp2_with fail
              go_meet
              exact ⟨rfl, false, rfl, FIN.out _ (by simp; omega)⟩
        · obtain ⟨b', off', hab, hb', e1⟩ := camel_one HL1.out hxq rfl
          cases hab
          have hki : ((k - 1 : Nat) : Int) = (k : Int) - 1 := by omega
          have hkp : (0 : Int) < (k : Int) := by omega
          obtain ⟨k', rfl⟩ : ∃ k', k = k' + 1 := ⟨k - 1, by omega⟩
          simp only [Nat.add_sub_cancel] at e1 hki
          unfold I64 at hqi
          have hwr : IntKind.i64.wrap (((k' + 1 : Nat) : Int) - 1) = (k' : Int) := by rw [IntWalk.i64_in _ (by omega)]; omega
          have hk2 : (0 : Int) ≤ (k' : Int) := by omega
          have hk3 : (k' : Int) < (l.length : Int) := by omega
          by_cases h5 : (n : Int) ≤ q
          · have d5 : decide ((n : Int) ≤ q) = true := by simpa using h5
            have hb2 : b1 = false := by rw [hb1]; simp; omega
            clear hb1 hki
            go_wp2_with fail
            go_meet
            exact ⟨rfl, true, rfl, FIN.out _ (by rw [← HB1.out, hb2]; simp)⟩
          · have d5 : decide ((n : Int) ≤ q) = false := by simpa using h5
            have hb2 : b1 = true := by rw [hb1]; simp; omega
            clear hb1 hki
            cases ei with
            | true =>
              go_wp2_with fail
              go_meet
              exact ⟨rfl, true, rfl, FIN.out _ (by simp)⟩
            | false =>
              by_cases h6 : ec < pr
              · have d6 : decide (ec < pr) = true := by simpa using h6
                go_wp2_with fail
                go_meet
                exact ⟨rfl, true, rfl, FIN.out _ (by simp; omega)⟩
              · have d6 : decide (ec < pr) = false := by simpa using h6
                go_wp2_with fail
                go_meet
                exact ⟨rfl, false, rfl, FIN.out _ (by rw [← HB1.out, hb2]; simp; omega)⟩
      case rest =>
        obtain ⟨hwc, bad, rfl, hbad⟩ := hcut
        obtain rfl : w1 = wc := hwc.symm
        have HBAD := Lib.hid hbad
        clear hbad e0
        cases bad with
        | true =>
          go_wp2_with fail
          go_ret
          refine ⟨bool_no fun h => ?_, K0.out⟩
          have := HBAD.out.2 (h k hkl)
          cases this
        | false =>
          have hP2 : Hid (∀ i, i < k + 1 → OwnAt T pr l i) := fun i hi => by
            rcases Nat.lt_or_ge i k with h | h
            · exact hP.out i h
            · obtain rfl : i = k := by omega
              exact HBAD.out.1 rfl
          clear hP
          go_wp2_with fail
          go_roundw
          case rel => exact ⟨k + 1, by omega, by go_num, trivial, hP2⟩
          case measure => simp [intOf]; omega
    · obtain rfl : k = l.length := by omega
      go_wp2_with fail
      go_ret
      exact ⟨bool_yes hP.out, K0.out⟩
end Go.Proofs.Ytnfpiocjdhipcaa.TC
