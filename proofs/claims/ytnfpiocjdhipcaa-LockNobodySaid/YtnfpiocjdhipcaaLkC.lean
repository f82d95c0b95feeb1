/- lock.Lock: stackOf. -/
import Derived.Test.YtnfpiocjdhipcaaLkB
import Derived.StillTailTactics
namespace Go.Proofs.Ytnfpiocjdhipcaa.LK
open Go.RowKit Go.Fr Go.Tb
attribute [local go_sem] Oper.semAt_some

theorem field_own (a c d : Value) (ao : Option Addr) (n k : Nat) (w : World) : (Instr.field 79 (.agg #[a, .slice ao n k, c, d]) 1).run Try.prog w = .ok (.slice ao n k) w := by kernel_rfl
section
variable {w w' : World} {b : Nat} {M : Lm} {T : Tb} {L : List Take} {In : List Bool} {G : Gt} {S : Nat → Prop} {o : Ow}
/-- a stack's look-up, in whatever world -/
theorem IsLk.stkLook (h : IsLk w b M T L In G) (ho : okO o) : ∃ pv : Option Addr, ((∃ s, getA M.H o = some s ∧ pv = some ⟨s.b, 0, none⟩) ∨ (getA M.H o = none ∧ pv = none)) ∧ ∀ wz, IsMap wz ekO evP M.hb M.H → (Instr.lookup 70 (.map (some M.hb)) (ekO o) false).run Try.prog wz = .ok (.pointer pv) wz := by
  have hl : ∀ wz, IsMap wz ekO evP M.hb M.H → (Instr.lookup 70 (.map (some M.hb)) (ekO o) false).run Try.prog wz = .ok (((getA M.H o).map evP).getD (.pointer none)) wz := fun wz hm => hm.look keyO h.hok Try.underlying70 ho (zeroP wz) false
  cases hx : getA M.H o with
  | none =>
    rw [hx] at hl
    exact ⟨none, Or.inr ⟨rfl, rfl⟩, hl⟩
  | some s =>
    rw [hx] at hl
    exact ⟨some ⟨s.b, 0, none⟩, Or.inl ⟨s, rfl, rfl⟩, hl⟩

set_option maxRecDepth 100000 in
set_option maxHeartbeats 4000000 in
/-- there is a stack -/
theorem stackOf_some {s : StkP} (h : IsLk w b M T L In G) (ho : okO o) (hs : getA M.H o = some s) : Calls Try.prog 27 #[.pointer (some ⟨b, 0, none⟩), ekO o] w fun e w' => e = .returned (.pointer (some ⟨s.b, 0, none⟩)) ∧ Kept (fun _ => False) w w' := by
  obtain ⟨oi, id⟩ := o
  have k0 := (Kept.refl (fun _ => False) w).alloc (.cells #[.bool oi, .int .i64 id] 38)
  have nb := Blk.new w [.bool oi, .int .i64 id] 38
  have hL := h.same k0
  obtain ⟨w0, hw0⟩ : ∃ w0, w.alloc (.cells #[.bool oi, .int .i64 id] 38) = w0 := ⟨_, rfl⟩
  rw [hw0] at hL k0 nb
  obtain ⟨B, hB⟩ : ∃ B, w.heap.size = B := ⟨_, rfl⟩
  rw [hB] at nb
  obtain ⟨_, _, _, c3, _⟩ := hL.cells
  have b0 := nb.cell 0 rfl
  have b1 := nb.cell 1 rfl
  obtain ⟨pv, hpv, hl⟩ := hL.stkLook ho
  rcases hpv with ⟨s', hs', rfl⟩ | ⟨hn, _⟩
  · rw [hs] at hs'
    cases hs'
    have l1 : ∀ n, _ := fun n => hl (w0.drewN n) (hL.hm.kept ((Kept.refl (fun _ => False) w0).drewN n) (fun x => x))
    have l2 : ∀ m n, _ := fun m n => hl ((w0.drewN m).drewN n) (hL.hm.kept (((Kept.refl (fun _ => False) w0).drewN m).drewN n) (fun x => x))
    simp only [ekO] at l1 l2
    have K0 := Lib.hid k0
    clear hl hL nb k0 hs h ho
    show Calls Try.prog 27 #[.pointer (some ⟨b, 0, none⟩), .agg #[.bool oi, .int .i64 id]] w _
    go_enter Try.func27, Try.ntmps27
    go_wp2_with fail
    go_quiet (fail)
    go_wp2_with fail
    go_quiet (fail)
    go_wp2_with fail
    go_ret
    exact ⟨rfl, (K0.out.drewN _).drewN _⟩
  · rw [hs] at hn
    cases hn

set_option maxRecDepth 100000 in
set_option maxHeartbeats 8000000 in
/-- there is none: it is made -/
theorem stackOf_none {x : RowR} (h : IsLk w b M T L In G) (ho : okO o) (hs : getA M.H o = none) (hx : rowT T o = some x) (hx2 : x.own.length ≤ 1024) : Calls Try.prog 27 #[.pointer (some ⟨b, 0, none⟩), ekO o] w fun e w' =>
    ∃ s : StkP, e = .returned (.pointer (some ⟨s.b, 0, none⟩)) ∧ s.d = x.own.length ∧ w.heap.size ≤ s.b ∧ s.v = .slice none 0 0 ∧ IsLk w' b { M with H := putA M.H o s } T L In G ∧ Kept (fun g => g = M.hb) w w' := by
  obtain ⟨oi, id⟩ := o
  have k0 := (Kept.refl (fun _ => False) w).alloc (.cells #[.bool oi, .int .i64 id] 38)
  have nb := Blk.new w [.bool oi, .int .i64 id] 38
  have hL := h.same k0
  obtain ⟨w0, hw0⟩ : ∃ w0, w.alloc (.cells #[.bool oi, .int .i64 id] 38) = w0 := ⟨_, rfl⟩
  rw [hw0] at hL k0 nb
  obtain ⟨B, hB⟩ : ∃ B, w.heap.size = B := ⟨_, rfl⟩
  rw [hB] at nb
  obtain ⟨c0, _, _, c3, _⟩ := hL.cells
  have b0 := nb.cell 0 rfl
  have b1 := nb.cell 1 rfl
  obtain ⟨pv, hpv, hl⟩ := hL.stkLook ho
  rcases hpv with ⟨s', hs', rfl⟩ | ⟨hn, rfl⟩
  · rw [hs] at hs'
    cases hs'
  have l1 : ∀ n, _ := fun n => hl (w0.drewN n) (hL.hm.kept ((Kept.refl (fun _ => False) w0).drewN n) (fun x => x))
  simp only [ekO] at l1
  rcases hL.fx.rowAt ho with ⟨y, hry, hr, _, _, hy⟩ | ⟨hr, _⟩
  · rw [hx] at hr
    cases hr
    have hy2 : y.own.length ≤ 1024 := hx2
    show Calls Try.prog 27 #[.pointer (some ⟨b, 0, none⟩), .agg #[.bool oi, .int .i64 id]] w _
    go_enter Try.func27, Try.ntmps27
    go_wp2_with fail
    go_quiet (fail)
    obtain ⟨w1, hw1⟩ : ∃ w1, w0.drewN nq = w1 := ⟨_, rfl⟩
    have k01 : Kept (fun _ => False) w0 w1 := by rw [← hw1]; exact (Kept.refl _ _).drewN nq
    have hL1 := hL.same k01
    have nb1 := nb.kept k01 (fun x => x)
    rw [hw1]
    obtain ⟨c0, _, _, c3, _⟩ := hL1.cells
    have b0 := nb1.cell 0 rfl
    have b1 := nb1.cell 1 rfl
    have l4 := hy w1 k01
    have l5 := hy w1.drew (k01.drew)
    simp only [ekO] at l4 l5
    go_wp2_with fail
    have hfd := fun wz => field_own (.int .i64 y.pr) (.int .i64 y.inl) (.int .i64 y.cat) y.oa y.own.length y.oc wz
    have hd0 : (0 : Int) ≤ (y.own.length : Int) := by omega
    have hd1 : (y.own.length : Int) ≤ 1024 := by omega
    have HC : Hid (∀ wz, w1.drew = wz → Calls Try.prog 66 #[.int .i64 y.own.length] wz fun e w2 => e = .returned (.tuple #[.pointer (some ⟨w1.heap.size, 0, none⟩), .int .i64 0]) ∧ w2.cell? ⟨b, 0, none⟩ = some (.map (some M.rb)) ∧ w2.cell? ⟨b, 3, none⟩ = some (.map (some M.hb)) ∧ w2.cell? ⟨B, 0, none⟩ = some (.bool oi) ∧ w2.cell? ⟨B, 1, none⟩ = some (.int .i64 id) ∧
        (Instr.lookup 68 (.map (some M.rb)) (.agg #[.bool oi, .int .i64 id]) false).run Try.prog w2 = .ok (.agg #[.int .i64 y.pr, .slice y.oa y.own.length y.oc, .int .i64 y.inl, .int .i64 y.cat]) w2 ∧
        ∃ w3, (Instr.mapUpdate 70 (.map (some M.hb)) (.agg #[.bool oi, .int .i64 id]) (.pointer (some ⟨w1.heap.size, 0, none⟩))).run Try.prog w2 = .ok () w3 ∧
          IsLk w3 b { M with H := putA M.H (oi, id) ⟨w1.heap.size, .slice none 0 0, y.own.length, 0⟩ } T L In G ∧ Kept (fun g => g = M.hb) w1 w3 ∧ (w3.cell? ⟨b, 0, none⟩ = some (.map (some M.rb)) ∧ w3.cell? ⟨b, 3, none⟩ = some (.map (some M.hb)) ∧ w3.cell? ⟨B, 0, none⟩ = some (.bool oi) ∧ w3.cell? ⟨B, 1, none⟩ = some (.int .i64 id)) ∧
            (Instr.lookup 68 (.map (some M.rb)) (.agg #[.bool oi, .int .i64 id]) false).run Try.prog w3 = .ok (.agg #[.int .i64 y.pr, .slice y.oa y.own.length y.oc, .int .i64 y.inl, .int .i64 y.cat]) w3) := by
      rintro wz rfl
      refine (SI.new_ok (y.own.length : Int) _ hd0 hd1).mono ?_
      rintro e w2 ⟨rfl, hs2, k2, _⟩
      have kd : Kept (fun _ => False) w1 w2 := ((Kept.refl _ w1).drew).then k2 (fun _ x => x.elim)
      have hL2 := hL1.same kd
      obtain ⟨c0, _, _, c3, _⟩ := hL2.cells
      have nb2 := nb1.kept kd (fun x => x)
      obtain ⟨w3, st, hm3, k3, _⟩ := hL2.hm.store keyO h.hok Try.underlying70 ho (⟨w1.heap.size, .slice none 0 0, y.own.length, 0⟩ : StkP)
      have hL3 := hL1.newStk (s := ⟨w1.heap.size, .slice none 0 0, y.own.length, 0⟩) ho hs hx kd hs2 rfl (fun g hg => by
        rcases hg with rfl | hg
        · exact Nat.le_refl _
        · cases hg) hm3 k3
      obtain ⟨d0, _, _, d3, _⟩ := hL3.cells
      have nb3 := nb2.kept k3 (blk_ne_map nb2 hL2.hm)
      have l3 : (Instr.lookup 68 (.map (some M.rb)) (ekO (oi, id)) false).run Try.prog w3 = .ok (.agg #[.int .i64 y.pr, .slice y.oa y.own.length y.oc, .int .i64 y.inl, .int .i64 y.cat]) w3 := by
        have hl := hL3.fx.rows.look keyO h.fx.rok Try.underlying68 ho (zeroR w3) false
        rw [hry] at hl
        exact hl
      exact ⟨rfl, c0, c3, nb2.cell 0 rfl, nb2.cell 1 rfl, hy w2 (k01.then kd (fun _ x => x.elim)), w3, st, hL3, (kd.mono (fun _ _ x => x.elim)).then k3 (fun _ x => Or.inl x), ⟨d0, d3, nb3.cell 0 rfl, nb3.cell 1 rfl⟩, l3⟩
    have K1 := Lib.hid (k0.then k01 (fun _ x => x.elim))
    have HO := Lib.hid ho
    clear hd0 hd1 hL hL1 nb nb1 h hy hw1 l1 hl hn hs hx2 hy2 ho hx k0 k01 hw0 hB
    refine wp_region_noPanic ?_
    go_region_held3 (fun w' => w'.cell? ⟨b, 0, none⟩ = some (.map (some M.rb)) ∧ w'.cell? ⟨b, 3, none⟩ = some (.map (some M.hb)) ∧ w'.cell? ⟨B, 0, none⟩ = some (.bool oi) ∧ w'.cell? ⟨B, 1, none⟩ = some (.int .i64 id) ∧ (Instr.lookup 68 (.map (some M.rb)) (.agg #[.bool oi, .int .i64 id]) false).run Try.prog w' = .ok (.agg #[.int .i64 y.pr, .slice y.oa y.own.length y.oc, .int .i64 y.inl, .int .i64 y.cat]) w')
      (first | (simp [*]; done) | fail)
      (first | (go_at_call 66; refine (HC.out _ rfl).mono ?_; rintro e w2 ⟨rfl, q0, q1, q2, q3, q4, w3, st, hL3, k3, ⟨e0, e1, e2, e3⟩, e4⟩))
    refine NoPanic.normal ?_
    clear q0 q1 q2 q3 q4 st e0 e4 hfd HC l4 l5
    have hm3 := hL3.hm
    obtain ⟨pv, hpv, hl6⟩ := hL3.stkLook HO.out
    have hg6 : getA (putA M.H (oi, id) (⟨w1.heap.size, .slice none 0 0, y.own.length, 0⟩ : StkP)) (oi, id) = some ⟨w1.heap.size, .slice none 0 0, y.own.length, 0⟩ := by rw [getA_put, if_pos rfl]
    rcases hpv with ⟨s6, hs6, rfl⟩ | ⟨hn6, _⟩
    · rw [show getA ({ M with H := putA M.H (oi, id) (⟨w1.heap.size, .slice none 0 0, y.own.length, 0⟩ : StkP) } : Lm).H (oi, id) = _ from hg6] at hs6
      cases hs6
      have l6 : ∀ n, _ := fun n => hl6 (w3.drewN n) (hm3.kept ((Kept.refl (fun _ => False) w3).drewN n) (fun x => x))
      simp only [ekO] at l6
      have HL3 := Lib.hid hL3
      have K3 := Lib.hid k3
      have hlt : w.heap.size ≤ w1.heap.size := K1.out.size
      clear hl6 hm3 hg6 hL3 k3
      go_wp2_with fail
      go_quiet (fail)
      go_wp2_with fail
      go_ret
      refine ⟨⟨w1.heap.size, .slice none 0 0, y.own.length, 0⟩, rfl, rfl, hlt, rfl, HL3.out.same ((Kept.refl _ _).drewN _), ?_⟩
      exact (((K1.out.mono (fun _ _ x => x.elim)).then K3.out (fun _ x => Or.inl x)).drewN _)
    · rw [show getA ({ M with H := putA M.H (oi, id) (⟨w1.heap.size, .slice none 0 0, y.own.length, 0⟩ : StkP) } : Lm).H (oi, id) = _ from hg6] at hn6
      cases hn6
  · rw [hx] at hr
    cases hr
end
end Go.Proofs.Ytnfpiocjdhipcaa.LK
