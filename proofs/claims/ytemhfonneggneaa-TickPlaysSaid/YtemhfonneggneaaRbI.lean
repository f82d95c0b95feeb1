/- The document's board: New. -/
import Derived.Test.YtemhfonneggneaaRbH
namespace Go.Proofs.Ytemhfonneggneaa.RB
open Go.RowKit Go.Fr Go.Tb Go.Proofs.Ytemhfonneggneaa.CK Go.Proofs.Ytemhfonneggneaa.TC
attribute [local go_sem] Oper.semAt_some

theorem tab_all {w : World} {B : Nat} {T : Tb} {t : TypeId} (h : Blk w B T.cells t) (o : Obj) : Blk (w.alloc o) B T.cells t := h.alloc o
theorem four {w : World} {n : Nat} (hn : w.heap.size = n) (l1 l2 l3 l4 : List Value) (t1 t2 t3 t4 : TypeId) :
    Blk ((((w.alloc (.cells l1.toArray t1)).alloc (.cells l2.toArray t2)).alloc (.cells l3.toArray t3)).alloc (.cells l4.toArray t4)) n l1 t1 ∧
    Blk ((((w.alloc (.cells l1.toArray t1)).alloc (.cells l2.toArray t2)).alloc (.cells l3.toArray t3)).alloc (.cells l4.toArray t4)) (n + 1) l2 t2 ∧
    Blk ((((w.alloc (.cells l1.toArray t1)).alloc (.cells l2.toArray t2)).alloc (.cells l3.toArray t3)).alloc (.cells l4.toArray t4)) (n + 2) l3 t3 ∧
    Blk ((((w.alloc (.cells l1.toArray t1)).alloc (.cells l2.toArray t2)).alloc (.cells l3.toArray t3)).alloc (.cells l4.toArray t4)) (n + 3) l4 t4 := by
  subst hn
  have b1 := (((Blk.new w l1 t1).alloc (.cells l2.toArray t2)).alloc (.cells l3.toArray t3)).alloc (.cells l4.toArray t4)
  have b2 := ((Blk.new (w.alloc (.cells l1.toArray t1)) l2 t2).alloc (.cells l3.toArray t3)).alloc (.cells l4.toArray t4)
  have b3 := (Blk.new ((w.alloc (.cells l1.toArray t1)).alloc (.cells l2.toArray t2)) l3 t3).alloc (.cells l4.toArray t4)
  have b4 := Blk.new (((w.alloc (.cells l1.toArray t1)).alloc (.cells l2.toArray t2)).alloc (.cells l3.toArray t3)) l4 t4
  rw [World.size_alloc] at b2
  rw [World.size_alloc, World.size_alloc] at b3
  rw [World.size_alloc, World.size_alloc, World.size_alloc] at b4
  exact ⟨b1, b2, b3, b4⟩
def mkM (T : Tb) (ge gc gd : Nat) : Rm := ⟨.slice (some ⟨ge, 0, none⟩) T.counters.length T.counters.length, .slice (some ⟨gc, 0, none⟩) T.alarms.length T.alarms.length, .slice (some ⟨gd, 0, none⟩) T.isrs.length T.isrs.length⟩
theorem fin_rb {w w2 wf : World} {T : Tb} {E C D : List Value} {p ge gc gd : Nat} (hE : E = (List.replicate T.counters.length 0).map vu) (hC : C = (List.replicate T.alarms.length z3).flatMap encL) (hD : D = (List.replicate T.isrs.length false).map Value.bool)
    (hEl : E.length = T.counters.length * 1) (hCl : C.length = T.alarms.length * 3) (hDl : D.length = T.isrs.length * 1) (h1 : T.counters.length ≤ 64) (h2 : T.alarms.length ≤ 64) (h3 : T.isrs.length ≤ 64)
    (kw : Kept (fun _ => False) w w2) (kf : Kept (fun _ => False) w2 wf) (be : Blk wf ge E 22) (bc : Blk wf gc C 129) (bd : Blk wf gd D 4) (bp : Blk wf p (rcells (mkM T ge gc gd) T) 109)
    (hd : ge ≠ gc ∧ ge ≠ gd ∧ gc ≠ gd ∧ ge ≠ p ∧ gc ≠ p ∧ gd ≠ p) (hlo : w2.heap.size ≤ ge ∧ w2.heap.size ≤ gc ∧ w2.heap.size ≤ gd ∧ w2.heap.size ≤ p) :
    IsRb wf p (mkM T ge gc gd) T (List.replicate T.counters.length 0) (List.replicate T.alarms.length z3) (List.replicate T.isrs.length false) ∧ (∀ q, rfoot p (mkM T ge gc gd) q → w.heap.size ≤ q) ∧ Kept (fun _ => False) w wf := by
  have hs := kw.size
  refine ⟨⟨bp, ?_, ?_, ?_, ?_, ?_, ?_, ?_⟩, ?_, kw.then kf (fun _ x => x.elim)⟩
  · rw [List.length_replicate, ← hE]; exact row_blk be hEl (by unfold maxLen; omega)
  · rw [List.length_replicate, ← hC]; exact row_blk bc hCl (by unfold maxLen; omega)
  · rw [List.length_replicate, ← hD]; exact row_blk bd hDl (by unfold maxLen; omega)
  · simp
  · intro g hg
    simp [mkM, Value.ownBlock] at hg ⊢
    omega
  · intro g hg
    simp [mkM, Value.ownBlock] at hg ⊢
    omega
  · intro g hg
    simp [mkM, Value.ownBlock] at hg
    omega
  · rintro q (h | h | h | h)
    · omega
    · simp [mkM, Value.ownBlock] at h; omega
    · simp [mkM, Value.ownBlock] at h; omega
    · simp [mkM, Value.ownBlock] at h; omega

set_option maxRecDepth 100000 in
set_option maxHeartbeats 8000000 in
theorem new_ok {w : World} {T : Tb} (hT : TabIn w T) (hW : T.Wf) :
    Calls Try.prog 16 #[.agg T.cells.toArray] w fun e w' => (¬ CheckP T ∧ e = .returned (.tuple #[.pointer none, .int .i64 210]) ∧ Kept (fun _ => False) w w') ∨
      (CheckP T ∧ ∃ p M, e = .returned (.tuple #[.pointer (some ⟨p, 0, none⟩), .int .i64 0]) ∧ IsRb w' p M T (List.replicate T.counters.length 0) (List.replicate T.alarms.length z3) (List.replicate T.isrs.length false) ∧ (∀ q, rfoot p M q → w.heap.size ≤ q) ∧ Kept (fun _ => False) w w') := by
  have k0 : Kept (fun _ => False) w (box w T) := (Kept.refl _ w).alloc _
  have nb : Blk (box w T) w.heap.size T.cells 37 := Blk.new w T.cells 37
  have hT1 := hT.same k0
  obtain ⟨w1, hw1⟩ : ∃ w1, box w T = w1 := ⟨_, rfl⟩
  obtain ⟨B, hB⟩ : ∃ B, w.heap.size = B := ⟨_, rfl⟩
  rw [hw1] at k0 nb hT1
  rw [hB] at nb
  have hck := TR.check_ok hT1 hW
  have HT := Lib.hid hT1
  have HW := Lib.hid hW
  have NB := Lib.hid nb
  have K0 := Lib.hid k0
  clear hT hT1 hW nb k0
  have hs : T.cells.toArray.size = 13 := rfl
  have hn0 : (T.cells.toArray = #[]) = False := by simp [Tb.cells]
  unfold box at hw1
  generalize hZ : T.cells.toArray = Z0 at hw1 hs hn0 hck ⊢
  have HZ := Lib.hid hZ
  have HCK := Lib.hid hck
  clear hZ hck
  go_enter Try.func16, Try.ntmps16
  go_upto_region 1 with fail
  clear hs hn0 hw1 hB
  have hck := HCK.out
  rw [← HZ.out] at hck
  obtain ⟨c0, c1, c2, c3, c4, c5, c6, c7, c8, c9, c10, c11, c12⟩ := tab_cells NB.out
  clear HCK
  go_upto_if 6 with (go_at_call 36; refine hck.mono ?_; rintro e w2 ⟨hsy, k2⟩; have HSY := Lib.hid hsy; have K2 := Lib.hid k2; clear hsy k2; rcases HSY.out with ⟨rfl, hP⟩ | ⟨rfl, hP⟩)
  · clear c0 c1 c2 c3 c4 c5 c6 c7 c8 c9 c10 c11 c12 hck HSY
    have HP := Lib.hid hP
    clear hP
    obtain ⟨c0, c1, c2, c3, c4, c5, c6, c7, c8, c9, c10, c11, c12⟩ := tab_cells (NB.out.kept K2.out (fun x => x))
    have hnc : T.counters.length ≤ 16 := HP.out.1.2.2.2.2.1
    have hna : T.alarms.length ≤ 64 := HP.out.1.2.2.2.2.2.1
    have hni : T.isrs.length ≤ 32 := HP.out.1.2.2.2.2.2.2.1
    obtain ⟨C, hC, hCl, mk⟩ := make_look T.alarms.length hna
    obtain ⟨D, hD, hDl, mk2⟩ := make_bool T.isrs.length (by omega)
    obtain ⟨E, hE, hEl, mk3⟩ := make_u32 T.counters.length (by omega)
    have HC := Lib.hid hC
    have HD := Lib.hid hD
    have HE := Lib.hid hE
    clear hC hD hE
    have NB2 := Lib.hid (NB.out.kept K2.out (fun x => x))
    have KW := Lib.hid (K0.out.then K2.out (fun _ x => x.elim))
    go_upto_region 3 with fail
    have a0 : ∀ o : Obj, _ := fun o => tab_cells (tab_all NB2.out o)
    have a1 : ∀ o o' : Obj, _ := fun o o' => tab_cells (tab_all (tab_all NB2.out o) o')
    have a2 : ∀ o o' o'' : Obj, _ := fun o o' o'' => tab_cells (tab_all (tab_all (tab_all NB2.out o) o') o'')
    simp only [forall_and] at a0 a1 a2
    obtain ⟨p0, p1, p2, p3, p4, p5, p6, p7, p8, p9, p10, p11, p12⟩ := a0
    obtain ⟨q0, q1, q2, q3, q4, q5, q6, q7, q8, q9, q10, q11, q12⟩ := a1
    obtain ⟨r0, r1, r2, r3, r4, r5, r6, r7, r8, r9, r10, r11, r12⟩ := a2
    go_region
    all_goals
      clear mk mk2 mk3 c0 c1 c2 c3 c4 c5 c6 c7 c8 c9 c10 c11 c12 p0 p1 p2 p3 p4 p5 p6 p7 p8 p9 p10 p11 p12 q0 q1 q2 q3 q4 q5 q6 q7 q8 q9 q10 q11 q12 r0 r1 r2 r3 r4 r5 r6 r7 r8 r9 r10 r11 r12
      go_wp2_with fail
      go_ret2
      first
        | exact Or.inr ⟨HP.out, w2.heap.size + 3, mkM T (w2.heap.size) (w2.heap.size + 1) (w2.heap.size + 2), rfl, fin_rb HE.out HC.out HD.out hEl hCl hDl (by omega) (by omega) (by omega) KW.out ((((((Kept.refl (fun _ => False) w2).alloc _).alloc _).alloc _).alloc _).same rfl rfl rfl rfl) (four (w := w2) rfl E C D (rcells (mkM T (w2.heap.size) (w2.heap.size + 1) (w2.heap.size + 2)) T) 22 129 4 109).1 (four (w := w2) rfl E C D (rcells (mkM T (w2.heap.size) (w2.heap.size + 1) (w2.heap.size + 2)) T) 22 129 4 109).2.1 (four (w := w2) rfl E C D (rcells (mkM T (w2.heap.size) (w2.heap.size + 1) (w2.heap.size + 2)) T) 22 129 4 109).2.2.1 (four (w := w2) rfl E C D (rcells (mkM T (w2.heap.size) (w2.heap.size + 1) (w2.heap.size + 2)) T) 22 129 4 109).2.2.2 (by omega) (by omega)⟩
        | exact Or.inr ⟨HP.out, w2.heap.size + 3, mkM T (w2.heap.size) (w2.heap.size + 2) (w2.heap.size + 1), rfl, fin_rb HE.out HC.out HD.out hEl hCl hDl (by omega) (by omega) (by omega) KW.out ((((((Kept.refl (fun _ => False) w2).alloc _).alloc _).alloc _).alloc _).same rfl rfl rfl rfl) (four (w := w2) rfl E D C (rcells (mkM T (w2.heap.size) (w2.heap.size + 2) (w2.heap.size + 1)) T) 22 4 129 109).1 (four (w := w2) rfl E D C (rcells (mkM T (w2.heap.size) (w2.heap.size + 2) (w2.heap.size + 1)) T) 22 4 129 109).2.2.1 (four (w := w2) rfl E D C (rcells (mkM T (w2.heap.size) (w2.heap.size + 2) (w2.heap.size + 1)) T) 22 4 129 109).2.1 (four (w := w2) rfl E D C (rcells (mkM T (w2.heap.size) (w2.heap.size + 2) (w2.heap.size + 1)) T) 22 4 129 109).2.2.2 (by omega) (by omega)⟩
        | exact Or.inr ⟨HP.out, w2.heap.size + 3, mkM T (w2.heap.size + 1) (w2.heap.size) (w2.heap.size + 2), rfl, fin_rb HE.out HC.out HD.out hEl hCl hDl (by omega) (by omega) (by omega) KW.out ((((((Kept.refl (fun _ => False) w2).alloc _).alloc _).alloc _).alloc _).same rfl rfl rfl rfl) (four (w := w2) rfl C E D (rcells (mkM T (w2.heap.size + 1) (w2.heap.size) (w2.heap.size + 2)) T) 129 22 4 109).2.1 (four (w := w2) rfl C E D (rcells (mkM T (w2.heap.size + 1) (w2.heap.size) (w2.heap.size + 2)) T) 129 22 4 109).1 (four (w := w2) rfl C E D (rcells (mkM T (w2.heap.size + 1) (w2.heap.size) (w2.heap.size + 2)) T) 129 22 4 109).2.2.1 (four (w := w2) rfl C E D (rcells (mkM T (w2.heap.size + 1) (w2.heap.size) (w2.heap.size + 2)) T) 129 22 4 109).2.2.2 (by omega) (by omega)⟩
        | exact Or.inr ⟨HP.out, w2.heap.size + 3, mkM T (w2.heap.size + 2) (w2.heap.size) (w2.heap.size + 1), rfl, fin_rb HE.out HC.out HD.out hEl hCl hDl (by omega) (by omega) (by omega) KW.out ((((((Kept.refl (fun _ => False) w2).alloc _).alloc _).alloc _).alloc _).same rfl rfl rfl rfl) (four (w := w2) rfl C D E (rcells (mkM T (w2.heap.size + 2) (w2.heap.size) (w2.heap.size + 1)) T) 129 4 22 109).2.2.1 (four (w := w2) rfl C D E (rcells (mkM T (w2.heap.size + 2) (w2.heap.size) (w2.heap.size + 1)) T) 129 4 22 109).1 (four (w := w2) rfl C D E (rcells (mkM T (w2.heap.size + 2) (w2.heap.size) (w2.heap.size + 1)) T) 129 4 22 109).2.1 (four (w := w2) rfl C D E (rcells (mkM T (w2.heap.size + 2) (w2.heap.size) (w2.heap.size + 1)) T) 129 4 22 109).2.2.2 (by omega) (by omega)⟩
        | exact Or.inr ⟨HP.out, w2.heap.size + 3, mkM T (w2.heap.size + 1) (w2.heap.size + 2) (w2.heap.size), rfl, fin_rb HE.out HC.out HD.out hEl hCl hDl (by omega) (by omega) (by omega) KW.out ((((((Kept.refl (fun _ => False) w2).alloc _).alloc _).alloc _).alloc _).same rfl rfl rfl rfl) (four (w := w2) rfl D E C (rcells (mkM T (w2.heap.size + 1) (w2.heap.size + 2) (w2.heap.size)) T) 4 22 129 109).2.1 (four (w := w2) rfl D E C (rcells (mkM T (w2.heap.size + 1) (w2.heap.size + 2) (w2.heap.size)) T) 4 22 129 109).2.2.1 (four (w := w2) rfl D E C (rcells (mkM T (w2.heap.size + 1) (w2.heap.size + 2) (w2.heap.size)) T) 4 22 129 109).1 (four (w := w2) rfl D E C (rcells (mkM T (w2.heap.size + 1) (w2.heap.size + 2) (w2.heap.size)) T) 4 22 129 109).2.2.2 (by omega) (by omega)⟩
        | exact Or.inr ⟨HP.out, w2.heap.size + 3, mkM T (w2.heap.size + 2) (w2.heap.size + 1) (w2.heap.size), rfl, fin_rb HE.out HC.out HD.out hEl hCl hDl (by omega) (by omega) (by omega) KW.out ((((((Kept.refl (fun _ => False) w2).alloc _).alloc _).alloc _).alloc _).same rfl rfl rfl rfl) (four (w := w2) rfl D C E (rcells (mkM T (w2.heap.size + 2) (w2.heap.size + 1) (w2.heap.size)) T) 4 129 22 109).2.2.1 (four (w := w2) rfl D C E (rcells (mkM T (w2.heap.size + 2) (w2.heap.size + 1) (w2.heap.size)) T) 4 129 22 109).2.1 (four (w := w2) rfl D C E (rcells (mkM T (w2.heap.size + 2) (w2.heap.size + 1) (w2.heap.size)) T) 4 129 22 109).1 (four (w := w2) rfl D C E (rcells (mkM T (w2.heap.size + 2) (w2.heap.size + 1) (w2.heap.size)) T) 4 129 22 109).2.2.2 (by omega) (by omega)⟩
  · clear c0 c1 c2 c3 c4 c5 c6 c7 c8 c9 c10 c11 c12 hck HSY
    have HP := Lib.hid hP
    clear hP
    go_wp2_with fail
    go_ret2
    exact Or.inl ⟨HP.out, rfl, K0.out.then K2.out (fun _ x => x.elim)⟩
end Go.Proofs.Ytemhfonneggneaa.RB
