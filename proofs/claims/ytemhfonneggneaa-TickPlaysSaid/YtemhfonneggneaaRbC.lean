/- The document's board: Base, Request, Serve, Requested. -/
import Derived.Test.YtemhfonneggneaaRbA
import Derived.Deep.Light
import Derived.BigRegion
import Derived.Laws.ResultCell
/- The document's board: Rel, Abs. -/
namespace Go.Proofs.Ytemhfonneggneaa.RB
open Go.RowKit Go.Fr Go.Tb Go.Proofs.Ytemhfonneggneaa.CK
attribute [local go_sem] Oper.semAt_some

theorem cell_al {w : World} {p : Addr} {v : Value} (o : Obj) (h : w.cell? p = some v) : (w.alloc o).cell? p = some v :=
  (((Kept.refl (fun _ => False) w).alloc o).cell (World.block_lt_of_cell? w _ h) (fun x => x)).trans h
theorem fine_rel {t mx mn cy : Nat} : (decide (1 ≤ t) && decide (t ≤ mx) && cycB mn mx cy) = decide ((1 ≤ (t : Int) ∧ (t : Int) ≤ mx) ∧ ((cy : Int) = 0 ∨ ((mn : Int) ≤ cy ∧ (cy : Int) ≤ mx))) := by
  unfold cycB
  rw [Bool.eq_iff_iff]
  simp only [Bool.and_eq_true, Bool.or_eq_true, decide_eq_true_eq]
  omega
theorem fine_abs {t mx mn cy : Nat} : (decide (t ≤ mx) && cycB mn mx cy) = decide (((t : Int) ≤ mx) ∧ ((cy : Int) = 0 ∨ ((mn : Int) ≤ cy ∧ (cy : Int) ≤ mx))) := by
  unfold cycB
  rw [Bool.eq_iff_iff]
  simp only [Bool.and_eq_true, Bool.or_eq_true, decide_eq_true_eq]
  omega
theorem putL_at {A : List (Bool × Nat × Nat)} {k : Nat} {a : Bool × Nat × Nat} (ha : A[k]? = some a) (F : Bool) (lf cy : Nat) : putL A (k : Int) F lf cy = if a.1 then (A, 7) else if F then (A.set k (true, lf, cy), 0) else (A, 8) := by
  unfold putL
  rw [if_pos (by omega), show ((k : Nat) : Int).toNat = k from Int.toNat_natCast k, ha]

section
variable {w w' : World} {p : Nat} {M : Rm} {T : Tb} {V : List Nat} {A : List (Bool × Nat × Nat)} {R : List Bool} {S : Nat → Prop}
theorem rel_no {i : Int} {t cy : Nat} (hs : IsRb w p M T V A R) (hi : ¬ (0 ≤ i ∧ i < A.length)) : Calls Try.prog 43 #[.pointer (some ⟨p, 0, none⟩), .int .i64 i, .int .u32 t, .int .u32 cy] w fun e w' => e = .returned (.int .i64 3) ∧ w = w' := by
  go_enter Try.func43, Try.ntmps43
  go_wp2_with (go_at_call 76; refine (there_no hs hi).mono ?_; rintro e w' ⟨rfl, rfl⟩)
  go_ret
  exact ⟨rfl, rfl⟩
theorem abs_no {i : Int} {t cy : Nat} (hs : IsRb w p M T V A R) (hi : ¬ (0 ≤ i ∧ i < A.length)) : Calls Try.prog 44 #[.pointer (some ⟨p, 0, none⟩), .int .i64 i, .int .u32 t, .int .u32 cy] w fun e w' => e = .returned (.int .i64 3) ∧ w = w' := by
  go_enter Try.func44, Try.ntmps44
  go_wp2_with (go_at_call 76; refine (there_no hs hi).mono ?_; rintro e w' ⟨rfl, rfl⟩)
  go_ret
  exact ⟨rfl, rfl⟩
set_option maxRecDepth 100000 in
set_option maxHeartbeats 2000000 in
theorem rel_in {k c : Nat} {a : Bool × Nat × Nat} {x : AlarmR} {mx mn : Nat} {bs : Int} (t cy : Nat) (hs : IsRb w p M T V A R) (hT : TabIn w T) (ha : A[k]? = some a) (_ : A.length ≤ 64) (hx : T.alarms[k]? = some x) (hxc : x.counter = (c : Int)) (hr : T.counters[c]? = some ((mx : Int), bs, (mn : Int))) (_ : T.counters.length ≤ 64) :
    Calls Try.prog 43 #[.pointer (some ⟨p, 0, none⟩), .int .i64 k, .int .u32 t, .int .u32 cy] w fun e w' =>
    e = .returned (.int .i64 (putL A k (decide (1 ≤ t) && decide (t ≤ mx) && cycB mn mx cy) t cy).2) ∧ IsRb w' p M T V (putL A k (decide (1 ≤ t) && decide (t ≤ mx) && cycB mn mx cy) t cy).1 R ∧ Kept (rfoot p M) w w' := by
  obtain ⟨g, cc, hv, c14, q0, _, _, _, _, hgp⟩ := hs.look ha
  have hk : k < A.length := (List.getElem?_eq_some_iff.1 ha).1
  have hka : k < T.alarms.length := (List.getElem?_eq_some_iff.1 hx).1
  have hcc : c < T.counters.length := (List.getElem?_eq_some_iff.1 hr).1
  have hla := hs.lens.2.1
  have hk0 : (0 : Int) ≤ (k : Int) := by omega
  have hk1 : (k : Int) < (A.length : Int) := by omega
  have hk2 : (k : Int) < (T.alarms.length : Int) := by omega
  have hc0 : (0 : Int) ≤ (c : Int) := by omega
  have hc1 : (c : Int) < (T.counters.length : Int) := by omega
  have HT := Lib.hid (there_in hs hk)
  obtain ⟨P1, hP1⟩ : ∃ P1, putL A (k : Int) (decide (1 ≤ t) && decide (t ≤ mx) && cycB mn mx cy) t cy = P1 := ⟨_, rfl⟩
  rw [hP1]
  rw [putL_at ha, fine_rel] at hP1
  have HP1 := Lib.hid hP1
  clear hP1
  obtain ⟨_, _, c5, c6, _⟩ := hs.tab
  obtain ⟨b6, o6, h6, _, hl6⟩ := camel_at hT.alarms hx
  obtain ⟨b5, o5, h5, _, hl5⟩ := camel_at hT.counters hr
  rw [h6] at c6
  rw [h5] at c5
  have e0 := hl6 0 _ rfl
  have f0 := hl5 0 _ rfl
  have f1 := hl5 1 _ rfl
  have f2 := hl5 2 _ rfl
  simp only [Nat.add_zero] at e0 f0
  rw [hxc] at e0
  obtain ⟨s, lf, cya⟩ := a
  dsimp only at q0 ⊢
  have HS := Lib.hid hs
  have HV := Lib.hid hv
  have HA := Lib.hid ha
  clear ha hv hs hl5 hl6 hx hr hxc h5 h6 hla
  cases s with
  | true =>
    go_enter Try.func43, Try.ntmps43
    go_wp2_with (go_at_call 76; refine HT.out.mono ?_; rintro e w' ⟨rfl, rfl⟩)
    go_ret
    have hp := HP1.out
    simp at hp
    subst hp
    exact ⟨rfl, HS.out, Kept.refl _ _⟩
  | false =>
    go_enter Try.func43, Try.ntmps43
    go_wp2_with (go_at_call 76; refine HT.out.mono ?_; rintro e w' ⟨rfl, rfl⟩)
    go_cut [9] from 22 to 38 (fun q wx => ∃ g9, q = .pointer (some ⟨g9, 0, none⟩) ∧ wx.cell? ⟨g9, 0, none⟩ = some (.int .u32 mx) ∧ wx.cell? ⟨g9, 2, none⟩ = some (.int .u32 mn) ∧ Hid (Kept (fun _ => False) w wx))
    case first =>
     as_aux_lemma =>
      have b0 : ∀ o : Obj, (w.alloc o).cell? ⟨p, 5, none⟩ = _ := fun o => cell_al o c5
      have b1 : ∀ o : Obj, (w.alloc o).cell? ⟨p, 6, none⟩ = _ := fun o => cell_al o c6
      have b2 : ∀ o : Obj, (w.alloc o).cell? ⟨b6, o6 + k * 7, none⟩ = _ := fun o => cell_al o e0
      have b3 : ∀ o : Obj, (w.alloc o).cell? ⟨b5, o5 + c * 3, none⟩ = _ := fun o => cell_al o f0
      have b4 : ∀ o : Obj, (w.alloc o).cell? ⟨b5, o5 + c * 3 + 1, none⟩ = _ := fun o => cell_al o f1
      have b5' : ∀ o : Obj, (w.alloc o).cell? ⟨b5, o5 + c * 3 + 2, none⟩ = _ := fun o => cell_al o f2
      go_region
      all_goals
        go_wp2_with fail
        go_meet
        have nb := Blk.new w [.int .u32 mx, .int .u32 bs, .int .u32 mn] 77
        exact ⟨_, rfl, nb.cell 0 rfl, nb.cell 2 rfl, by exact (((Kept.refl (fun _ => False) w).alloc _).same rfl rfl rfl rfl)⟩
    case rest =>
      obtain ⟨g9, rfl, y0, y2, hKw⟩ := hcut
      clear c5 c6 e0 f0 f1 f2 q0
      have HS2 := Lib.hid (HS.out.same hKw.out)
      obtain ⟨g', cc', hv', c14, r0, r1, r2, _, hf, _⟩ := HS2.out.look HA.out
      rw [HV.out] at hv'
      cases hv'
      dsimp only at r0 r1 r2
      have hset := HS2.out.setA3 HV.out HA.out true t cy
      have HSET := Lib.hid hset
      have z0 := hf (k * 3)
      have z1 := hf (k * 3 + 1)
      have z2 := hf (k * 3 + 2)
      obtain ⟨ti, hti⟩ : ∃ ti : Int, (t : Int) = ti := ⟨_, rfl⟩
      obtain ⟨ci, hci⟩ : ∃ ci : Int, (cy : Int) = ci := ⟨_, rfl⟩
      obtain ⟨mi, hmi⟩ : ∃ mi : Int, (mx : Int) = mi := ⟨_, rfl⟩
      obtain ⟨ni, hni⟩ : ∃ ni : Int, (mn : Int) = ni := ⟨_, rfl⟩
      go_upto_region 6 with fail
      rw [hmi] at y0
      rw [hni] at y2
      simp only [hti, hci]
      have HTI := Lib.hid hti
      have HCI := Lib.hid hci
      have HMI := Lib.hid hmi
      have HNI := Lib.hid hni
      clear hti hci hmi hni
      go_cut [61] (fun q wx => wx = wc ∧ ∃ bad : Bool, q = .bool bad ∧ Hid (bad = false ↔ ((1 ≤ ti ∧ ti ≤ mi) ∧ (ci = 0 ∨ (ni ≤ ci ∧ ci ≤ mi)))))
      case first =>
       as_aux_lemma =>
        clear z0 z1 z2 c14 hf r0 r1 r2
        by_cases hz : ci = 0
        · have z3 : (ci != 0) = false := by simpa using hz
          have HZ := Lib.hid hz
          clear hz
          go_wp2_with fail
          all_goals
            go_meet
            refine ⟨rfl, _, rfl, ?_⟩
            have hz := HZ.out
            clear HZ
            unfold Hid
            go_light
            grind
        · have z3 : (ci != 0) = true := by simpa using hz
          have HZ := Lib.hid hz
          clear hz
          go_wp2_with fail
          all_goals
            go_meet
            refine ⟨rfl, _, rfl, ?_⟩
            have hz := HZ.out
            clear HZ
            unfold Hid
            go_light
            grind
      case rest =>
        obtain ⟨hwc, bad, rfl, hbad⟩ := hcut
        subst hwc
        obtain rfl := HTI.out
        obtain rfl := HCI.out
        obtain rfl := HMI.out
        obtain rfl := HNI.out
        clear HTI HCI HMI HNI y2
        cases bad with
        | true =>
          have hno : Hid (¬ ((1 ≤ (t : Int) ∧ (t : Int) ≤ mx) ∧ ((cy : Int) = 0 ∨ ((mn : Int) ≤ cy ∧ (cy : Int) ≤ mx)))) := fun h => by cases hbad.out.2 h
          clear hbad
          go_wp2_with fail
          go_ret
          have hp := HP1.out
          rw [decide_eq_false hno.out] at hp
          simp at hp
          subst hp
          exact ⟨rfl, HS2.out, hKw.out.mono (fun _ _ x => x.elim)⟩
        | false =>
          have hyes : Hid ((1 ≤ (t : Int) ∧ (t : Int) ≤ mx) ∧ ((cy : Int) = 0 ∨ ((mn : Int) ≤ cy ∧ (cy : Int) ≤ mx))) := hbad.out.1 rfl
          clear hbad
          go_wp2_with fail
          go_ret
          have hp := HP1.out
          rw [decide_eq_true hyes.out] at hp
          simp at hp
          subst hp
          exact ⟨rfl, HSET.out.1, (hKw.out.mono (fun _ _ x => x.elim)).then HSET.out.2 (fun _ h => Or.inl h)⟩
set_option maxRecDepth 100000 in
set_option maxHeartbeats 2000000 in
theorem abs_in {k c : Nat} {a : Bool × Nat × Nat} {x : AlarmR} {mx mn : Nat} {bs : Int} (t cy : Nat) (hs : IsRb w p M T V A R) (hT : TabIn w T) (ha : A[k]? = some a) (_ : A.length ≤ 64) (hx : T.alarms[k]? = some x) (hxc : x.counter = (c : Int)) (hr : T.counters[c]? = some ((mx : Int), bs, (mn : Int))) (_ : T.counters.length ≤ 64) {now : Nat} (hv0 : V[c]? = some now) (hnow : now ≤ mx) (hmx : mx ≤ 2147483647) :
    Calls Try.prog 44 #[.pointer (some ⟨p, 0, none⟩), .int .i64 k, .int .u32 t, .int .u32 cy] w fun e w' =>
    e = .returned (.int .i64 (putL A k (decide (t ≤ mx) && cycB mn mx cy) (until' mx now t) cy).2) ∧ IsRb w' p M T V (putL A k (decide (t ≤ mx) && cycB mn mx cy) (until' mx now t) cy).1 R ∧ Kept (rfoot p M) w w' := by
  obtain ⟨g, cc, hv, c14, q0, _, _, _, _, hgp⟩ := hs.look ha
  have hk : k < A.length := (List.getElem?_eq_some_iff.1 ha).1
  have hka : k < T.alarms.length := (List.getElem?_eq_some_iff.1 hx).1
  have hcc : c < T.counters.length := (List.getElem?_eq_some_iff.1 hr).1
  have hla := hs.lens.2.1
  have hk0 : (0 : Int) ≤ (k : Int) := by omega
  have hk1 : (k : Int) < (A.length : Int) := by omega
  have hk2 : (k : Int) < (T.alarms.length : Int) := by omega
  have hc0 : (0 : Int) ≤ (c : Int) := by omega
  have hc1 : (c : Int) < (T.counters.length : Int) := by omega
  have HT := Lib.hid (there_in hs hk)
  obtain ⟨P1, hP1⟩ : ∃ P1, putL A (k : Int) (decide (t ≤ mx) && cycB mn mx cy) (until' mx now t) cy = P1 := ⟨_, rfl⟩
  rw [hP1]
  rw [putL_at ha, fine_abs] at hP1
  have HP1 := Lib.hid hP1
  clear hP1
  obtain ⟨_, _, c5, c6, _⟩ := hs.tab
  obtain ⟨b6, o6, h6, _, hl6⟩ := camel_at hT.alarms hx
  obtain ⟨b5, o5, h5, _, hl5⟩ := camel_at hT.counters hr
  rw [h6] at c6
  rw [h5] at c5
  have e0 := hl6 0 _ rfl
  have f0 := hl5 0 _ rfl
  have f1 := hl5 1 _ rfl
  have f2 := hl5 2 _ rfl
  simp only [Nat.add_zero] at e0 f0
  rw [hxc] at e0
  obtain ⟨s, lf, cya⟩ := a
  dsimp only at q0 ⊢
  have HS := Lib.hid hs
  have HV := Lib.hid hv
  have HA := Lib.hid ha
  have HVN := Lib.hid hv0
  clear ha hv hs hv0 hl5 hl6 hx hr hxc h5 h6 hla
  cases s with
  | true =>
    go_enter Try.func44, Try.ntmps44
    go_wp2_with (go_at_call 76; refine HT.out.mono ?_; rintro e w' ⟨rfl, rfl⟩)
    go_ret
    have hp := HP1.out
    simp at hp
    subst hp
    exact ⟨rfl, HS.out, Kept.refl _ _⟩
  | false =>
    go_enter Try.func44, Try.ntmps44
    go_upto_region 7 with (go_at_call 76; refine HT.out.mono ?_; rintro e w' ⟨rfl, rfl⟩)
    have nb := Blk.new w [.int .u32 mx, .int .u32 bs, .int .u32 mn] 77
    have kb := (Kept.refl (fun _ => False) w).alloc (.cells #[.int .u32 mx, .int .u32 bs, .int .u32 mn] 77)
    obtain ⟨wc, hwc⟩ : ∃ wc, w.alloc (.cells #[.int .u32 mx, .int .u32 bs, .int .u32 mn] 77) = wc := ⟨_, rfl⟩
    obtain ⟨g9, hg9⟩ : ∃ g, w.heap.size = g := ⟨_, rfl⟩
    rw [hwc] at nb kb ⊢
    rw [hg9] at nb
    try rw [hg9]
    have y0 := nb.cell 0 rfl
    have y2 := nb.cell 2 rfl
    have hKw := Lib.hid kb
    clear nb kb hwc hg9 c5 c6 e0 f0 f1 f2 q0 c14
    have HS2 := Lib.hid (HS.out.same hKw.out)
    obtain ⟨g', cc', hv', c14, r0, r1, r2, _, hf, _⟩ := HS2.out.look HA.out
    rw [HV.out] at hv'
    cases hv'
    dsimp only at r0 r1 r2
    obtain ⟨gv, cv, _, c13, u0, _⟩ := HS2.out.val HVN.out
    have hset := HS2.out.setA3 HV.out HA.out true (until' mx now t) cy
    have HSET := Lib.hid hset
    have z0 := hf (k * 3)
    have z1 := hf (k * 3 + 1)
    have z2 := hf (k * 3 + 2)
    have hlv := HS2.out.lens.1
    have hc2 : (c : Int) < (V.length : Int) := by omega
    obtain ⟨ti, hti⟩ : ∃ ti : Int, (t : Int) = ti := ⟨_, rfl⟩
    obtain ⟨ci, hci⟩ : ∃ ci : Int, (cy : Int) = ci := ⟨_, rfl⟩
    obtain ⟨mi, hmi⟩ : ∃ mi : Int, (mx : Int) = mi := ⟨_, rfl⟩
    obtain ⟨ni, hni⟩ : ∃ ni : Int, (mn : Int) = ni := ⟨_, rfl⟩
    rw [hmi] at y0
    rw [hni] at y2
    simp only [hti, hci]
    have HTI := Lib.hid hti
    have HCI := Lib.hid hci
    have HMI := Lib.hid hmi
    have HNI := Lib.hid hni
    clear hti hci hmi hni
    go_cut [61] (fun q wx => wx = wc ∧ ∃ bad : Bool, q = .bool bad ∧ Hid (bad = false ↔ ((ti ≤ mi) ∧ (ci = 0 ∨ (ni ≤ ci ∧ ci ≤ mi)))))
    case first =>
     as_aux_lemma =>
      clear z0 z1 z2 c14 hf r0 r1 r2 c13 u0
      by_cases hz : ci = 0
      · have z3 : (ci != 0) = false := by simpa using hz
        have HZ := Lib.hid hz
        clear hz
        go_wp2_with fail
        all_goals
          go_meet
          refine ⟨rfl, _, rfl, ?_⟩
          have hz := HZ.out
          clear HZ
          unfold Hid
          go_light
          grind
      · have z3 : (ci != 0) = true := by simpa using hz
        have HZ := Lib.hid hz
        clear hz
        go_wp2_with fail
        all_goals
          go_meet
          refine ⟨rfl, _, rfl, ?_⟩
          have hz := HZ.out
          clear HZ
          unfold Hid
          go_light
          grind
    case rest =>
      obtain ⟨hwc, bad, rfl, hbad⟩ := hcut
      subst hwc
      obtain rfl := HTI.out
      obtain rfl := HCI.out
      obtain rfl := HMI.out
      obtain rfl := HNI.out
      clear HTI HCI HMI HNI y2
      cases bad with
      | true =>
        have hno : Hid (¬ (((t : Int) ≤ mx) ∧ ((cy : Int) = 0 ∨ ((mn : Int) ≤ cy ∧ (cy : Int) ≤ mx)))) := fun h => by cases hbad.out.2 h
        clear hbad
        go_wp2_with fail
        go_ret
        have hp := HP1.out
        rw [decide_eq_false hno.out] at hp
        simp at hp
        subst hp
        exact ⟨rfl, HS2.out, hKw.out.mono (fun _ _ x => x.elim)⟩
      | false =>
        have hyes : Hid (((t : Int) ≤ mx) ∧ ((cy : Int) = 0 ∨ ((mn : Int) ≤ cy ∧ (cy : Int) ≤ mx))) := hbad.out.1 rfl
        have htm : t ≤ mx := by have := hyes.out.1; omega
        clear hbad
        by_cases hlt : now < t
        · have d5 : decide ((t : Int) ≤ (now : Int)) = false := by rw [decide_eq_false_iff_not]; omega
          have d6 : decide (t ≤ now) = false := by rw [decide_eq_false_iff_not]; omega
          have hun : until' mx now t = t - now := by unfold until'; rw [Nat.min_eq_left hnow, Nat.min_eq_left htm, if_pos hlt]
          obtain ⟨df, hdf⟩ : ∃ df, t - now = df := ⟨_, rfl⟩
          have hd1 : (t : Int) - (now : Int) = (df : Int) := by omega
          have hw1 : IntKind.u32.wrap ((t : Int) - (now : Int)) = (df : Int) := by rw [hd1]; exact IntWalk.u32_in _ (by omega)
          rw [hun, hdf] at HSET HP1
          clear hlt hun hdf
          go_wp2_with fail
          go_ret
          have hp := HP1.out
          rw [decide_eq_true hyes.out] at hp
          simp at hp
          subst hp
          exact ⟨rfl, HSET.out.1, (hKw.out.mono (fun _ _ x => x.elim)).then HSET.out.2 (fun _ h => Or.inl h)⟩
        · have d5 : decide ((t : Int) ≤ (now : Int)) = true := by rw [decide_eq_true_eq]; omega
          have d6 : decide (t ≤ now) = true := by rw [decide_eq_true_eq]; omega
          have hun : until' mx now t = mx + 1 - now + t := by unfold until'; rw [Nat.min_eq_left hnow, Nat.min_eq_left htm, if_neg hlt]
          obtain ⟨df, hdf⟩ : ∃ df, mx - now = df := ⟨_, rfl⟩
          have hd1 : (mx : Int) - (now : Int) = (df : Int) := by omega
          obtain ⟨un, hune⟩ : ∃ un, mx + 1 - now + t = un := ⟨_, rfl⟩
          have hd2 : (df : Int) + 1 + (t : Int) = (un : Int) := by omega
          have hdb : df ≤ 2147483647 := by omega
          rw [hun, hune] at HSET HP1
          clear hlt hun hdf hune
          go_wp2_with fail
          go_ret
          have hp := HP1.out
          rw [decide_eq_true hyes.out] at hp
          simp at hp
          subst hp
          exact ⟨rfl, HSET.out.1, (hKw.out.mono (fun _ _ x => x.elim)).then HSET.out.2 (fun _ h => Or.inl h)⟩
end
end Go.Proofs.Ytemhfonneggneaa.RB
namespace Go.Proofs.Ytemhfonneggneaa.RB
open Go.RowKit Go.Fr Go.Tb Go.Proofs.Ytemhfonneggneaa.CK
attribute [local go_sem] Oper.semAt_some

theorem set_eq_of_getElem? {α : Type} {l : List α} {k : Nat} {x : α} (h : l[k]? = some x) : l.set k x = l := by
  obtain ⟨h1, h2⟩ := List.getElem?_eq_some_iff.1 h
  rw [← h2, List.set_getElem_self]
section
variable {w w' : World} {p : Nat} {M : Rm} {T : Tb} {V : List Nat} {A : List (Bool × Nat × Nat)} {R : List Bool} {S : Nat → Prop}
set_option maxRecDepth 100000 in
theorem base_no {i : Int} (hs : IsRb w p M T V A R) (hi : ¬ (0 ≤ i ∧ i < A.length)) : Calls Try.prog 41 #[.pointer (some ⟨p, 0, none⟩), .int .i64 i] w fun e w' => e = .returned (.tuple #[.agg #[.int .u32 0, .int .u32 0, .int .u32 0], .int .i64 3]) ∧ Kept (fun _ => False) w w' := by
  have h1 : ∀ o : Obj, IsRb (w.alloc o) p M T V A R := fun o => hs.same ((Kept.refl _ w).alloc o)
  go_enter Try.func41, Try.ntmps41
  go_wp2_with (go_at_call 76; refine (there_no (h1 _) hi).mono ?_; rintro e w' ⟨rfl, rfl⟩)
  refine bodyPost_ret (v := .tuple #[.agg #[.int .u32 0, .int .u32 0, .int .u32 0], .int .i64 3]) (by rw [results_cell_tmp rfl]; go_simp) rfl ⟨rfl, (Kept.refl _ w).alloc _⟩
set_option maxRecDepth 100000 in
set_option maxHeartbeats 1000000 in
theorem base_in {k c : Nat} {x : AlarmR} {mx mn bs : Int} (hs : IsRb w p M T V A R) (hT : TabIn w T) (hk : k < A.length) (_ : A.length ≤ 64) (hx : T.alarms[k]? = some x) (hxc : x.counter = (c : Int)) (hr : T.counters[c]? = some (mx, bs, mn)) (_ : T.counters.length ≤ 64) :
    Calls Try.prog 41 #[.pointer (some ⟨p, 0, none⟩), .int .i64 k] w fun e w' => e = .returned (.tuple #[.agg #[.int .u32 mx, .int .u32 bs, .int .u32 mn], .int .i64 0]) ∧ Kept (fun _ => False) w w' := by
  have hka : k < T.alarms.length := (List.getElem?_eq_some_iff.1 hx).1
  have hcc : c < T.counters.length := (List.getElem?_eq_some_iff.1 hr).1
  have hk0 : (0 : Int) ≤ (k : Int) := by omega
  have hk2 : (k : Int) < (T.alarms.length : Int) := by omega
  have hc0 : (0 : Int) ≤ (c : Int) := by omega
  have hc1 : (c : Int) < (T.counters.length : Int) := by omega
  have kA := (Kept.refl (fun _ => False) w).alloc (.cells #[.int .u32 0, .int .u32 0, .int .u32 0] 114)
  have nA := Blk.new w [.int .u32 0, .int .u32 0, .int .u32 0] 114
  obtain ⟨w1, hw1⟩ : ∃ w1, w.alloc (.cells #[.int .u32 0, .int .u32 0, .int .u32 0] 114) = w1 := ⟨_, rfl⟩
  obtain ⟨N, hN⟩ : ∃ N, w.heap.size = N := ⟨_, rfl⟩
  rw [hw1] at kA nA
  rw [hN] at nA
  have hs1 := hs.same kA
  have hT1 := hT.same kA
  have HT := Lib.hid (there_in hs1 hk)
  obtain ⟨_, _, c5, c6, _⟩ := hs1.tab
  obtain ⟨b6, o6, h6, _, hl6⟩ := camel_at hT1.alarms hx
  obtain ⟨b5, o5, h5, _, hl5⟩ := camel_at hT1.counters hr
  rw [h6] at c6
  rw [h5] at c5
  have e0 := hl6 0 _ rfl
  have f0 := hl5 0 _ rfl
  have f1 := hl5 1 _ rfl
  have f2 := hl5 2 _ rfl
  simp only [Nat.add_zero] at e0 f0
  rw [hxc] at e0
  have NA := Lib.hid nA
  have KA := Lib.hid kA
  have HW1 := Lib.hid hw1
  have HN := Lib.hid hN
  clear hs hs1 hT hT1 hl5 hl6 hx hr hxc h5 h6 nA kA hw1 hN
  go_enter Try.func41, Try.ntmps41
  go_upto_region 1 with fail
  rw [HW1.out]
  try rw [HN.out]
  have hNle : Hid (w.heap.size ≤ N) := by rw [Hid, HN.out]; exact Nat.le_refl _
  clear HW1 HN
  go_wp2_with (go_at_call 76; refine HT.out.mono ?_; rintro e w' ⟨rfl, rfl⟩)
  go_cut [6] from 12 to 28 (fun q wx => ∃ g9, q = .pointer (some ⟨g9, 0, none⟩) ∧ wx.cell? ⟨g9, 0, none⟩ = some (.int .u32 mx) ∧ wx.cell? ⟨g9, 1, none⟩ = some (.int .u32 bs) ∧ wx.cell? ⟨g9, 2, none⟩ = some (.int .u32 mn) ∧ Hid (Kept (fun _ => False) w1 wx))
  case first =>
   as_aux_lemma =>
    have b0 : ∀ o : Obj, (w1.alloc o).cell? ⟨p, 5, none⟩ = _ := fun o => cell_al o c5
    have b1 : ∀ o : Obj, (w1.alloc o).cell? ⟨p, 6, none⟩ = _ := fun o => cell_al o c6
    have b2 : ∀ o : Obj, (w1.alloc o).cell? ⟨b6, o6 + k * 7, none⟩ = _ := fun o => cell_al o e0
    have b3 : ∀ o : Obj, (w1.alloc o).cell? ⟨b5, o5 + c * 3, none⟩ = _ := fun o => cell_al o f0
    have b4 : ∀ o : Obj, (w1.alloc o).cell? ⟨b5, o5 + c * 3 + 1, none⟩ = _ := fun o => cell_al o f1
    have b5' : ∀ o : Obj, (w1.alloc o).cell? ⟨b5, o5 + c * 3 + 2, none⟩ = _ := fun o => cell_al o f2
    go_region
    all_goals
      go_wp2_with fail
      go_meet
      have nb := Blk.new w1 [.int .u32 mx, .int .u32 bs, .int .u32 mn] 77
      exact ⟨_, rfl, nb.cell 0 rfl, nb.cell 1 rfl, nb.cell 2 rfl, by exact (((Kept.refl (fun _ => False) w1).alloc _).same rfl rfl rfl rfl)⟩
  case rest =>
    obtain ⟨g9, rfl, y0, y1, y2, hKw⟩ := hcut
    have nC := NA.out.kept hKw.out (fun x => x)
    have z0 := nC.cell 0 rfl
    have z1 := nC.cell 1 rfl
    have z2 := nC.cell 2 rfl
    have v0 := nC.frozen 0
    have v1 := nC.frozen 1
    have v2 := nC.frozen 2
    clear c5 c6 e0 f0 f1 f2
    go_wp2_with fail
    have hN := hNle.out
    refine bodyPost_ret (v := .tuple #[.agg #[.int .u32 mx, .int .u32 bs, .int .u32 mn], .int .i64 0]) (by rw [results_cell_tmp rfl]; go_simp) rfl ⟨rfl, ?_⟩
    exact (((KA.out.then hKw.out (fun _ x => x.elim)).setCell (p := ⟨N, 0, none⟩) (Or.inr hN) _).setCell (p := ⟨N, 1, none⟩) (Or.inr hN) _).setCell (p := ⟨N, 2, none⟩) (Or.inr hN) _
theorem request_no {i : Int} (hs : IsRb w p M T V A R) (hi : ¬ (0 ≤ i ∧ i < R.length)) : Calls Try.prog 48 #[.pointer (some ⟨p, 0, none⟩), .int .i64 i] w fun e w' => e = .returned (.int .i64 3) ∧ w = w' := by
  obtain ⟨o1, k1, o2, k2, o3, k3, _, _, _, _, _, c15⟩ := hs.lists
  by_cases h : i < 0
  · have d0 : decide (i < 0) = true := by simpa using h
    go_enter Try.func48, Try.ntmps48
    go_wp2_with fail
    go_ret
    exact ⟨rfl, rfl⟩
  · have d0 : decide (i < 0) = false := by simpa using h
    have d1 : decide ((R.length : Int) ≤ i) = true := by rw [decide_eq_true_eq]; omega
    go_enter Try.func48, Try.ntmps48
    go_wp2_with fail
    go_ret
    exact ⟨rfl, rfl⟩
set_option maxRecDepth 100000 in
theorem request_in {k : Nat} (hs : IsRb w p M T V A R) (hk : k < R.length) (_ : R.length ≤ 32) : Calls Try.prog 48 #[.pointer (some ⟨p, 0, none⟩), .int .i64 k] w fun e w' =>
    e = .returned (.int .i64 0) ∧ IsRb w' p M T V A (R.set k true) ∧ Kept (rfoot p M) w w' := by
  obtain ⟨v, hv, _⟩ := at_of hk
  obtain ⟨g, c, hm, c15, q0, _, hf, _⟩ := hs.req hv
  have f0 := hf k
  have hset := Lib.hid (hs.setR hm hk true)
  have hk0 : (0 : Int) ≤ (k : Int) := by omega
  have hk1 : (k : Int) < (R.length : Int) := by omega
  have d1 : decide ((R.length : Int) ≤ (k : Int)) = false := by rw [decide_eq_false_iff_not]; omega
  have d2 : decide (R.length ≤ k) = false := by rw [decide_eq_false_iff_not]; omega
  clear hs hm hv hf
  go_enter Try.func48, Try.ntmps48
  go_wp2_with fail
  go_ret
  exact ⟨rfl, hset.out.1, hset.out.2⟩
theorem serve_no {i : Int} (hs : IsRb w p M T V A R) (hi : ¬ (0 ≤ i ∧ i < R.length)) : Calls Try.prog 50 #[.pointer (some ⟨p, 0, none⟩), .int .i64 i] w fun e w' => e = .returned (.int .i64 2) ∧ w = w' := by
  obtain ⟨o1, k1, o2, k2, o3, k3, _, _, _, _, _, c15⟩ := hs.lists
  by_cases h : i < 0
  · have d0 : decide (i < 0) = true := by simpa using h
    go_enter Try.func50, Try.ntmps50
    go_wp2_with fail
    go_ret
    exact ⟨rfl, rfl⟩
  · have d0 : decide (i < 0) = false := by simpa using h
    have d1 : decide ((R.length : Int) ≤ i) = true := by rw [decide_eq_true_eq]; omega
    go_enter Try.func50, Try.ntmps50
    go_wp2_with fail
    go_ret
    exact ⟨rfl, rfl⟩
set_option maxRecDepth 100000 in
theorem serve_in {k : Nat} {v : Bool} (hs : IsRb w p M T V A R) (hv : R[k]? = some v) (_ : R.length ≤ 32) : Calls Try.prog 50 #[.pointer (some ⟨p, 0, none⟩), .int .i64 k] w fun e w' =>
    e = .returned (.int .i64 (if v then 0 else 2)) ∧ IsRb w' p M T V A (R.set k false) ∧ Kept (rfoot p M) w w' := by
  have hk : k < R.length := (List.getElem?_eq_some_iff.1 hv).1
  obtain ⟨g, c, hm, c15, q0, _, hf, _⟩ := hs.req hv
  have f0 := hf k
  have hset := Lib.hid (hs.setR hm hk false)
  have hk0 : (0 : Int) ≤ (k : Int) := by omega
  have hk1 : (k : Int) < (R.length : Int) := by omega
  have d1 : decide ((R.length : Int) ≤ (k : Int)) = false := by rw [decide_eq_false_iff_not]; omega
  have d2 : decide (R.length ≤ k) = false := by rw [decide_eq_false_iff_not]; omega
  have HS := Lib.hid hs
  have HV := Lib.hid hv
  clear hs hm hv hf
  cases v with
  | true =>
    go_enter Try.func50, Try.ntmps50
    go_wp2_with fail
    go_ret
    exact ⟨rfl, hset.out.1, hset.out.2⟩
  | false =>
    go_enter Try.func50, Try.ntmps50
    go_wp2_with fail
    go_ret
    refine ⟨rfl, ?_, Kept.refl _ _⟩
    rw [set_eq_of_getElem? HV.out]
    exact HS.out
end
end Go.Proofs.Ytemhfonneggneaa.RB
