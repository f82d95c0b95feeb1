/- The document's tables: tasks. -/
import Derived.Test.YtemhfonneggneaaRfE
import Derived.Test.YtemhfonneggneaaTbG
namespace Go.Proofs.Ytemhfonneggneaa.TR
open Go.RowKit Go.Fr Go.Tb Go.Proofs.Ytemhfonneggneaa.TC
attribute [local go_sem] Oper.semAt_some

theorem infoI : (Try.prog.info? 3).map (fun i => (i.zero, i.size, i.bytes)) = some (some (.int .i64 0), 1, 8) := by kernel_rfl
/-- what is asked of a task's row ahead of the rings -/
def L1 (x : TaskR) : Prop := (0 ≤ x.pr ∧ x.pr ≤ 63) ∧ (1 ≤ x.limit ∧ x.limit ≤ 255) ∧ (x.mask = 0 ∨ x.limit = 1)
def L2 (T : Tb) (x : TaskR) : Prop := 0 ≤ x.ring ∧ ∃ y, (ringsB T.tasks 64)[x.ring.toNat]? = some y ∧ y.1 = x.pr
def RTasks (T : Tb) : Prop := (∀ x ∈ T.tasks, L1 x) ∧ ringsB T.tasks 64 = T.rings ∧ ∀ x ∈ T.tasks, L2 T x ∧ TaskB T x
theorem rtasks_iff (T : Tb) : RTasks T ↔ ((∀ x ∈ T.tasks, 0 ≤ x.pr ∧ x.pr ≤ 63) ∧ TasksP T) := by
  constructor
  · rintro ⟨h1, h2, h3⟩
    refine ⟨fun x hx => (h1 x hx).1, fun x hx => ⟨?_, (h3 x hx).2⟩, h2⟩
    have a := h1 x hx
    have b := (h3 x hx).1
    unfold L2 at b
    rw [h2] at b
    exact ⟨b.1, b.2, a.2.1.1, a.2.1.2, a.2.2⟩
  · rintro ⟨h1, h2, h3⟩
    refine ⟨fun x hx => ?_, h3, fun x hx => ⟨?_, (h2 x hx).2⟩⟩
    · obtain ⟨_, _, a, b, c⟩ := (h2 x hx).1
      exact ⟨h1 x hx, ⟨a, b⟩, c⟩
    · obtain ⟨a, b, _⟩ := (h2 x hx).1
      unfold L2
      rw [h3]
      exact ⟨a, b⟩

/-- the two lists that are made -/
structure Pq (w wr : World) (ao : Option Addr) (c n : Nat) (la : List Value) (bo : Option Addr) (d m : Nat) (lb : List Value) : Prop where
  ra : Row wr 3 1 (.slice ao n c) n la
  oa : ∀ g, (Value.slice ao n c).ownBlock = some g → w.heap.size ≤ g
  rb : Row wr 3 1 (.slice bo m d) m lb
  ob : ∀ g, (Value.slice bo m d).ownBlock = some g → w.heap.size ≤ g
  ap : ∀ g, (Value.slice ao n c).ownBlock = some g → (Value.slice bo m d).ownBlock ≠ some g
  kept : Kept (fun _ => False) w wr
section
variable {w wr wf : World} {ao bo ao' bo' : Option Addr} {c d n m c' d' : Nat} {la lb : List Value}
theorem Pq.same (h : Pq w wr ao c n la bo d m lb) (k : Kept (fun _ => False) wr wf) : Pq w wf ao c n la bo d m lb :=
  ⟨row_kept h.ra k (fun _ _ x => x), h.oa, row_kept h.rb k (fun _ _ x => x), h.ob, h.ap, h.kept.then k (fun _ x => x.elim)⟩
theorem Pq.stepA {v : Value} {o : Obj} (h : Pq w wr ao c n la bo d m lb) (r1 : Row wf 3 1 (.slice ao' (n + 1) c') (n + 1) (la ++ [v])) (r2 : (wr.alloc o).grownBy wf (Value.slice ao n c).ownBlock)
    (r3 : ∀ g, (Value.slice ao' (n + 1) c').ownBlock = some g → (Value.slice ao n c).ownBlock = some g ∨ (wr.alloc o).heap.size ≤ g) : Pq w wf ao' c' (n + 1) (la ++ [v]) bo d m lb := by
  have kc : Kept (fun i => (Value.slice ao n c).ownBlock = some i) wr wf := ((Kept.refl _ wr).alloc _).grown r2 (fun i e => Or.inl e)
  refine ⟨r1, fun g hg => ?_, row_kept h.rb kc (fun g hg e => h.ap g e hg), h.ob, fun g hg e => ?_, h.kept.then kc (fun i hi => Or.inr (h.oa i hi))⟩
  · rcases r3 g hg with h1 | h1
    · exact h.oa g h1
    · rw [World.size_alloc] at h1; have := h.kept.size; omega
  · rcases r3 g hg with h1 | h1
    · exact h.ap g h1 e
    · rw [World.size_alloc] at h1; have := row_lt h.rb e; omega
theorem Pq.stepB {v : Value} {o : Obj} (h : Pq w wr ao c n la bo d m lb) (r1 : Row wf 3 1 (.slice bo' (m + 1) d') (m + 1) (lb ++ [v])) (r2 : (wr.alloc o).grownBy wf (Value.slice bo m d).ownBlock)
    (r3 : ∀ g, (Value.slice bo' (m + 1) d').ownBlock = some g → (Value.slice bo m d).ownBlock = some g ∨ (wr.alloc o).heap.size ≤ g) : Pq w wf ao c n la bo' d' (m + 1) (lb ++ [v]) := by
  have kc : Kept (fun i => (Value.slice bo m d).ownBlock = some i) wr wf := ((Kept.refl _ wr).alloc _).grown r2 (fun i e => Or.inl e)
  refine ⟨row_kept h.ra kc (fun g hg e => h.ap g hg e), h.oa, r1, fun g hg => ?_, fun g hg e => ?_, h.kept.then kc (fun i hi => Or.inr (h.ob i hi))⟩
  · rcases r3 g hg with h1 | h1
    · exact h.ob g h1
    · rw [World.size_alloc] at h1; have := h.kept.size; omega
  · rcases r3 g e with h1 | h1
    · exact h.ap g hg h1
    · rw [World.size_alloc] at h1; have := row_lt h.ra hg; omega
end
def prs (l : List TaskR) : List Value := (l.map (·.pr)).map (Value.int .i64)
def lims (l : List TaskR) : List Value := (l.map (·.limit)).map (Value.int .i64)
theorem prs_take {l : List TaskR} {k : Nat} {x : TaskR} (h : l[k]? = some x) : prs (l.take (k + 1)) = prs (l.take k) ++ [.int .i64 x.pr] := by
  unfold prs; rw [List.take_add_one, h]; simp
theorem lims_take {l : List TaskR} {k : Nat} {x : TaskR} (h : l[k]? = some x) : lims (l.take (k + 1)) = lims (l.take k) ++ [.int .i64 x.limit] := by
  unfold lims; rw [List.take_add_one, h]; simp
/-- a row of one number more, and its own block -/
theorem camel_ints {w : World} {ao : Option Addr} {n c : Nat} {l : List Int} (h : Row w 3 1 (.slice ao n c) n (l.map (Value.int .i64))) : CameL w 1 (encK .i64) ao l := by
  intro hne
  have hn : n = l.length := by have := h.1; simp at this; omega
  subst hn
  rcases row_forms h with ⟨_, h0⟩ | ⟨g, c', hv, _, _, hg⟩
  · exact absurd (List.length_eq_zero_iff.1 h0) hne
  · cases hv
    refine ⟨g, 0, rfl, hg, fun i x hx j v hv => ?_⟩
    have hj : j = 0 := by
      have := (List.getElem?_eq_some_iff.1 hv).1
      simp [encK] at this
      exact this
    subst hj
    have hv2 : v = .int .i64 x := by simpa [encK] using hv.symm
    subst hv2
    rw [Nat.zero_add, Nat.mul_one, Nat.add_zero]
    exact row_cell h i (by rw [List.getElem?_map, hx]; rfl)

set_option maxRecDepth 100000 in
set_option maxHeartbeats 8000000 in
theorem tasks_ok {w : World} {T : Tb} (hT : TabIn w T) (hW : T.Wf) (hn : T.tasks.length ≤ 256) (hm : 1 ≤ T.modes ∧ T.modes ≤ 8) :
    Calls Try.prog 71 #[.agg T.cells.toArray] w fun e w' => BoolIs e (RTasks T) ∧ Kept (fun _ => False) w w' := by
  have k0 : Kept (fun _ => False) w (box w T) := (Kept.refl _ w).alloc _
  have nb : Blk (box w T) w.heap.size T.cells 37 := Blk.new w T.cells 37
  have hT1 := hT.same k0
  obtain ⟨w1, hw1⟩ : ∃ w1, box w T = w1 := ⟨_, rfl⟩
  obtain ⟨B, hB⟩ : ∃ B, w.heap.size = B := ⟨_, rfl⟩
  rw [hw1] at k0 nb hT1
  rw [hB] at nb
  have HT := Lib.hid hT1
  have HW := Lib.hid hW
  have NB := Lib.hid nb
  have K0 := Lib.hid k0
  have hle := hW.lens.1
  have hle2 := hW.lens.2.1
  clear hT hT1 hW nb k0
  obtain ⟨i0, hi, hz0, hz1, hz2⟩ := info_parts infoI
  have hs : T.cells.toArray.size = 13 := rfl
  have hn0 : (T.cells.toArray = #[]) = False := by simp [Tb.cells]
  unfold box at hw1
  generalize T.cells.toArray = Z at hw1 hs hn0 ⊢
  go_enter Try.func71, Try.ntmps71
  go_upto_region 1 with fail
  clear hs hn0 hw1 hB
  go_wp2_with fail
  have P0 : Hid (Pq w1 w1 none 0 0 (prs (T.tasks.take 0)) none 0 0 (lims (T.tasks.take 0))) := ⟨World.ownsRow_nil _ _ _ _, by simp [Value.ownBlock], World.ownsRow_nil _ _ _ _, by simp [Value.ownBlock], by simp [Value.ownBlock], Kept.refl _ _⟩
  go_loopw [3, 4, 5] (fun a b i wr => ∃ (k : Nat) (ao : Option Addr) (c : Nat) (bo : Option Addr) (d : Nat), k ≤ T.tasks.length ∧ i = .int .i64 k ∧ a = .slice ao k c ∧ b = .slice bo k d ∧ Hid (Pq w1 wr ao c k (prs (T.tasks.take k)) bo d k (lims (T.tasks.take k))) ∧ Hid (∀ x ∈ T.tasks.take k, L1 x)) (fun _ _ i _ => T.tasks.length - (intOf i).toNat)
  case atStart => exact ⟨0, none, 0, none, 0, Nat.zero_le _, rfl, rfl, rfl, P0, by simp [Hid]⟩
  case round =>
    clear P0
    obtain ⟨k, ao, c, bo, d, hk, rfl, rfl, rfl, hQ, hP⟩ := hrel
    have c2 := (NB.out.kept hQ.out.kept (fun x => x)).cell 2 rfl
    by_cases hkl : k < T.tasks.length
    · obtain ⟨x, hx, hmx⟩ := at_of hkl
      have hk0 : (0 : Int) ≤ (k : Int) := by omega
      have hk1 : (k : Int) < (T.tasks.length : Int) := by omega
      have HX := Lib.hid hx
      have HMX := Lib.hid hmx
      obtain ⟨xpr, xring, xfull, xlim, xmask, xinl, xoa, xoc, xown, xauto⟩ := x
      obtain ⟨b, off, hta, hb, hcl⟩ := camel_at (camel_same HT.out.tasks hQ.out.kept) hx
      have e0 := hcl 0 _ rfl
      have e1 := hcl 1 _ rfl
      have e2 := hcl 2 _ rfl
      have e3 := hcl 3 _ rfl
      have e4 := hcl 4 _ rfl
      have e5 := hcl 5 _ rfl
      have e6 := hcl 6 _ rfl
      have e7 := hcl 7 _ rfl
      simp only [Nat.add_zero] at e0
      dsimp only at e0 e1 e2 e3 e4 e5 e6 e7
      clear hcl hx hmx
      rw [hta] at c2
      go_upto_region 7 with fail
      have nr := Blk.new wr [.int .i64 xpr, .int .i64 xring, .bool xfull, .int .i64 xlim, .int .u32 xmask, .int .i64 xinl, .slice xoa xown.length xoc, .int .u32 xauto] 97
      have hQ2 := hQ.out.same ((Kept.refl _ wr).alloc (.cells #[.int .i64 xpr, .int .i64 xring, .bool xfull, .int .i64 xlim, .int .u32 xmask, .int .i64 xinl, .slice xoa xown.length xoc, .int .u32 xauto] 97))
      obtain ⟨w2, hw2⟩ : ∃ w2, wr.alloc (.cells #[.int .i64 xpr, .int .i64 xring, .bool xfull, .int .i64 xlim, .int .u32 xmask, .int .i64 xinl, .slice xoa xown.length xoc, .int .u32 xauto] 97) = w2 := ⟨_, rfl⟩
      obtain ⟨M, hM⟩ : ∃ M, wr.heap.size = M := ⟨_, rfl⟩
      have nr' : Blk w2 M [.int .i64 xpr, .int .i64 xring, .bool xfull, .int .i64 xlim, .int .u32 xmask, .int .i64 xinl, .slice xoa xown.length xoc, .int .u32 xauto] 97 := by rw [← hw2, ← hM]; exact nr
      have HLA : Hid (∀ g, (Value.slice ao k c).ownBlock = some g → g < M) := by rw [← hM]; exact fun g hg => row_lt hQ.out.ra hg
      rw [hw2] at hQ2 ⊢
      try rw [hM]
      have NR := Lib.hid nr'
      have HQ2 := Lib.hid hQ2
      clear nr nr' hw2 hM hQ2 hQ e0 e1 e2 e3 e4 e5 e6 e7 hta c2
      have y0 := NR.out.cell 0 rfl
      have y3 := NR.out.cell 3 rfl
      have y4 := NR.out.cell 4 rfl
      go_cut [50] (fun t wx => wx = w2 ∧ ∃ bad : Bool, t = .bool bad ∧ Hid (bad = false ↔ L1 ⟨xpr, xring, xfull, xlim, xmask, xinl, xoa, xoc, xown, xauto⟩))
      case first =>
       as_aux_lemma =>
        go_wp2_with fail
        all_goals
          go_meet
          refine ⟨rfl, _, rfl, ?_⟩
          unfold Hid L1
          dsimp only
          go_light
          grind
      case rest =>
        obtain ⟨hwc, bad, rfl, hbad⟩ := hcut
        obtain rfl : w2 = wc := hwc.symm
        cases bad with
        | true =>
          have HB : Hid (¬ L1 ⟨xpr, xring, xfull, xlim, xmask, xinl, xoa, xoc, xown, xauto⟩) := fun h => by cases hbad.out.2 h
          clear hbad y0 y3 y4
          go_wp2_with fail
          go_ret
          exact ⟨bool_no fun h => HB.out (h.1 _ HMX.out), K0.out.then HQ2.out.kept (fun _ x => x.elim)⟩
        | false =>
          have HA : Hid (L1 ⟨xpr, xring, xfull, xlim, xmask, xinl, xoa, xoc, xown, xauto⟩) := hbad.out.1 rfl
          clear hbad y4
          have PT := Lib.hid (prs_take HX.out)
          have LT := Lib.hid (lims_take HX.out)
          have hP2 : Hid (∀ x ∈ T.tasks.take (k + 1), L1 x) := by
            intro x hx
            rw [List.take_add_one, HX.out] at hx
            rcases List.mem_append.1 hx with hx | hx
            · exact hP.out x hx
            · simp only [Option.toList_some, List.mem_singleton] at hx
              subst hx
              exact HA.out
          clear hP HA
          go_upto_region 10 with (at_builtin; refine wpList_append_any rfl (.tmp 51) (.tmp 54) 40 rfl 3 i0 (.int .i64 0) 1 8 Try.underlying40 hi hz0 hz1 hz2 rfl (by decide) _ _ _ (prs (T.tasks.take k)) rfl (row_alloc HQ2.out.ra _) _ 1 1 [.int .i64 xpr] rfl (shows_new _ [_] _ (by simp) rfl) (by simp [Value.oneCell']) (by unfold maxLen; omega) (by omega) ?_; intro ao5 c5 w5 r1 r2 r3)
          have HQ5 := Lib.hid (HQ2.out.stepA r1 r2 r3)
          have NR5 := Lib.hid ((NR.out.alloc (.cells #[.int .i64 xpr] 3)).kept (((Kept.refl _ _).grown r2 (fun i e => Or.inl e)) : Kept (fun i => (Value.slice ao k c).ownBlock = some i) _ w5) (fun e => by have := HLA.out _ e; omega))
          rw [← PT.out] at HQ5
          clear r1 r2 r3 HQ2 NR PT y0 y3
          have y3 := NR5.out.cell 3 rfl
          go_upto_region 5 with (at_builtin; refine wpList_append_any rfl (.tmp 56) (.tmp 59) 40 rfl 3 i0 (.int .i64 0) 1 8 Try.underlying40 hi hz0 hz1 hz2 rfl (by decide) _ _ _ (lims (T.tasks.take k)) rfl (row_alloc HQ5.out.rb _) _ 1 1 [.int .i64 xlim] rfl (shows_new _ [_] _ (by simp) rfl) (by simp [Value.oneCell']) (by unfold maxLen; omega) (by omega) ?_; intro bo5 d5 w6 r1 r2 r3)
          have HQ6 := HQ5.out.stepB r1 r2 r3
          rw [← LT.out] at HQ6
          have HQ7 := Lib.hid HQ6
          clear r1 r2 r3 HQ5 HQ6 LT y3 NR5
          go_wp2_with fail
          go_roundw
          case rel => exact ⟨k + 1, ao5, c5, bo5, d5, by omega, by go_num, rfl, rfl, HQ7, hP2⟩
          case measure => simp [intOf]; omega
    · obtain rfl : k = T.tasks.length := by omega
      have hP1 := hP.out
      rw [List.take_length] at hP1
      have hQ1 := hQ.out
      rw [List.take_length] at hQ1
      have HP := Lib.hid hP1
      have HQ := Lib.hid hQ1
      have hr := Rings_ok (c := c) (d := d) (l := T.tasks) (camel_ints hQ1.ra) (camel_ints hQ1.rb) hn (fun x hx => by have := (hP1 x hx).2.1; omega)
      have HF := Lib.hid (ringsB_len T.tasks 64)
      clear hP hQ hP1 hQ1
      go_upto_region 12 with (go_at_call 87; refine hr.mono ?_; rintro e w2 ⟨fo, fc, rfl, hR⟩)
      have K2 := Lib.hid (HQ.out.kept.then hR.kept (fun _ x => x.elim))
      have FR := Lib.hid (camel_row hR.row)
      obtain ⟨F, hFe⟩ : ∃ F, ringsB T.tasks 64 = F := ⟨_, rfl⟩
      rw [hFe] at FR HF ⊢
      have HFE := Lib.hid hFe
      have hfl : F.length ≤ 64 := HF.out
      clear hR hr HQ HF hFe c2
      have c3 := (NB.out.kept K2.out (fun x => x)).cell 3 rfl
      by_cases hlen : F.length = T.rings.length
      · have d0 : ((F.length : Int) != (T.rings.length : Int)) = false := by rw [bne_eq_false_iff_eq]; omega
        have HLEN := Lib.hid hlen
        clear hlen
        go_wp2_with fail
        clear c3 d0
        go_loopw [8] (fun i wr => ∃ k : Nat, k ≤ F.length ∧ i = .int .i64 k ∧ Hid (Kept (fun _ => False) w2 wr) ∧ Hid (F.take k = T.rings.take k)) (fun i _ => F.length - (intOf i).toNat)
        case atStart => exact ⟨0, Nat.zero_le _, rfl, Kept.refl _ _, rfl⟩
        case round =>
          obtain ⟨k, hk, rfl, hK, hP⟩ := hrel
          by_cases hkl : k < F.length
          · have K3 := Lib.hid (K2.out.then hK.out (fun _ x => x.elim))
            have c3 := (NB.out.kept K3.out (fun x => x)).cell 3 rfl
            have hlen := HLEN.out
            have hk0 : (0 : Int) ≤ (k : Int) := by omega
            have hk1 : (k : Int) < (F.length : Int) := by omega
            have hk2 : (k : Int) < (T.rings.length : Int) := by omega
            obtain ⟨⟨x1, x2⟩, hx, _⟩ := at_of hkl
            obtain ⟨⟨z1, z2⟩, hz, _⟩ := at_of (l := T.rings) (k := k) (by omega)
            obtain ⟨g, o, rfl, _, hcl⟩ := camel_at (camel_same FR.out hK.out) hx
            obtain ⟨g', o', hra, _, hcl'⟩ := camel_at (camel_same HT.out.rings K3.out) hz
            rw [hra] at c3
            have e0 := hcl 0 _ rfl
            have e1 := hcl 1 _ rfl
            have f0 := hcl' 0 _ rfl
            have f1 := hcl' 1 _ rfl
            simp only [Nat.add_zero] at e0 f0
            have HX := Lib.hid hx
            have HZ := Lib.hid hz
            clear hx hz hcl hcl' hra hlen
            by_cases hxz : (x1, x2) = (z1, z2)
            · cases hxz
              have hne : (binOp .neq 99 (.agg #[.int .i64 x1, .int .i64 x2]) (.agg #[.int .i64 x1, .int .i64 x2])).run Try.prog = fun w => .ok (.bool false) w := by
                funext w; simp [go_sem]
              have hP2 : Hid (F.take (k + 1) = T.rings.take (k + 1)) := by
                unfold Hid
                rw [List.take_add_one, List.take_add_one, hP.out, HX.out, HZ.out]
              go_wp2_with fail
              go_quiet (fail)
              go_wp2_with fail
              go_roundw
              case rel => exact ⟨k + 1, by omega, by go_num, hK.out.drewN _, hP2⟩
              case measure => simp [intOf]; omega
            · have hne : (binOp .neq 99 (.agg #[.int .i64 x1, .int .i64 x2]) (.agg #[.int .i64 z1, .int .i64 z2])).run Try.prog = fun w => .ok (.bool true) w := by
                funext w
                by_cases h : x1 = z1
                · subst h
                  have : ¬ x2 = z2 := fun h => hxz (by rw [h])
                  simp [go_sem, this]
                · simp [go_sem, h]
              have NE : Hid (F ≠ T.rings) := fun h => by
                have h1 := HX.out
                rw [h, HZ.out] at h1
                exact hxz (by cases h1; rfl)
              clear hxz
              go_wp2_with fail
              go_quiet (fail)
              go_wp2_with fail
              go_ret
              exact ⟨bool_no fun h => NE.out (HFE.out.symm.trans h.2.1), K0.out.then (K3.out.drewN _) (fun _ x => x.elim)⟩
          · obtain rfl : k = F.length := by omega
            have hFT : Hid (F = T.rings) := by
              have h := hP.out
              rw [List.take_length, HLEN.out, List.take_length] at h
              exact h
            have K4 := Lib.hid (K2.out.then hK.out (fun _ x => x.elim))
            have FR4 := Lib.hid (camel_same FR.out hK.out)
            have c2 := (NB.out.kept K4.out (fun x => x)).cell 2 rfl
            clear hP hK K2 FR
            go_wp2_with fail
            clear c2
            obtain ⟨w4, hw4⟩ : ∃ w4, w4 = wr := ⟨_, rfl⟩
            subst hw4
            have RT : Hid ((∀ x ∈ T.tasks, L2 T x ∧ TaskB T x) → RTasks T) := fun h => ⟨HP.out, HFE.out.trans hFT.out, h⟩
            have RN : Hid (¬ (∀ x ∈ T.tasks, L2 T x ∧ TaskB T x) → ¬ RTasks T) := fun h e => h e.2.2
            go_loopw [9] (fun i wr => ∃ k : Nat, k ≤ T.tasks.length ∧ i = .int .i64 k ∧ Hid (Kept (fun _ => False) w4 wr) ∧ Hid (∀ x ∈ T.tasks.take k, L2 T x ∧ TaskB T x)) (fun i _ => T.tasks.length - (intOf i).toNat)
            case atStart => exact ⟨0, Nat.zero_le _, rfl, Kept.refl _ _, by simp [Hid]⟩
            case round =>
              obtain ⟨k, hk, rfl, hK, hP⟩ := hrel
              have K5 := Lib.hid (K4.out.then hK.out (fun _ x => x.elim))
              have c2 := (NB.out.kept K5.out (fun x => x)).cell 2 rfl
              by_cases hkl : k < T.tasks.length
              · obtain ⟨x, hx, hmx⟩ := at_of hkl
                have hwx := HW.out.tasks _ hmx
                have hoc := camel_same (HT.out.town _ hmx) K5.out
                obtain ⟨xpr, xring, xfull, xlim, xmask, xinl, xoa, xoc, xown, xauto⟩ := x
                have hk0 : (0 : Int) ≤ (k : Int) := by omega
                have hk1 : (k : Int) < (T.tasks.length : Int) := by omega
                obtain ⟨b, off, hta, hb, hcl⟩ := camel_at (camel_same HT.out.tasks K5.out) hx
                have e0 := hcl 0 _ rfl
                have e1 := hcl 1 _ rfl
                have e2 := hcl 2 _ rfl
                have e3 := hcl 3 _ rfl
                have e4 := hcl 4 _ rfl
                have e5 := hcl 5 _ rfl
                have e6 := hcl 6 _ rfl
                have e7 := hcl 7 _ rfl
                simp only [Nat.add_zero] at e0
                dsimp only at e0 e1 e2 e3 e4 e5 e6 e7 hwx hoc
                have HX := Lib.hid hx
                have HWX := Lib.hid hwx
                have HMX := Lib.hid hmx
                clear hcl hx hwx hmx
                rw [hta] at c2
                go_upto_region 23 with fail
                have nr := Blk.new wr [.int .i64 xpr, .int .i64 xring, .bool xfull, .int .i64 xlim, .int .u32 xmask, .int .i64 xinl, .slice xoa xown.length xoc, .int .u32 xauto] 97
                have k2 : Kept (fun _ => False) w1 (wr.alloc (.cells #[.int .i64 xpr, .int .i64 xring, .bool xfull, .int .i64 xlim, .int .u32 xmask, .int .i64 xinl, .slice xoa xown.length xoc, .int .u32 xauto] 97)) := K5.out.alloc _
                have k3 : Kept (fun _ => False) w4 (wr.alloc (.cells #[.int .i64 xpr, .int .i64 xring, .bool xfull, .int .i64 xlim, .int .u32 xmask, .int .i64 xinl, .slice xoa xown.length xoc, .int .u32 xauto] 97)) := hK.out.alloc _
                have ho2 := camel_same hoc ((Kept.refl _ wr).alloc (.cells #[.int .i64 xpr, .int .i64 xring, .bool xfull, .int .i64 xlim, .int .u32 xmask, .int .i64 xinl, .slice xoa xown.length xoc, .int .u32 xauto] 97))
                obtain ⟨w6, hw6⟩ : ∃ w6, wr.alloc (.cells #[.int .i64 xpr, .int .i64 xring, .bool xfull, .int .i64 xlim, .int .u32 xmask, .int .i64 xinl, .slice xoa xown.length xoc, .int .u32 xauto] 97) = w6 := ⟨_, rfl⟩
                obtain ⟨M, hM⟩ : ∃ M, wr.heap.size = M := ⟨_, rfl⟩
                have nr' : Blk w6 M [.int .i64 xpr, .int .i64 xring, .bool xfull, .int .i64 xlim, .int .u32 xmask, .int .i64 xinl, .slice xoa xown.length xoc, .int .u32 xauto] 97 := by rw [← hw6, ← hM]; exact nr
                rw [hw6] at k2 k3 ho2 ⊢
                try rw [hM]
                have NR := Lib.hid nr'
                have K6 := Lib.hid k2
                have K7 := Lib.hid k3
                have HO := Lib.hid ho2
                clear nr nr' hw6 hM k2 k3 ho2 hoc e0 e1 e2 e3 e4 e5 e6 e7 hta c2 K5 hK
                have y0 := NR.out.cell 0 rfl
                have y1 := NR.out.cell 1 rfl
                go_cut [118] (fun t wx => ∃ (q : Nat) (bad : Bool), wx = w6.drewN q ∧ t = .bool bad ∧ Hid (bad = false ↔ L2 T ⟨xpr, xring, xfull, xlim, xmask, xinl, xoa, xoc, xown, xauto⟩))
                case first =>
                 as_aux_lemma =>
                  have no : ∀ (h : ¬ L2 T ⟨xpr, xring, xfull, xlim, xmask, xinl, xoa, xoc, xown, xauto⟩), Hid (true = false ↔ L2 T ⟨xpr, xring, xfull, xlim, xmask, xinl, xoa, xoc, xown, xauto⟩) := fun h => ⟨(fun e => by cases e), fun e => absurd e h⟩
                  have NO := Lib.hid no
                  have ta0 : Hid (L2 T ⟨xpr, xring, xfull, xlim, xmask, xinl, xoa, xoc, xown, xauto⟩ ↔ (0 ≤ xring ∧ ∃ y, F[xring.toNat]? = some y ∧ y.1 = xpr)) := by
                    unfold Hid L2
                    rw [HFE.out]
                  clear no
                  by_cases h0 : xring < 0
                  · have d0 : decide (xring < 0) = true := by simpa using h0
                    have PF := NO.out (fun h => by have := (ta0.out.1 h).1; omega)
                    clear h0
                    go_quiet (fail)
                    go_wp2_with fail
                    go_meet
                    exact ⟨_, true, rfl, rfl, PF⟩
                  have d0 : decide (xring < 0) = false := by simpa using h0
                  by_cases h1 : (F.length : Int) ≤ xring
                  · have d1 : decide ((F.length : Int) ≤ xring) = true := by simpa using h1
                    have PF := NO.out (fun h => by
                      obtain ⟨y, h2, _⟩ := (ta0.out.1 h).2
                      have := (List.getElem?_eq_some_iff.1 h2).1
                      omega)
                    clear h0 h1
                    go_quiet (fail)
                    go_wp2_with fail
                    go_meet
                    exact ⟨_, true, rfl, rfl, PF⟩
                  have d1 : decide ((F.length : Int) ≤ xring) = false := by simpa using h1
                  obtain ⟨n, rfl⟩ := Int.eq_ofNat_of_zero_le (a := xring) (by omega)
                  obtain ⟨⟨yp, yc⟩, hy, _⟩ := at_of (l := F) (k := n) (by omega)
                  obtain ⟨b3, off3, rfl, hb3, hcl3⟩ := camel_at (camel_same FR4.out K7.out) hy
                  have f0 := hcl3 0 _ rfl
                  simp only [Nat.add_zero] at f0
                  have HY := Lib.hid hy
                  have n0 : (0 : Int) ≤ (n : Int) := by omega
                  have n1 : (n : Int) < (F.length : Int) := by omega
                  have n2 : decide (F.length ≤ n) = false := by simp; omega
                  have ta : Hid (L2 T ⟨xpr, (n : Int), xfull, xlim, xmask, xinl, xoa, xoc, xown, xauto⟩ ↔ yp = xpr) := by
                    unfold Hid
                    rw [ta0.out, show ((n : Nat) : Int).toNat = n from Int.toNat_natCast n, HY.out]
                    constructor
                    · rintro ⟨_, y, h2, h3⟩
                      cases h2
                      exact h3
                    · exact fun h3 => ⟨n0, _, rfl, h3⟩
                  clear hcl3 hy h0 h1
                  by_cases h3 : yp = xpr
                  · have d3 : (yp != xpr) = false := by simpa using h3
                    have PF : Hid (L2 T ⟨xpr, (n : Int), xfull, xlim, xmask, xinl, xoa, xoc, xown, xauto⟩) := ta.out.2 h3
                    clear h3
                    go_quiet (fail)
                    go_wp2_with fail
                    go_meet
                    exact ⟨_, false, rfl, rfl, ⟨fun _ => PF.out, fun _ => rfl⟩⟩
                  · have d3 : (yp != xpr) = true := by simpa using h3
                    have PF := NO.out (fun h => h3 (ta.out.1 h))
                    clear h3
                    go_quiet (fail)
                    go_wp2_with fail
                    go_meet
                    exact ⟨_, true, rfl, rfl, PF⟩
                case rest =>
                  obtain ⟨q, bad, rfl, rfl, hbad⟩ := hcut
                  have K3 := Lib.hid (K6.out.drewN q)
                  have K8 := Lib.hid (K7.out.drewN q)
                  have NR3 := Lib.hid (NR.out.drewN q)
                  have HO3 := Lib.hid (camel_same HO.out ((Kept.refl _ w6).drewN q))
                  obtain ⟨w3, hw3⟩ : ∃ w3, w6.drewN q = w3 := ⟨_, rfl⟩
                  rw [hw3] at K3 K8 NR3 HO3 ⊢
                  clear hw3 y0 y1 K6 K7 NR HO
                  cases bad with
                  | true =>
                    have hb := hbad.out
                    have HB : Hid (¬ L2 T ⟨xpr, xring, xfull, xlim, xmask, xinl, xoa, xoc, xown, xauto⟩) := fun h => by cases hb.2 h
                    clear hb hbad
                    go_wp2_with fail
                    go_ret
                    exact ⟨bool_no (RN.out fun h => HB.out (h _ HMX.out).1), K0.out.then K3.out (fun _ x => x.elim)⟩
                  | false =>
                    have HA : Hid (L2 T ⟨xpr, xring, xfull, xlim, xmask, xinl, xoa, xoc, xown, xauto⟩) := hbad.out.1 rfl
                    clear hbad
                    have y0 := NR3.out.cell 0 rfl
                    have y5 := NR3.out.cell 5 rfl
                    have y6 := NR3.out.cell 6 rfl
                    have y7 := NR3.out.cell 7 rfl
                    have nb3 := NB.out.kept K3.out (fun x => x)
                    have c0 := nb3.cell 0 rfl
                    have c1 := nb3.cell 1 rfl
                    have c2 := nb3.cell 2 rfl
                    have c3 := nb3.cell 3 rfl
                    have c4 := nb3.cell 4 rfl
                    have c5 := nb3.cell 5 rfl
                    have c6 := nb3.cell 6 rfl
                    have c7 := nb3.cell 7 rfl
                    have c8 := nb3.cell 8 rfl
                    have c9 := nb3.cell 9 rfl
                    have c10 := nb3.cell 10 rfl
                    have c11 := nb3.cell 11 rfl
                    have c12 := nb3.cell 12 rfl
                    have hown := owned_ok (c := xoc) xpr (HT.out.same K3.out) HW.out HO3.out HWX.out.2.2.2.2.2.2.1 HWX.out.2.2.2.2.2.2.2
                    have HOWN := Lib.hid hown
                    clear hown nb3
                    have hm0 : (0 : Int) ≤ T.modes := by omega
                    have hm1 : ¬ T.modes < 0 := by omega
                    have NXT : Hid (∀ (h : TaskB T ⟨xpr, xring, xfull, xlim, xmask, xinl, xoa, xoc, xown, xauto⟩), ∀ x ∈ T.tasks.take (k + 1), L2 T x ∧ TaskB T x) := by
                      intro h x hx
                      rw [List.take_add_one, HX.out] at hx
                      rcases List.mem_append.1 hx with hx | hx
                      · exact hP.out x hx
                      · simp only [Option.toList_some, List.mem_singleton] at hx
                        subst hx
                        exact ⟨HA.out, h⟩
                    clear hP
                    go_wp2_with (go_at_call 88; refine HOWN.out.mono ?_; rintro e w7 ⟨⟨b4, rfl, hb4⟩, k4⟩; have HB4 := Lib.hid hb4; have K9 := Lib.hid k4; have y7 := (NR3.out.kept k4 (fun x => x)).cell 7 rfl; have c1 := ((NB.out.kept K3.out (fun x => x)).kept k4 (fun x => x)).cell 1 rfl; clear hb4 k4; cases b4)
                    all_goals first
                      | (go_ret
                         refine ⟨bool_no (RN.out fun h => ?_), ?_⟩
                         · have h2 := (h _ HMX.out).2
                           first
                             | (have h4 := HB4.out
                                unfold TaskB at h2
                                dsimp only at h2
                                clear HB4 HWX
                                go_light
                                grind)
                             | (unfold TaskB at h2
                                dsimp only at h2
                                clear HWX
                                go_light
                                grind)
                         · first
                             | exact K0.out.then (K3.out.then K9.out (fun _ x => x.elim)) (fun _ x => x.elim)
                             | exact K0.out.then K3.out (fun _ x => x.elim))
                      | (have hB : Hid (TaskB T ⟨xpr, xring, xfull, xlim, xmask, xinl, xoa, xoc, xown, xauto⟩) := by
                           have h4 := HB4.out
                           unfold Hid TaskB
                           dsimp only
                           clear HB4 HWX
                           go_light
                           grind
                         clear y0 y5 y6 y7 c0 c1 c2 c3 c4 c5 c6 c7 c8 c9 c10 c11 c12
                         go_roundw
                         case rel => exact ⟨k + 1, by omega, by go_num, K8.out.then K9.out (fun _ x => x.elim), NXT.out hB.out⟩
                         case measure => simp [intOf]; omega)
              · obtain rfl : k = T.tasks.length := by omega
                have hP2 := hP.out
                rw [List.take_length] at hP2
                have HP2 := Lib.hid hP2
                clear hP hP2
                go_wp2_with fail
                go_ret
                exact ⟨bool_yes (RT.out HP2.out), K0.out.then K5.out (fun _ x => x.elim)⟩
      · have d0 : ((F.length : Int) != (T.rings.length : Int)) = true := by simp; omega
        have NE : Hid (F ≠ T.rings) := fun h => hlen (by rw [h])
        clear hlen
        go_wp2_with fail
        go_ret
        exact ⟨bool_no fun h => NE.out (HFE.out.symm.trans h.2.1), K0.out.then K2.out (fun _ x => x.elim)⟩
end Go.Proofs.Ytemhfonneggneaa.TR
