/- Package clock: Coming. -/
import Derived.Test.YtialldmepphloaaClkF
import Derived.Deep.LoopGhost
namespace Go.Proofs.Ytialldmepphloaa.CK
open Go.RowKit Go.Fr

/-- behind k alarms -/
def midn (q : Nat) (l : List (Bool × Nat × Nat)) (k : Nat) : List (Bool × Nat × Nat) := (l.take k).map (Com.adv q) ++ l.drop k
theorem midn_length (q : Nat) (l : List (Bool × Nat × Nat)) (k : Nat) : (midn q l k).length = l.length := by simp [midn]; omega
theorem midn_at {q : Nat} {l : List (Bool × Nat × Nat)} {k : Nat} {a : Bool × Nat × Nat} (h : l[k]? = some a) : (midn q l k)[k]? = some a := by
  have hk := (List.getElem?_eq_some_iff.1 h).1
  unfold midn
  rw [List.getElem?_append_right (by simp; omega)]
  simp [Nat.min_eq_left (Nat.le_of_lt hk), h]
theorem midn_succ {q : Nat} {l : List (Bool × Nat × Nat)} {k : Nat} {a : Bool × Nat × Nat} (h : l[k]? = some a) : (midn q l k).set k (Com.adv q a) = midn q l (k + 1) := by
  have hk := (List.getElem?_eq_some_iff.1 h).1
  unfold midn
  rw [List.set_append_right _ _ (by simp; omega)]
  have e : k - (List.map (Com.adv q) (List.take k l)).length = 0 := by simp; omega
  rw [e, List.drop_eq_getElem_cons hk, List.set_cons_zero, List.take_add_one, h]
  have ea : l[k] = a := (List.getElem?_eq_some_iff.1 h).2
  simp
theorem midn_same {q : Nat} {l : List (Bool × Nat × Nat)} {k : Nat} {a : Bool × Nat × Nat} (h : l[k]? = some a) (e : Com.adv q a = a) : midn q l (k + 1) = midn q l k := by
  have hk := (List.getElem?_eq_some_iff.1 h).1
  rw [← midn_succ h, e]
  apply List.ext_getElem?
  intro i
  rw [List.getElem?_set]
  split
  · rename_i hi
    subst hi
    rw [midn_length, if_pos hk, midn_at h]
  · rfl
theorem outs_succ {q P : Nat} {l : List (Bool × Nat × Nat)} {k : Nat} {a : Bool × Nat × Nat} (h : l[k]? = some a) : Com.outs q P (l.take (k + 1)) 0 = Com.outs q P (l.take k) 0 ++ (if a.1 && decide (a.2.1 - q = 0) then [(P, k)] else []) := by
  have hk := (List.getElem?_eq_some_iff.1 h).1
  rw [List.take_add_one, h, Option.toList_some, Com.outs_append, Com.outs, Com.outs, List.append_nil]
  simp [Nat.min_eq_left (Nat.le_of_lt hk)]

section
variable {w : World} {b : Nat} {v : Value} {m n x : Nat} {l : List (Bool × Nat × Nat)}

/-- one batch under way: q ticks on, at P ticks; O was told before -/
structure Bat (w1 wr : World) (b : Nat) (v : Value) (m n x q P : Nat) (l : List (Bool × Nat × Nat)) (O : List (Nat × Nat)) (k : Nat) (r : Value) (n0 : Nat) : Prop where
  clk : IsC wr b v m n x (midn q l k)
  row : Row wr 53 2 r (O ++ Com.outs q P (l.take k) 0).length ((O ++ Com.outs q P (l.take k) 0).flatMap encX)
  own : ∀ g, r.ownBlock = some g → n0 ≤ g ∧ ¬ foot b v g
  kept : Kept (fun i => n0 ≤ i) w1 wr

theorem Bat.skip {w1 wr : World} {q P k n0 : Nat} {O : List (Nat × Nat)} {r : Value} {a : Bool × Nat × Nat} (hT : Bat w1 wr b v m n x q P l O k r n0) (h : l[k]? = some a) (e : Com.adv q a = a) (hf : (a.1 && decide (a.2.1 - q = 0)) = false) : Bat w1 wr b v m n x q P l O (k + 1) r n0 := by
  have hfd : Com.outs q P (l.take (k + 1)) 0 = Com.outs q P (l.take k) 0 := by rw [outs_succ h, hf]; simp
  exact ⟨by rw [midn_same h e]; exact hT.clk, by rw [hfd]; exact hT.row, hT.own, hT.kept⟩

theorem Bat.dec {w1 wr : World} {q P k n0 g c lf cy : Nat} {O : List (Nat × Nat)} {r : Value} (hT : Bat w1 wr b (.slice (some ⟨g, 0, none⟩) l.length c) m n x q P l O k r n0) (h : l[k]? = some (true, lf, cy)) (hl : q < lf) (hg0 : n0 ≤ g) :
    Bat w1 (wr.setCell ⟨g, k * 3 + 1, none⟩ (.int .u64 ((lf - q : Nat) : Int))) b (.slice (some ⟨g, 0, none⟩) l.length c) m n x q P l O (k + 1) r n0 := by
  have ht : Com.adv q (true, lf, cy) = (true, lf - q, cy) := by simp [Com.adv]; omega
  have hf : ((true, lf, cy).1 && decide ((true, lf, cy).2.1 - q = 0)) = false := by simp; omega
  have hfd : Com.outs q P (l.take (k + 1)) 0 = Com.outs q P (l.take k) 0 := by rw [outs_succ h, hf]; simp
  have hc := hT.clk
  have hml := midn_length q l k
  have hp : IsC (wr.setCell ⟨g, k * 3 + 1, none⟩ (.int .u64 ((lf - q : Nat) : Int))) b (.slice (some ⟨g, 0, none⟩) l.length c) m n x (midn q l (k + 1)) := by
    rw [← midn_succ h, ht, ← hml]
    rw [← hml] at hc
    exact hc.put (i := 1) (true, lf - q, cy) (midn_at h) (by decide) rfl
  exact ⟨hp, by rw [hfd]; exact row_setCell_other hT.row (a := ⟨g, k * 3 + 1, none⟩) (fun e => (hT.own _ e).2 (Or.inr rfl)) _, hT.own, hT.kept.setCell (p := ⟨g, k * 3 + 1, none⟩) (Or.inl hg0) _⟩

theorem Bat.fire {w1 we : World} {q P k n0 g c c3 : Nat} {O : List (Nat × Nat)} {ao3 : Option Addr} {a : Bool × Nat × Nat} (h : l[k]? = some a) (hf : (a.1 && decide (a.2.1 - q = 0)) = true) (hC : IsC we b (.slice (some ⟨g, 0, none⟩) l.length c) m n x ((midn q l k).set k (Com.adv q a)))
    (hr : Row we 53 2 (.slice ao3 ((O ++ Com.outs q P (l.take k) 0).length + 1) c3) ((O ++ Com.outs q P (l.take k) 0).length + 1) ((O ++ Com.outs q P (l.take k) 0).flatMap encX ++ encX (P, k))) (ho : ∀ i, (Value.slice ao3 ((O ++ Com.outs q P (l.take k) 0).length + 1) c3).ownBlock = some i → n0 ≤ i ∧ ¬ foot b (.slice (some ⟨g, 0, none⟩) l.length c) i)
    (hk : Kept (fun i => n0 ≤ i) w1 we) : (O ++ Com.outs q P (l.take (k + 1)) 0).length = (O ++ Com.outs q P (l.take k) 0).length + 1 ∧ Bat w1 we b (.slice (some ⟨g, 0, none⟩) l.length c) m n x q P l O (k + 1) (.slice ao3 ((O ++ Com.outs q P (l.take k) 0).length + 1) c3) n0 := by
  have hfd : Com.outs q P (l.take (k + 1)) 0 = Com.outs q P (l.take k) 0 ++ [(P, k)] := by rw [outs_succ h, hf]; rfl
  have hfl : (O ++ Com.outs q P (l.take (k + 1)) 0).length = (O ++ Com.outs q P (l.take k) 0).length + 1 := by rw [hfd, ← List.append_assoc, List.length_append]; rfl
  refine ⟨hfl, by rw [← midn_succ h]; exact hC, ?_, ho, hk⟩
  rw [hfl, hfd, ← List.append_assoc, List.flatMap_append]
  simpa using hr

theorem fine_adv {q : Nat} (h : Fine m n x l) (hq : ∀ a ∈ l, a.1 = true → q ≤ a.2.1) : Fine m n x (l.map (Com.adv q)) := by
  refine ⟨h.hmost, h.hleast, h.hvalue, by simpa using h.hlen, ?_, ?_, ?_⟩
  all_goals
    intro a ha
    obtain ⟨⟨s, lf, cy⟩, hm', rfl⟩ := List.mem_map.1 ha
    have l1 := h.hleft _ hm'
    have l2 := h.hcycle _ hm'
    have l3 := h.hset _ hm'
    have l4 := h.hmost
    have l5 := hq _ hm'
    simp only at l1 l2 l3 l5
    unfold Com.adv
    simp only
    repeat' split
    all_goals (first | omega | (simp; omega) | (simp_all; omega) | simp_all)

/-- the answer under way: j rounds are done, T ticks have passed -/
structure Com1 (w0 wr : World) (b : Nat) (v : Value) (m n x F T j n0 : Nat) (l0 l : List (Bool × Nat × Nat)) (O : List (Nat × Nat)) (r : Value) : Prop where
  clk : IsClk wr b v m n x l
  row : Row wr 53 2 r O.length (O.flatMap encX)
  own : ∀ g, r.ownBlock = some g → n0 ≤ g ∧ ¬ foot b v g
  kept : Kept (fun i => n0 ≤ i) w0 wr
  spec : Com.comingL F l0 0 = O ++ Com.comingL (F - j) l T
  time : T ≤ j * 4294967296
  more : j ≤ O.length
  less : O.length ≤ F + 64

theorem Com1.same {w0 wr wf : World} {F T j n0 : Nat} {l0 : List (Bool × Nat × Nat)} {O : List (Nat × Nat)} {r : Value} (h : Com1 w0 wr b v m n x F T j n0 l0 l O r) (k : Kept (fun _ => False) wr wf) : Com1 w0 wf b v m n x F T j n0 l0 l O r :=
  { h with clk := h.clk.kept k (fun _ _ h => h), row := row_kept h.row k (fun _ _ h => h), kept := h.kept.then k (fun _ h => False.elim h) }

theorem Bat.same {w1 wr wf : World} {q P k n0 : Nat} {O : List (Nat × Nat)} {r : Value} (h : Bat w1 wr b v m n x q P l O k r n0) (kk : Kept (fun _ => False) wr wf) : Bat w1 wf b v m n x q P l O k r n0 :=
  { h with clk := h.clk.kept kk (fun _ _ h => h), row := row_kept h.row kk (fun _ _ h => h), kept := h.kept.then kk (fun _ h => False.elim h) }

/-- a batch begins -/
theorem Com1.bat {w0 wr : World} {F T j n0 q P : Nat} {l0 : List (Bool × Nat × Nat)} {O : List (Nat × Nat)} {r : Value} (h : Com1 w0 wr b v m n x F T j n0 l0 l O r) : Bat w0 wr b v m n x q P l O 0 r n0 :=
  ⟨by simpa [midn] using h.clk.c, by simpa [Com.outs] using h.row, h.own, h.kept⟩

/-- a batch ends -/
theorem Com1.done {w0 wr wf : World} {F T j n0 q : Nat} {l0 : List (Bool × Nat × Nat)} {O : List (Nat × Nat)} {r r' : Value} (h : Com1 w0 wr b v m n x F T j n0 l0 l O r) (hj : O.length < F) (hq : Com.soon l = some q) (hB : Bat w0 wf b v m n x q (T + q) l O l.length r' n0) (hf : Fine m n x l) :
    Com1 w0 wf b v m n x F (T + q) (j + 1) n0 l0 (l.map (Com.adv q)) (O ++ Com.outs q (T + q) l 0) r' := by
  have hs := (Com.soon_spec l).2 q hq
  have hc := hB.clk
  have hr := hB.row
  have e1 : midn q l l.length = l.map (Com.adv q) := by simp [midn]
  rw [e1] at hc
  rw [List.take_length] at hr
  have hq2 : q ≤ 4294967296 := by
    obtain ⟨⟨a, ha, _, e2⟩, _⟩ := hs
    have := hf.hleft a ha
    omega
  have hout := Com.outs_pos q (T + q) l 0 hs
  have houl := Com.outs_length q (T + q) l 0
  have hl := hf.hlen
  have hmo := h.more
  have hti := h.time
  refine { clk := ⟨hc.1, hc.2.1, hc.2.2, fine_adv hf hs.2⟩, row := hr, own := hB.own, kept := hB.kept, spec := ?_, time := by omega, more := ?_, less := ?_ }
  · rw [h.spec, List.append_assoc]
    refine congrArg (O ++ ·) ?_
    rw [show F - j = (F - (j + 1)) + 1 by omega, Com.comingL, hq]
  · rw [List.length_append]; omega
  · rw [List.length_append]; omega

theorem shows_take {w : World} {O : List (Nat × Nat)} {ao : Option Addr} {k : Nat} (h : Shows w 2 ao O.length (O.flatMap encX)) (hk : k ≤ O.length) : Shows w 2 ao k ((O.take k).flatMap encX) := by
  refine ⟨by rw [flat_length encX_len, List.length_take, Nat.min_eq_left hk], fun e => by have := h.2.1 e; omega, fun ad ha j u hu => h.2.2 ad ha j u ?_⟩
  have e : O.flatMap encX = (O.take k).flatMap encX ++ (O.drop k).flatMap encX := by rw [← List.flatMap_append, List.take_append_drop]
  rw [e, List.getElem?_append_left (List.getElem?_eq_some_iff.1 hu).1]
  exact hu

theorem clone_any {w : World} {O : List (Nat × Nat)} {ar : Option Addr} {k cr : Nat} (hr : Row w 53 2 (.slice ar O.length cr) O.length (O.flatMap encX)) (hk : k ≤ O.length) (hO : O.length ≤ 140000) : Calls Try.prog 45 #[.slice ar k cr] w fun e w' =>
    ∃ ao' c', e = .returned (.slice ao' k c') ∧ Row w' 53 2 (.slice ao' k c') k ((O.take k).flatMap encX) ∧ Kept (fun _ => False) w w' ∧ (∀ g, (Value.slice ao' k c').ownBlock = some g → w.heap.size ≤ g) := by
  have hsh := shows_take hr.shows hk
  cases ar with
  | some ad => exact clone_ok hsh (by omega)
  | none =>
    have h0 := hr.shows.2.1 rfl
    obtain rfl : k = 0 := by omega
    have hc : cr = 0 := by
      rcases row_forms hr with ⟨h, _⟩ | ⟨g, c, h, _⟩
      · simp at h; omega
      · simp at h
    subst hc
    refine (clone_nil w).mono ?_
    rintro e w' ⟨rfl, rfl⟩
    exact ⟨none, 0, rfl, World.ownsRow_nil _ _ _ _, Kept.refl _ _, by simp [Value.ownBlock]⟩

set_option maxRecDepth 100000 in
set_option maxHeartbeats 8000000 in
theorem coming_ok (hs : IsClk w b v m n x l) (mo : Int) (_ : (Lit.int .i64 mo).wf = true) : Calls Try.prog 26 #[.pointer (some ⟨b, 0, none⟩), .int .i64 mo] w fun e w' =>
    ∃ ao c, e = .returned (.slice ao ((Com.comingL (min mo 65536).toNat l 0).take (min mo 65536).toNat).length c) ∧
      Row w' 53 2 (.slice ao ((Com.comingL (min mo 65536).toNat l 0).take (min mo 65536).toNat).length c) ((Com.comingL (min mo 65536).toNat l 0).take (min mo 65536).toNat).length (((Com.comingL (min mo 65536).toNat l 0).take (min mo 65536).toNat).flatMap encX) ∧
      Kept (fun _ => False) w w' ∧ (∀ g, (Value.slice ao ((Com.comingL (min mo 65536).toNat l 0).take (min mo 65536).toNat).length c).ownBlock = some g → w.heap.size ≤ g) := by
  have hmf : ∀ (fn : Fn) (first cap : Array Value) (w : World), (Instr.makeFunc fn first cap).run Try.prog w = .ok (.func fn first cap) w := fun _ _ _ _ => rfl
  obtain ⟨iX, hiX, hx0, hx1, hx2⟩ := info_parts info_x
  have hcopy := copy_ok hs
  have hlen := hs.2.2.2.hlen
  obtain ⟨M, hM⟩ : ∃ M, (min mo 65536).toNat = M := ⟨_, rfl⟩
  obtain ⟨mm, hmm⟩ : ∃ mm, min mo 65536 = mm := ⟨_, rfl⟩
  rw [hM]
  rw [hmm] at hM
  have hM65 : M ≤ 65536 := by omega
  obtain ⟨D, hD0⟩ : ∃ D, (Com.comingL M l 0).take M = D := ⟨_, rfl⟩
  rw [hD0]
  have HD0 := Lib.hid hD0
  clear hD0
  go_enter Try.func26, Try.ntmps26
  go_upto_region 7 with (first
    | (go_at_call 36; refine (alive_ok hs).mono ?_; rintro e w' ⟨rfl, rfl⟩)
    | (go_at_call 28; refine hcopy.mono ?_; rintro e w1 ⟨b1, v1, rfl, c1, hf1, k1⟩))
  go_cut [1] from 20 to 22 (fun t1 wx => wx = w1 ∧ t1 = .int .i64 mm)
  case first =>
    go_wp2_with fail
    all_goals (go_meet; exact ⟨rfl, by rw [← hmm]; congr 1; omega⟩)
  case rest =>
  obtain ⟨hw, rfl⟩ := hcut
  have hw := hw.symm
  subst hw
  have H0 : Hid (Com1 w w1 b1 v1 m n x M 0 0 w.heap.size l l [] (.slice none 0 0)) :=
    { clk := c1, row := World.ownsRow_nil _ _ _ _, own := by simp [Value.ownBlock], kept := k1.mono (fun _ _ h => h.elim), spec := by simp, time := Nat.zero_le _, more := Nat.zero_le _, less := Nat.zero_le _ }
  obtain ⟨ao1, cc1, hv1, _⟩ := row_any c1.2.1
  subst hv1
  have HF0 := Lib.hid hf1
  have HK1 := Lib.hid k1
  clear c1 k1 hf1 hs hcopy hmm
  obtain ⟨N, hN⟩ : ∃ N, l.length = N := ⟨_, rfl⟩
  have HN := Lib.hid hN
  rw [hN] at H0 hlen HF0
  clear hN
  go_wp2_with fail
  go_loopg [6, 7] M (fun gh r t wx => ∃ (L : List (Bool × Nat × Nat)) (O : List (Nat × Nat)) (T j : Nat) (ao : Option Addr) (c : Nat), gh = M - O.length ∧ r = .slice ao O.length c ∧ t = .int .u64 T ∧ L.length = N ∧ Hid (Com1 w wx b1 (.slice ao1 N cc1) m n x M T j w.heap.size l L O (.slice ao O.length c)))
  case atStart => exact ⟨l, [], 0, 0, none, 0, rfl, rfl, rfl, HN.out, H0⟩
  case round =>
    clear H0
    obtain ⟨L, O, T, j, ar, cr, rfl, rfl, rfl, hL, hC⟩ := hrel
    subst hL
    by_cases hOM : O.length < M
    · have d0 : decide ((O.length : Int) < mm) = true := by simp; omega
      have hso := soonest_ok hC.out.clk
      cases hsp : Com.soon L with
      | none =>
        have hs0 : sp L = (0, false) := by unfold sp; rw [hsp]
        rw [hs0] at hso
        have hmore := hC.out.more
        have e : Com.comingL M l 0 = O := by rw [hC.out.spec, show M - j = (M - j - 1) + 1 by omega, Com.comingL, hsp, List.append_nil]
        have E := Lib.hid e
        clear e hs0
        go_upto_region 24 with (go_at_call 44; refine hso.mono ?_; rintro e w2 ⟨rfl, k2⟩)
        have hC2 := hC.out.same k2
        have hcr : O.length ≤ cr := by
          rcases row_forms hC2.row with ⟨h, _⟩ | ⟨g, c, h, h2, _⟩
          · simp at h; omega
          · simp at h; omega
        have hm0 : ¬ mm < 0 := by omega
        have hD : D = O := by rw [← HD0.out, E.out, List.take_of_length_le (by omega)]
        have hcl : ∀ K, K = O.length → Calls Try.prog 45 #[.slice ar K cr] w2 fun e w' => ∃ ao' c', e = .returned (.slice ao' O.length c') ∧ Row w' 53 2 (.slice ao' O.length c') O.length (O.flatMap encX) ∧ Kept (fun _ => False) w2 w' ∧ (∀ g, (Value.slice ao' O.length c').ownBlock = some g → w2.heap.size ≤ g) := by
          rintro K rfl
          have h := clone_any hC2.row (Nat.le_refl _) (by omega)
          rw [List.take_length] at h
          exact h
        have HKK := Lib.hid hC2.kept
        have HD := Lib.hid hD
        clear hD E hC2 hC hsp
        go_wp2_with (go_at_call 45; refine (hcl _ (by omega)).mono ?_; rintro e w3 ⟨ao3, c3, rfl, r3, k3, o3⟩)
        all_goals
          go_ret
          rw [HD.out]
          exact ⟨ao3, c3, rfl, r3, (HKK.out.then k3 (fun i hi => False.elim hi)).mono (fun i hi h => by omega), fun g hg => Nat.le_trans HKK.out.size (o3 g hg)⟩
      | some q =>
        have hs0 : sp L = (q, true) := by unfold sp; rw [hsp]
        rw [hs0] at hso
        go_upto_region 11 with (go_at_call 44; refine hso.mono ?_; rintro e w2 ⟨rfl, k2⟩)
        have hC2 := hC.out.same k2
        have hti := hC2.time
        have hmore := hC2.more
        have hqs := (Com.soon_spec L).2 q hsp
        have hfn := hC2.clk.2.2.2
        have hq2 : q ≤ 4294967296 := by
          obtain ⟨⟨a, ha, _, e2⟩, _⟩ := hqs
          have := hfn.hleft a ha
          omega
        have hj2 : j * 4294967296 ≤ 65536 * 4294967296 := Nat.mul_le_mul_right _ (by omega)
        have hw : IntKind.u64.wrap ((T : Int) + (q : Int)) = ((T + q : Nat) : Int) := by rw [IntWalk.u64_in _ (by omega)]; omega
        have hPb : T + q ≤ 1000000000000000 := by omega
        obtain ⟨P, hP⟩ : ∃ P, T + q = P := ⟨_, rfl⟩
        rw [hP] at hw hPb
        have HP := Lib.hid hP
        have hB0 : Hid (Bat w w2 b1 (.slice ao1 L.length cc1) m n x q P L O 0 (.slice ar O.length cr) w.heap.size) := hC2.bat
        have c4 := hC2.clk.1.cell 4 rfl
        have HC2 := Lib.hid hC2
        have HQ := Lib.hid hqs
        have HFN := Lib.hid hfn
        have HSP := Lib.hid hsp
        clear hC hC2 hqs hfn hP hso hs0 hti hj2 hsp
        go_wp2_with fail
        go_loopg [6, 41] L.length (fun gh r i wx => ∃ (k : Nat) (ao : Option Addr) (c : Nat), gh = L.length - k ∧ k ≤ L.length ∧ i = .int .i64 k ∧ r = .slice ao (O ++ Com.outs q P (L.take k) 0).length c ∧ Hid (Bat w wx b1 (.slice ao1 L.length cc1) m n x q P L O k (.slice ao (O ++ Com.outs q P (L.take k) 0).length c) w.heap.size))
        case atStart => exact ⟨0, ar, cr, rfl, Nat.zero_le _, rfl, by simp [Com.outs], by simpa [Com.outs] using hB0⟩
        case round =>
          clear hB0 c4 hw
          obtain ⟨k, ar', cr', rfl, hk, rfl, rfl, hT⟩ := hrel
          by_cases hkl : k < L.length
          · obtain ⟨a, ha⟩ : ∃ a, L[k]? = some a := ⟨_, List.getElem?_eq_getElem hkl⟩
            obtain ⟨s, lf, cy⟩ := a
            have hk0 : (0 : Int) ≤ (k : Int) := Int.natCast_nonneg _
            have hk1 : (k : Int) < (L.length : Int) := by omega
            obtain ⟨g, c2, hv', hgb, hgl, e0, e1, e2, z0, z1, z2⟩ := hT.out.clk.alarm (midn_at ha)
            rw [midn_length] at hv'
            simp only [Value.slice.injEq] at hv'
            obtain ⟨rfl, _, rfl⟩ := hv'
            have c4 := hT.out.clk.1.cell 4 rfl
            have hg0 : w.heap.size ≤ g := HF0.out g (Or.inr rfl)
            cases s with
            | false =>
              have hos : Com.outs q P (L.take (k + 1)) 0 = Com.outs q P (L.take k) 0 := by rw [outs_succ ha]; simp
              go_wp2
              go_roundg (L.length - (k + 1))
              case measure => omega
              case rel => exact ⟨k + 1, ar', cr', rfl, by omega, by go_num, by rw [hos], by rw [hos]; exact hT.out.skip ha (by simp [Com.adv]) rfl⟩
            | true =>
              have hql := HQ.out.2 _ (List.mem_of_getElem? ha) rfl
              have hlf2 := HFN.out.hleft _ (List.mem_of_getElem? ha)
              have hcm := HFN.out.hcycle _ (List.mem_of_getElem? ha)
              have hmo := HFN.out.hmost
              simp only at hql hlf2 hcm
              by_cases h2 : q < lf
              · have hw : IntKind.u64.wrap ((lf : Int) - (q : Int)) = ((lf - q : Nat) : Int) := by rw [IntWalk.u64_in _ (by omega)]; omega
                have hpos : (0 : Int) < ((lf - q : Nat) : Int) := by omega
                have hwp : decide ((0 : Int) < ((lf - q : Nat) : Int)) = true := by simp; omega
                have hos : Com.outs q P (L.take (k + 1)) 0 = Com.outs q P (L.take k) 0 := by rw [outs_succ ha]; simp; omega
                have hN2 := hT.out.dec ha h2 hg0
                have HN2 := Lib.hid hN2
                clear hN2
                go_wp2
                go_roundg (L.length - (k + 1))
                case measure => omega
                case rel => exact ⟨k + 1, ar', cr', rfl, by omega, by go_num, by rw [hos], by rw [hos]; exact HN2.out⟩
              · have hlq : lf = q := by omega
                subst hlq
                have hfo : ∀ i, foot b1 (.slice (some ⟨g, 0, none⟩) L.length cc1) i → i < wr.heap.size := by
                  rintro i (h | h)
                  · rw [h]; exact hT.out.clk.1.lt
                  · exact row_lt hT.out.clk.2.1 h
                have hC1 : IsC (wr.setCell ⟨g, k * 3 + 1, none⟩ (.int .u64 0)) b1 (.slice (some ⟨g, 0, none⟩) (midn lf L k).length cc1) m n x ((midn lf L k).set k (true, 0, cy)) := by
                  have hc := hT.out.clk
                  rw [← midn_length lf L k] at hc
                  exact hc.put (i := 1) (true, 0, cy) (midn_at ha) (by decide) rfl
                rw [midn_length] at hC1
                have hol := Com.outs_length lf P (L.take k) 0
                rw [List.length_take] at hol
                obtain ⟨X, hX⟩ : ∃ X, O ++ Com.outs lf P (L.take k) 0 = X := ⟨_, rfl⟩
                have hXl : X.length ≤ 70000 := by rw [← hX, List.length_append]; omega
                clear hol
                have hrow := row_setCell_other hT.out.row (a := ⟨g, k * 3 + 1, none⟩) (fun e => (hT.out.own _ e).2 (Or.inr rfl)) (.int .u64 0)
                have hown0 := hT.out.own
                have hkp := hT.out.kept
                rw [hX] at hrow hown0 ⊢
                have HX := Lib.hid hX
                clear hX
                have HRow := Lib.hid hrow
                clear hrow hT
                go_wp2_with ((at_builtin; refine wpList_append_any rfl (.tmp 68) (.tmp 72) 50 rfl 53 iX (.agg #[.int .u64 0, .int .i64 0]) 2 16 Try.underlying50 hiX hx0 hx1 hx2 rfl (by decide) _ _ _ (X.flatMap encX) rfl ?hrow _ 1 1 (encX (P, k)) rfl ?hnew ?hone ?b1 ?b2 ?_))
                case hrow => exact row_alloc HRow.out _
                case hnew => exact shows_new _ _ _ (by simp) (by rfl)
                case hone => intro u hu; simp only [encX, List.mem_cons, List.not_mem_nil, or_false] at hu; rcases hu with rfl | rfl <;> rfl
                case b1 => unfold maxLen; omega
                case b2 => omega
                intro ao3 c3 wc r1 r2 r3
                have hC3 : IsC wc b1 (.slice (some ⟨g, 0, none⟩) L.length cc1) m n x ((midn lf L k).set k (true, 0, cy)) :=
                  (hC1.kept ((Kept.refl (fun _ => False) _).alloc _) (fun _ _ h => h)).kept (S := fun i => (Value.slice ar' X.length cr').ownBlock = some i) ((Kept.refl _ _).grown r2 (fun k hk => Or.inl hk)) (fun i hi e => (hown0 i e).2 hi)
                have hcell : ((midn lf L k).set k (true, 0, cy))[k]? = some (true, 0, cy) := by rw [List.getElem?_set_self (by rw [midn_length]; exact hkl)]
                obtain ⟨g', c5, hv2, hgb2, hgl2, y0, y1, y2, x0, x1, x2⟩ := hC3.alarm hcell
                rw [List.length_set, midn_length] at hv2
                simp only [Value.slice.injEq, Option.some.injEq, Addr.mk.injEq, and_true, true_and] at hv2
                obtain ⟨rfl, rfl⟩ := hv2
                have kc : Kept (fun i => w.heap.size ≤ i) w wc := ((hkp.setCell (p := ⟨g, k * 3 + 1, none⟩) (Or.inl hg0) _).alloc _).grown r2 (fun i e => Or.inl (hown0 i e).1)
                have ho3 : ∀ i, (Value.slice ao3 (X.length + 1) c3).ownBlock = some i → w.heap.size ≤ i ∧ ¬ foot b1 (.slice (some ⟨g, 0, none⟩) L.length cc1) i := fun i e => (r3 i e).elim (fun h => hown0 i h) (fun h => by
                  have h1 := hkp.size
                  refine ⟨by omega, fun h2 => ?_⟩
                  have := hfo i h2
                  omega)
                have hg3 : (Value.slice ao3 (X.length + 1) c3).ownBlock ≠ some g := fun e => (ho3 _ e).2 (Or.inr rfl)
                have hos : O ++ Com.outs lf P (L.take (k + 1)) 0 = X ++ [(P, k)] := by rw [outs_succ ha, ← List.append_assoc, HX.out]; simp
                have hosl : (O ++ Com.outs lf P (L.take (k + 1)) 0).length = X.length + 1 := by rw [hos]; simp
                clear hC1 hfo r2 r3 hown0 hkp e0 e1 e2 z0 z1 z2
                have c4 := hC3.1.cell 4 rfl
                have HR1 := Lib.hid r1
                have HO3 := Lib.hid ho3
                have HG3 := Lib.hid hg3
                have HKC := Lib.hid kc
                have HC3 := Lib.hid hC3
                have HOS := Lib.hid hosl
                clear r1 ho3 hg3 kc hC3 hosl hos hw
                by_cases hcy : cy = 0
                · subst hcy
                  have hadv : Com.adv lf (true, lf, 0) = (false, 0, 0) := by simp [Com.adv]
                  have q0 := HC3.out.again (i := 1) (true, 0, 0) (u := .int .u64 0) (midn_length lf L k) hkl (by decide) rfl
                  have q1 := q0.again (i := 0) (false, 0, 0) (u := .bool false) (midn_length lf L k) hkl (by decide) rfl
                  have q2 := q1.again (i := 1) (false, 0, 0) (u := .int .u64 0) (midn_length lf L k) hkl (by decide) rfl
                  have q3 := q2.again (i := 2) (false, 0, 0) (u := .int .u32 0) (midn_length lf L k) hkl (by decide) rfl
                  have hF := Bat.fire (w1 := w) (n0 := w.heap.size) (O := O) (P := P) (q := lf) (a := (true, lf, 0)) ha (by simp) (by rw [hadv]; exact q3) (by rw [HX.out]; exact row_setCell_other (row_setCell_other (row_setCell_other (row_setCell_other HR1.out HG3.out _) HG3.out _) HG3.out _) HG3.out _) (by rw [HX.out]; exact HO3.out)
                    ((((HKC.out.setCell (p := ⟨g, k * 3 + 1, none⟩) (Or.inl hg0) _).setCell (p := ⟨g, k * 3 + 0, none⟩) (Or.inl hg0) _).setCell (p := ⟨g, k * 3 + 1, none⟩) (Or.inl hg0) _).setCell (p := ⟨g, k * 3 + 2, none⟩) (Or.inl hg0) _)
                  rw [HX.out] at hF
                  have HF := Lib.hid hF.2
                  clear q0 q1 q2 q3 hF
                  go_wp2
                  go_roundg (L.length - (k + 1))
                  case measure => omega
                  case rel => exact ⟨k + 1, ao3, c3, rfl, by omega, by go_num, by rw [HOS.out], by rw [HOS.out]; exact HF.out⟩
                · have hcy2 : ¬ ((cy : Int) = 0) := by omega
                  have hwc : IntKind.u64.wrap (cy : Int) = (cy : Int) := IntWalk.u64_in _ (by omega)
                  have hadv : Com.adv lf (true, lf, cy) = (true, cy, cy) := by simp [Com.adv, hcy]
                  have q0 := HC3.out.again (i := 1) (true, cy, cy) (u := .int .u64 cy) (midn_length lf L k) hkl (by decide) rfl
                  have hF := Bat.fire (w1 := w) (n0 := w.heap.size) (O := O) (P := P) (q := lf) (a := (true, lf, cy)) ha (by simp) (by rw [hadv]; exact q0) (by rw [HX.out]; exact row_setCell_other HR1.out HG3.out _) (by rw [HX.out]; exact HO3.out) (HKC.out.setCell (p := ⟨g, k * 3 + 1, none⟩) (Or.inl hg0) _)
                  rw [HX.out] at hF
                  have HF := Lib.hid hF.2
                  clear q0 hF
                  go_wp2
                  go_roundg (L.length - (k + 1))
                  case measure => omega
                  case rel => exact ⟨k + 1, ao3, c3, rfl, by omega, by go_num, by rw [HOS.out], by rw [HOS.out]; exact HF.out⟩
          · obtain rfl : k = L.length := by omega
            have hN2 := HC2.out.done hOM HSP.out (by rw [HP.out]; exact hT.out) HFN.out
            rw [HP.out] at hN2
            have hpos := Com.outs_pos q P L 0 ((Com.soon_spec L).2 q HSP.out)
            have hml : (L.map (Com.adv q)).length = L.length := by simp
            have HN2 := Lib.hid hN2
            have hlO : (O ++ Com.outs q P L 0).length = O.length + (Com.outs q P L 0).length := by simp
            rw [List.take_length] at HN2 ⊢
            go_wp2
            go_roundg (M - (O ++ Com.outs q P L 0).length)
            case measure => omega
            case rel => exact ⟨L.map (Com.adv q), O ++ Com.outs q P L 0, P, j + 1, ar', cr', rfl, rfl, rfl, hml, HN2.out⟩
    · have d0 : decide ((O.length : Int) < mm) = false := by simp; omega
      have hcr : O.length ≤ cr := by
        rcases row_forms hC.out.row with ⟨h, _⟩ | ⟨g, c, h, h2, _⟩
        · simp at h; omega
        · simp at h; omega
      have hless := hC.out.less
      have hD : D = O.take M := by rw [← HD0.out, hC.out.spec, List.take_append_of_le_length (by omega)]
      have hcl : ∀ K, K = M → Calls Try.prog 45 #[.slice ar K cr] wr fun e w' => ∃ ao' c', e = .returned (.slice ao' M c') ∧ Row w' 53 2 (.slice ao' M c') M ((O.take M).flatMap encX) ∧ Kept (fun _ => False) wr w' ∧ (∀ g, (Value.slice ao' M c').ownBlock = some g → wr.heap.size ≤ g) := by
        rintro K rfl
        exact clone_any hC.out.row (by omega) (by omega)
      have hDl : D.length = M := by rw [hD, List.length_take]; omega
      have HKK := Lib.hid hC.out.kept
      have HD := Lib.hid hD
      have HDL := Lib.hid hDl
      clear hD hC hDl
      go_wp2_with (go_at_call 45; refine (hcl _ (by omega)).mono ?_; rintro e w3 ⟨ao3, c3, rfl, r3, k3, o3⟩)
      all_goals
        go_ret
        rw [HDL.out, HD.out]
        exact ⟨ao3, c3, rfl, r3, (HKK.out.then k3 (fun i hi => False.elim hi)).mono (fun i hi h => by omega), fun g hg => Nat.le_trans HKK.out.size (o3 g hg)⟩
end
end Go.Proofs.Ytialldmepphloaa.CK
