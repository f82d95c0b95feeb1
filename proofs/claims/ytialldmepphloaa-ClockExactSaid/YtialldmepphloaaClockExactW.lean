/- P16.9, the walk: an alarm expires at just the d-th tick, and then at every c-th. -/
import Derived.Test.YtialldmepphloaaClockNobodyW
import Derived.Test.YtialldmepphloaaClockSumsW
import Derived.Deep.CutBlock
namespace Go.Proofs.Ytialldmepphloaa.clockExactW
open Go.RowKit Go.Fr Go.Proofs.Ytialldmepphloaa.CK Go.Proofs.Ytialldmepphloaa.clockSumsW Go.Proofs.Ytialldmepphloaa.clockNobodyW

theorem u16_nat {a : Int} (h : (Lit.int .u16 a).wf = true) : ∃ n : Nat, a = n ∧ n ≤ 65535 := by
  have hx : 0 ≤ a ∧ a ≤ 65535 := by simpa [Lit.wf, IntKind.min, IntKind.max, IntKind.signed, IntKind.bits] using h
  exact ⟨a.toNat, by omega, by omega⟩

theorem after_one {g n : Nat} : after g (n % (g + 1)) 1 = (n + 1) % (g + 1) := by
  have h := Nat.mod_lt n (show 0 < g + 1 by omega)
  unfold after
  rw [Nat.min_eq_left (by omega), Nat.add_mod_mod, Nat.mod_add_mod]
theorem tick_a0 : a0.map tick1 = a0 := by decide
theorem fired_a0 : fired a0 0 = [] := by decide

/-- what the setting has done -/
def Out (mx cy : Nat) (fb : Bool) (st : Int) (dd : Nat) (L : List (Bool × Nat × Nat)) : Prop :=
  (fb = true → st = 0 ∧ 1 ≤ dd ∧ dd ≤ 4294967296 ∧ cy ≤ mx ∧ L = [(false, 0, 0), (true, dd, cy), (false, 0, 0)]) ∧ (fb = false → st = 8 ∧ L = a0)
theorem put_a0 (F : Bool) (lf cy : Nat) : putL a0 1 F lf cy = if F then ([(false, 0, 0), (true, lf, cy), (false, 0, 0)], 0) else (a0, 8) := by
  cases F <;> rfl
theorem out_yes {mx cy dd : Nat} (h1 : 1 ≤ dd) (h2 : dd ≤ 4294967296) (h3 : cy ≤ mx) : Out mx cy true 0 dd [(false, 0, 0), (true, dd, cy), (false, 0, 0)] := ⟨fun _ => ⟨rfl, h1, h2, h3, rfl⟩, fun h => by cases h⟩
theorem out_no {mx cy dd : Nat} : Out mx cy false 8 dd a0 := ⟨(fun h => by cases h), fun _ => ⟨rfl, rfl⟩⟩
theorem until_form {g n v q r : Nat} (hn : n ≤ g) (hv : v ≤ g) (hq : v + 2 * (g + 1) - n - 1 = q) (hr : q % (g + 1) = r) : until' g n v = r + 1 := by
  unfold until'
  rw [Nat.min_eq_left hn, Nat.min_eq_left hv]
  subst hq hr
  split
  · rename_i h
    rw [show v + 2 * (g + 1) - n - 1 = (v - n - 1) + (g + 1) * 2 by omega, Nat.add_mul_mod_self_left, Nat.mod_eq_of_lt (by omega)]; omega
  · rename_i h
    rw [show v + 2 * (g + 1) - n - 1 = (g + v - n) + (g + 1) * 1 by omega, Nat.add_mul_mod_self_left, Nat.mod_eq_of_lt (by omega)]; omega

/-- the law of the k-th other act: is it done? -/
def actB (l : List (Int × Int × Int × Int)) (j : Nat) : Bool := match l[j]? with | some x => (x.2.1 != 1) | none => false
theorem act_at {l : List (Int × Int × Int × Int)} {j : Nat} {kd al t cy : Int} (h : l[j]? = some (kd, al, t, cy)) : actB l j = (al != 1) := by unfold actB; rw [h]
theorem act_no {l : List (Int × Int × Int × Int)} {j : Nat} (h : l.length ≤ j) : actB l j = false := by unfold actB; rw [List.getElem?_eq_none h]

def hasB (F : List Int) (q : Nat) : Bool := (F.take q).contains 1
theorem hasB_zero (F : List Int) : hasB F 0 = false := by simp [hasB]
theorem hasB_succ {F : List Int} {q : Nat} {z : Int} (h : F[q]? = some z) : hasB F (q + 1) = (hasB F q || (z == 1)) := by
  unfold hasB
  rw [List.take_add_one, h]
  simp only [Option.toList_some, List.contains_append, List.contains_cons, List.contains_nil, Bool.or_false]
  congr 1
  rw [Bool.eq_iff_iff]; simp; exact eq_comm
theorem hasB_all (L : List (Bool × Nat × Nat)) {a : Bool × Nat × Nat} (h : L[1]? = some a) : hasB (fired L 0) (fired L 0).length = fires a := by
  unfold hasB
  rw [List.take_length]
  have := fired_has L 0 1 a h
  rw [Bool.eq_iff_iff]
  simpa using this
/-- what is known of the alarms that fire -/
structure Fd (F : List Int) : Prop where
  len : F.length ≤ 3
  low : ∀ (q : Nat) (z : Int), F[q]? = some z → 0 ≤ z ∧ z ≤ 2
  up : ∀ (q : Nat) (y z : Int), F[q]? = some y → F[q + 1]? = some z → y < z
theorem fd_fired (L : List (Bool × Nat × Nat)) (h : L.length = 3) : Fd (fired L 0) := by
  refine ⟨by have := fired_length L 0; omega, fun q z hz => ?_, fun q y z hy hz => ?_⟩
  · have := fired_mem L 0 z (List.mem_of_getElem? hz); omega
  · have hs := fired_sorted L 0
    rw [List.pairwise_iff_getElem] at hs
    obtain ⟨h1, e1⟩ := List.getElem?_eq_some_iff.1 hy
    obtain ⟨h2, e2⟩ := List.getElem?_eq_some_iff.1 hz
    have := hs q (q + 1) h1 h2 (by omega)
    rw [e1, e2] at this; exact this

theorem row1 {w : World} {e : TypeId} {v : Value} {n : Nat} {xs : List Value} (h : Row w e 1 v n xs) (hn : 0 < n) : ∃ g c, v = .slice (some ⟨g, 0, none⟩) n c := by
  obtain ⟨m, rfl⟩ : ∃ m, n = m + 1 := ⟨n - 1, by omega⟩
  obtain ⟨g, c, hv, _⟩ := row_form h
  exact ⟨g, c, hv⟩

/-- the clock under way -/
structure Run (w1 wr : World) (b : Nat) (v : Value) (m n x : Nat) (l : List (Bool × Nat × Nat)) : Prop where
  clk : IsClk wr b v m n x l
  kept : Kept (foot b v) w1 wr

set_option maxRecDepth 100000 in
set_option maxHeartbeats 4000000 in
/-- a counter that may not be -/
theorem bad (w : World) (nm0 : ByteArray) (mx bs mn : Nat) (a1 : Int) (a2 : Bool) (a3 a4 : Int) (v5 : Value) (a6 : Int) (hbad : mx < 1 ∨ 2147483647 < mx ∨ mn < 1 ∨ mx < mn) :
    Calls Try.prog 6 #[.agg #[.string nm0, .int .u32 mx, .int .u32 bs, .int .u32 mn], .int .u16 a1, .bool a2, .int .u32 a3, .int .u32 a4, v5, .int .u16 a6] w fun e w' => e = .returned (.bool true) ∧ Below w.heap.size w w' := by
  have kx := (Kept.refl (fun _ => False) w).alloc (.cells #[.string nm0, .int .u32 mx, .int .u32 bs, .int .u32 mn] 33)
  have bx := Blk.new w [.string nm0, .int .u32 mx, .int .u32 bs, .int .u32 mn] 33
  have KX := Lib.hid kx
  have BX := Lib.hid bx
  have hno := fun W => new_no nm0 mx bs mn 3 W (by omega)
  clear kx bx
  by_cases t0 : mx < 1
  · have d0 : decide ((mx : Int) < 1) = true := by rw [decide_eq_true_eq]; omega
    go_enter Try.func6, Try.ntmps6
    go_wp2_with fail
    refine (hno _).mono ?_
    rintro e w1 ⟨rfl, k1⟩
    have c1 := (BX.out.kept k1 (fun h => h)).cell 1 rfl
    have c3 := (BX.out.kept k1 (fun h => h)).cell 3 rfl
    go_wp2_with (first
      | (go_at_call 11; refine (num_ok _ _).mono ?_; rintro e w' ⟨rfl, rfl⟩)
      | (go_at_call 18; refine (alive_law _).mono ?_; rintro e w9 ⟨rfl, k9⟩))
    go_ret
    exact ⟨rfl, ((KX.out.then k1 (fun _ h => Or.inl h)).then k9 (fun _ h => Or.inl h)).below (Nat.le_refl _) (fun _ h => False.elim h)⟩
  · have d0 : decide ((mx : Int) < 1) = false := by rw [decide_eq_false_iff_not]; omega
    by_cases t1 : 2147483647 < mx
    · have d1 : decide ((2147483647 : Int) < (mx : Int)) = true := by rw [decide_eq_true_eq]; omega
      go_enter Try.func6, Try.ntmps6
      go_wp2_with fail
      refine (hno _).mono ?_
      rintro e w1 ⟨rfl, k1⟩
      have c1 := (BX.out.kept k1 (fun h => h)).cell 1 rfl
      have c3 := (BX.out.kept k1 (fun h => h)).cell 3 rfl
      go_wp2_with (first
        | (go_at_call 11; refine (num_ok _ _).mono ?_; rintro e w' ⟨rfl, rfl⟩)
        | (go_at_call 18; refine (alive_law _).mono ?_; rintro e w9 ⟨rfl, k9⟩))
      go_ret
      exact ⟨rfl, ((KX.out.then k1 (fun _ h => Or.inl h)).then k9 (fun _ h => Or.inl h)).below (Nat.le_refl _) (fun _ h => False.elim h)⟩
    · have d1 : decide ((2147483647 : Int) < (mx : Int)) = false := by rw [decide_eq_false_iff_not]; omega
      by_cases t2 : mn < 1
      · have d2 : decide ((mn : Int) < 1) = true := by rw [decide_eq_true_eq]; omega
        go_enter Try.func6, Try.ntmps6
        go_wp2_with fail
        refine (hno _).mono ?_
        rintro e w1 ⟨rfl, k1⟩
        have c1 := (BX.out.kept k1 (fun h => h)).cell 1 rfl
        have c3 := (BX.out.kept k1 (fun h => h)).cell 3 rfl
        go_wp2_with (first
          | (go_at_call 11; refine (num_ok _ _).mono ?_; rintro e w' ⟨rfl, rfl⟩)
          | (go_at_call 18; refine (alive_law _).mono ?_; rintro e w9 ⟨rfl, k9⟩))
        go_ret
        exact ⟨rfl, ((KX.out.then k1 (fun _ h => Or.inl h)).then k9 (fun _ h => Or.inl h)).below (Nat.le_refl _) (fun _ h => False.elim h)⟩
      · have d2 : decide ((mn : Int) < 1) = false := by rw [decide_eq_false_iff_not]; omega
        by_cases t3 : mx < mn
        · have d3 : decide ((mx : Int) < (mn : Int)) = true := by rw [decide_eq_true_eq]; omega
          go_enter Try.func6, Try.ntmps6
          go_wp2_with fail
          refine (hno _).mono ?_
          rintro e w1 ⟨rfl, k1⟩
          have c1 := (BX.out.kept k1 (fun h => h)).cell 1 rfl
          have c3 := (BX.out.kept k1 (fun h => h)).cell 3 rfl
          go_wp2_with (first
            | (go_at_call 11; refine (num_ok _ _).mono ?_; rintro e w' ⟨rfl, rfl⟩)
            | (go_at_call 18; refine (alive_law _).mono ?_; rintro e w9 ⟨rfl, k9⟩))
          go_ret
          exact ⟨rfl, ((KX.out.then k1 (fun _ h => Or.inl h)).then k9 (fun _ h => Or.inl h)).below (Nat.le_refl _) (fun _ h => False.elim h)⟩
        · have d3 : decide ((mx : Int) < (mn : Int)) = false := by rw [decide_eq_false_iff_not]; omega
          exact absurd hbad (by omega)

set_option maxRecDepth 100000 in
set_option maxHeartbeats 40000000 in
theorem walk (w : World) (nm0 : ByteArray) (mx0 : Int) (wmx0 : (Lit.int .u32 mx0).wf = true) (bs0 : Int) (wbs0 : (Lit.int .u32 bs0).wf = true) (mn0 : Int) (wmn0 : (Lit.int .u32 mn0).wf = true)
    (a1 : Int) (w1 : (Lit.int .u16 a1).wf = true) (a2 : Bool) (a3 : Int) (w3 : (Lit.int .u32 a3).wf = true) (a4 : Int) (w4 : (Lit.int .u32 a4).wf = true)
    (a5 : Option Addr) (cap5 : Nat) (l5 : List (Int × Int × Int × Int)) (hl5 : l5.length ≤ cap5) (hm5 : cap5 ≤ maxLen) (hc5 : CameL w 4 (encKKKK .i64 .i64 .u32 .u32) a5 l5)
    (hw5 : ∀ x ∈ l5, (Lit.int .i64 x.1).wf = true ∧ (Lit.int .i64 x.2.1).wf = true ∧ (Lit.int .u32 x.2.2.1).wf = true ∧ (Lit.int .u32 x.2.2.2).wf = true) (a6 : Int) (w6 : (Lit.int .u16 a6).wf = true) :
    Calls Try.prog 6 #[.agg #[.string nm0, .int .u32 mx0, .int .u32 bs0, .int .u32 mn0], .int .u16 a1, .bool a2, .int .u32 a3, .int .u32 a4, .slice a5 l5.length cap5, .int .u16 a6] w fun e w' => e = .returned (.bool true) ∧ Below w.heap.size w w' := by
  obtain ⟨mx, rfl, hmx⟩ := u32_nat wmx0
  obtain ⟨bs, rfl, hbs⟩ := u32_nat wbs0
  obtain ⟨mn, rfl, hmn⟩ := u32_nat wmn0
  obtain ⟨A, rfl, hA⟩ := u16_nat w1
  obtain ⟨V, rfl, hV⟩ := u32_nat w3
  obtain ⟨cy, rfl, hcy⟩ := u32_nat w4
  obtain ⟨T, rfl, hT⟩ := u16_nat w6
  unfold maxLen at hm5
  clear wmx0 wbs0 wmn0 w1 w3 w4 w6
  have HC := Lib.hid hc5
  have HW := Lib.hid hw5
  clear hc5 hw5
  have kx := (Kept.refl (fun _ => False) w).alloc (.cells #[.string nm0, .int .u32 mx, .int .u32 bs, .int .u32 mn] 33)
  have bx := Blk.new w [.string nm0, .int .u32 mx, .int .u32 bs, .int .u32 mn] 33
  have KX := Lib.hid kx
  have BX := Lib.hid bx
  clear kx bx
  by_cases hbad : mx < 1 ∨ 2147483647 < mx ∨ mn < 1 ∨ mx < mn
  · exact bad w nm0 mx bs mn _ _ _ _ _ _ hbad
  · have h1 : 1 ≤ mx ∧ mx ≤ 2147483647 := by omega
    have h2 : 1 ≤ mn ∧ mn ≤ mx := by omega
    clear hbad
    go_enter Try.func6, Try.ntmps6
    go_wp2_with fail
    refine (new_ok nm0 mx bs mn 3 _ h1 h2 hbs (by omega)).mono ?_
    rintro e w1 ⟨b, v, rfl, c1, hf1, k1⟩
    have hxb : ¬ foot b v w.heap.size := fun h => by have := hf1 _ h; rw [World.size_alloc] at this; omega
    have x1 := (BX.out.kept k1 (fun h => h)).cell 1 rfl
    have x3 := (BX.out.kept k1 (fun h => h)).cell 3 rfl
    have C1 : Hid (Run w1 w1 b v mx mn (0 % (mx + 1)) a0) := ⟨by rw [Nat.zero_mod]; exact c1, Kept.refl _ _⟩
    have HX := Lib.hid hxb
    have X1 := Lib.hid x1
    have X3 := Lib.hid x3
    have K1 := Lib.hid ((KX.out.then k1 (fun _ h => Or.inl h)))
    have HF := Lib.hid (show ∀ i, foot b v i → w.heap.size ≤ i from fun i h => by have := hf1 i h; rw [World.size_alloc] at this; omega)
    have hlt1 : w.heap.size < w1.heap.size := by have := k1.size; rw [World.size_alloc] at this; omega
    clear c1 k1 hf1 hxb x1 x3
    go_wp2_with ((go_at_call 11; refine (num_ok _ _).mono ?_; rintro e w' ⟨rfl, rfl⟩))
    go_loopw [17] (fun i wr => ∃ k : Nat, k ≤ A ∧ i = .int .i64 k ∧ Hid (Run w1 wr b v mx mn (k % (mx + 1)) a0)) (fun i _ => A - (intOf i).toNat)
    case atStart => exact ⟨0, Nat.zero_le _, rfl, C1⟩
    case round =>
      clear C1
      obtain ⟨k, hk, rfl, hR⟩ := hrel
      by_cases hlt : k < A
      · have htk := tick_ok hR.out.clk
        rw [fired_a0, tick_a0, after_one] at htk
        go_wp2_with fail
        refine htk.mono ?_
        rintro e w2 ⟨ao, c, rfl, c2, k2, _, _⟩
        have R2 : Hid (Run w1 w2 b v mx mn ((k + 1) % (mx + 1)) a0) := ⟨c2, hR.out.kept.then k2 (fun _ h => Or.inl h)⟩
        clear c2 k2 htk
        go_wp2
        go_roundw
        case rel => exact ⟨k + 1, by omega, by go_num, R2⟩
        case measure => simp [intOf]; omega
      · obtain rfl : k = A := by omega
        have x1 : wr.cell? ⟨w.heap.size, 1, none⟩ = some (.int .u32 mx) := (hR.out.kept.cell (p := ⟨w.heap.size, 1, none⟩) hlt1 HX.out).trans X1.out
        have x3 : wr.cell? ⟨w.heap.size, 3, none⟩ = some (.int .u32 mn) := (hR.out.kept.cell (p := ⟨w.heap.size, 3, none⟩) hlt1 HX.out).trans X3.out
        obtain ⟨now, hnow⟩ : ∃ now, k % (mx + 1) = now := ⟨_, rfl⟩
        have hnm : now ≤ mx := by have := Nat.mod_lt k (show 0 < mx + 1 by omega); omega
        have en : (k : Int) % ((mx : Int) + 1) = (now : Int) := by rw [← hnow]; push_cast; rfl
        rw [hnow] at hR
        clear hnow
        go_upto_region 14 with ((go_at_call 21; refine (value_ok hR.out.clk).mono ?_; rintro e w' ⟨rfl, rfl⟩))
        have e0 : (((cy : Int)) == 0) = decide (cy = 0) := by rw [Bool.eq_iff_iff]; simp
        go_cut [21] (fun f wx => wx = wr ∧ f = .bool (cycB mn mx cy))
        case first =>
          by_cases c0 : cy = 0
          · have d0 : (((cy : Int)) == 0) = true := by simp; omega
            have hf : cycB mn mx cy = true := by simp [cycB, c0]
            clear e0
            go_wp2_with fail
            go_meet
            exact ⟨rfl, by rw [hf]⟩
          · have d0 : (((cy : Int)) == 0) = false := by simp; omega
            clear e0
            by_cases c1 : mn ≤ cy
            · by_cases c2 : cy ≤ mx
              · have hf : cycB mn mx cy = true := by simp [cycB, c1, c2]
                have d1 : decide ((mn : Int) ≤ (cy : Int)) = true := by simp; omega
                have d2 : decide ((cy : Int) ≤ (mx : Int)) = true := by simp; omega
                go_wp2_with fail
                go_meet
                exact ⟨rfl, by rw [hf]⟩
              · have hf : cycB mn mx cy = false := by simp [cycB, c0, c1, c2]
                have d1 : decide ((mn : Int) ≤ (cy : Int)) = true := by simp; omega
                have d2 : decide ((cy : Int) ≤ (mx : Int)) = false := by simp; omega
                go_wp2_with fail
                go_meet
                exact ⟨rfl, by rw [hf]⟩
            · have hf : cycB mn mx cy = false := by simp [cycB, c0, c1]
              have d1 : decide ((mn : Int) ≤ (cy : Int)) = false := by simp; omega
              go_wp2_with fail
              go_meet
              exact ⟨rfl, by rw [hf]⟩
        case rest =>
          clear e0
          obtain ⟨rfl, rfl⟩ := hcut
          obtain ⟨fc, hfc⟩ : ∃ fc, cycB mn mx cy = fc := ⟨_, rfl⟩
          have HFC := Lib.hid hfc
          simp only [hfc]
          clear hfc
          go_upto_if 110 with fail
          go_cut [19, 20, 21] (fun d st f wx => ∃ (dd : Nat) (fb : Bool) (s : Int) (L : List (Bool × Nat × Nat)), d = .int .u64 dd ∧ f = .bool fb ∧ st = .int .i64 s ∧ Run w1 wx b v mx mn now L ∧ Out mx cy fb s dd L)
          case first =>
           as_aux_lemma =>
            cases a2 with
            | true =>
              obtain ⟨q, hq⟩ : ∃ q, V + 2 * (mx + 1) - now - 1 = q := ⟨_, rfl⟩
              obtain ⟨r, hr⟩ : ∃ r, q % (mx + 1) = r := ⟨_, rfl⟩
              have eq1 : (V : Int) + 2 * ((mx : Int) + 1) - (now : Int) - 1 = (q : Int) := by omega
              have eq2 : (q : Int) % ((mx : Int) + 1) = (r : Int) := by rw [← hr]; push_cast; rfl
              have hab := abs_all 1 V cy hV hR.out.clk
              have hrm : r ≤ mx := by have := Nat.mod_lt q (show 0 < mx + 1 by omega); omega
              have hun : V ≤ mx → until' mx now V = r + 1 := fun h => until_form hnm h hq hr
              have HUN := Lib.hid hun
              clear hq hr hun
              by_cases hv : V ≤ mx
              · have dv : decide ((V : Int) ≤ (mx : Int)) = true := by simp; omega
                rw [HFC.out, put_a0, HUN.out hv] at hab
                cases fc with
                | true =>
                  simp only [hv, decide_true, Bool.true_and, if_true] at hab
                  go_wp2_with fail
                  refine hab.mono ?_
                  rintro e w2 ⟨rfl, c2, k2⟩
                  go_wp2_with fail
                  go_meet
                  exact ⟨r + 1, true, 0, _, by push_cast; rfl, rfl, rfl, ⟨c2, hR.out.kept.then k2 (fun _ h => Or.inl h)⟩, out_yes (by omega) (by omega) (cyc_le HFC.out)⟩
                | false =>
                  simp only [hv, decide_true, Bool.true_and, Bool.false_eq_true, if_false] at hab
                  go_wp2_with fail
                  refine hab.mono ?_
                  rintro e w2 ⟨rfl, c2, k2⟩
                  go_wp2_with fail
                  go_meet
                  exact ⟨r + 1, false, 8, _, by push_cast; rfl, rfl, rfl, ⟨c2, hR.out.kept.then k2 (fun _ h => Or.inl h)⟩, out_no⟩
              · have dv : decide ((V : Int) ≤ (mx : Int)) = false := by simp; omega
                rw [put_a0] at hab
                simp only [hv, decide_false, Bool.false_and, Bool.false_eq_true, if_false] at hab
                cases fc with
                | true =>
                  go_wp2_with fail
                  refine hab.mono ?_
                  rintro e w2 ⟨rfl, c2, k2⟩
                  go_wp2_with fail
                  go_meet
                  exact ⟨r + 1, false, 8, _, by push_cast; rfl, rfl, rfl, ⟨c2, hR.out.kept.then k2 (fun _ h => Or.inl h)⟩, out_no⟩
                | false =>
                  go_wp2_with fail
                  refine hab.mono ?_
                  rintro e w2 ⟨rfl, c2, k2⟩
                  go_wp2_with fail
                  go_meet
                  exact ⟨r + 1, false, 8, _, by push_cast; rfl, rfl, rfl, ⟨c2, hR.out.kept.then k2 (fun _ h => Or.inl h)⟩, out_no⟩
            | false =>
              have hab := rel_all 1 V cy hV hR.out.clk
              rw [HFC.out, put_a0] at hab
              by_cases hv1 : 1 ≤ V
              · have dv1 : decide ((1 : Int) ≤ (V : Int)) = true := by simp; omega
                by_cases hv : V ≤ mx
                · have dv : decide ((V : Int) ≤ (mx : Int)) = true := by simp; omega
                  cases fc with
                  | true =>
                    simp only [hv, hv1, decide_true, Bool.true_and, if_true] at hab
                    go_wp2_with fail
                    refine hab.mono ?_
                    rintro e w2 ⟨rfl, c2, k2⟩
                    go_wp2_with fail
                    go_meet
                    exact ⟨V, true, 0, _, rfl, rfl, rfl, ⟨c2, hR.out.kept.then k2 (fun _ h => Or.inl h)⟩, out_yes (by omega) (by omega) (cyc_le HFC.out)⟩
                  | false =>
                    simp only [hv, hv1, decide_true, Bool.true_and, Bool.false_eq_true, if_false] at hab
                    go_wp2_with fail
                    refine hab.mono ?_
                    rintro e w2 ⟨rfl, c2, k2⟩
                    go_wp2_with fail
                    go_meet
                    exact ⟨V, false, 8, _, rfl, rfl, rfl, ⟨c2, hR.out.kept.then k2 (fun _ h => Or.inl h)⟩, out_no⟩
                · have dv : decide ((V : Int) ≤ (mx : Int)) = false := by simp; omega
                  simp only [hv, hv1, decide_true, decide_false, Bool.true_and, Bool.false_and, Bool.false_eq_true, if_false] at hab
                  cases fc with
                  | true =>
                    go_wp2_with fail
                    refine hab.mono ?_
                    rintro e w2 ⟨rfl, c2, k2⟩
                    go_wp2_with fail
                    go_meet
                    exact ⟨V, false, 8, _, rfl, rfl, rfl, ⟨c2, hR.out.kept.then k2 (fun _ h => Or.inl h)⟩, out_no⟩
                  | false =>
                    go_wp2_with fail
                    refine hab.mono ?_
                    rintro e w2 ⟨rfl, c2, k2⟩
                    go_wp2_with fail
                    go_meet
                    exact ⟨V, false, 8, _, rfl, rfl, rfl, ⟨c2, hR.out.kept.then k2 (fun _ h => Or.inl h)⟩, out_no⟩
              · have dv1 : decide ((1 : Int) ≤ (V : Int)) = false := by simp; omega
                simp only [hv1, decide_false, Bool.false_and, Bool.false_eq_true, if_false] at hab
                cases fc with
                | true =>
                  go_wp2_with fail
                  refine hab.mono ?_
                  rintro e w2 ⟨rfl, c2, k2⟩
                  go_wp2_with fail
                  go_meet
                  exact ⟨V, false, 8, _, rfl, rfl, rfl, ⟨c2, hR.out.kept.then k2 (fun _ h => Or.inl h)⟩, out_no⟩
                | false =>
                  go_wp2_with fail
                  refine hab.mono ?_
                  rintro e w2 ⟨rfl, c2, k2⟩
                  go_wp2_with fail
                  go_meet
                  exact ⟨V, false, 8, _, rfl, rfl, rfl, ⟨c2, hR.out.kept.then k2 (fun _ h => Or.inl h)⟩, out_no⟩
          case rest =>
           as_aux_lemma =>
            clear hR
            obtain ⟨dd, fb, st, L, rfl, rfl, rfl, hR, hO⟩ := hcut
            have hR := Lib.hid hR
            have hO := Lib.hid hO
            cases fb with
            | false =>
              obtain ⟨rfl, rfl⟩ := hO.out.2 rfl
              have hl := left_ok 1 hR.out.clk
              rw [show ofA a0 1 = (false, 0, 0) from by decide, show ofS a0 1 = 5 from by decide] at hl
              go_wp2_with fail
              refine hl.mono ?_
              rintro e w2 ⟨rfl, k2⟩
              go_wp2_with fail
              refine (alive_law _).mono ?_
              rintro e w3 ⟨rfl, k3⟩
              go_wp2
              go_ret
              exact ⟨rfl, (K1.out.then ((hR.out.kept.then k2 (fun _ h => False.elim h)).then k3 (fun _ h => False.elim h)) (fun i hi => Or.inr (HF.out i hi))).below (Nat.le_refl _) (fun _ h => False.elim h)⟩
            | true =>
              obtain ⟨rfl, hd1, hd2, hcm, rfl⟩ := hO.out.1 rfl
              clear hO
              go_wp2
              -- the ticks
              have B1 : Hid (Below w.heap.size w w1) := K1.out.below (Nat.le_refl _) (fun _ h => False.elim h)
              have hw1 : w.heap.size ≤ w1.heap.size := by omega
              go_loopg [24] T (fun g t wx => ∃ (j x' : Nat) (L : List (Bool × Nat × Nat)), g = T - j ∧ j ≤ T ∧ t = .int .u64 ((j : Int) + 1) ∧ Hid (Run w1 wx b v mx mn x' L) ∧ Hid (L.length = 3 ∧ L[1]? = some (al dd cy j)))
              case atStart => exact ⟨0, now, _, rfl, Nat.zero_le _, rfl, hR, ⟨rfl, by rw [al_zero cy hd1]; rfl⟩⟩
              case round =>
                clear hR
                obtain ⟨j, x', L, hg, hj, rfl, hR, hL⟩ := hrel
                have HG := Lib.hid hg
                clear hg
                have hBr : Hid (Below w.heap.size w wr) := B1.out.trans (hR.out.kept.below hw1 (fun i hi => HF.out i hi))
                by_cases hjT : j < T
                · have hjt : decide ((j : Int) + 1 ≤ (T : Int)) = true := by simp; omega
                  go_upto_region 30 with fail
                  go_cut [192] (fun q wx => wx = wr ∧ q = .bool (actB l5 j))
                  case first =>
                   as_aux_lemma =>
                    by_cases hjl : j < l5.length
                    · obtain ⟨kd, al', t', c', sb, so, hx5, rfl, hsb, q0, q1, q2, q3⟩ := quad_at HC.out hBr.out hjl
                      have ha := act_at hx5
                      have HA := Lib.hid ha
                      have hk0 : (0 : Int) ≤ (j : Int) := by omega
                      have hk1 : (j : Int) < (l5.length : Int) := by omega
                      clear ha hx5
                      go_wp2_with fail
                      go_meet
                      exact ⟨rfl, by rw [HA.out]⟩
                    · have ha := act_no (l := l5) (j := j) (by omega)
                      have HA := Lib.hid ha
                      clear ha
                      have hk1 : decide ((j : Int) < (l5.length : Int)) = false := by simp; omega
                      go_wp2_with fail
                      go_meet
                      exact ⟨rfl, by rw [HA.out]⟩
                  case rest =>
                    obtain ⟨hwx, rfl⟩ := hcut
                    have hwx' := hwx.symm
                    clear hwx
                    subst hwx'
                    obtain ⟨act, hact⟩ : ∃ act, actB l5 j = act := ⟨_, rfl⟩
                    have HAct := Lib.hid hact
                    simp only [hact]
                    clear hact
                    go_upto_if 192 with fail
                    go_cut [] (fun wx => ∃ L', Run w1 wx b v mx mn x' L' ∧ L'.length = 3 ∧ L'[1]? = some (al dd cy j))
                    case first =>
                     as_aux_lemma =>
                      cases act with
                      | false =>
                        go_wp2_with fail
                        go_meet
                        exact ⟨L, hR.out, hL.out.1, hL.out.2⟩
                      | true =>
                        have hjl : j < l5.length := by
                          rcases Nat.lt_or_ge j l5.length with h | h
                          · exact h
                          · have := act_no h; rw [HAct.out] at this; cases this
                        obtain ⟨kd, al', t', c', sb, so, hx5, rfl, hsb, q0, q1, q2, q3⟩ := quad_at HC.out hBr.out hjl
                        have hal : Hid (al' ≠ ((1 : Nat) : Int)) := by
                          have := act_at hx5; rw [HAct.out] at this
                          intro e; rw [e] at this; simp at this
                        obtain ⟨_, _, wt', wc'⟩ := HW.out _ (List.mem_of_getElem? hx5)
                        obtain ⟨t', rfl, ht'⟩ := u32_nat wt'
                        obtain ⟨c', rfl, hc'⟩ := u32_nat wc'
                        have hk0 : (0 : Int) ≤ (j : Int) := by omega
                        have hk1 : (j : Int) < (l5.length : Int) := by omega
                        clear hx5 wt' wc'
                        by_cases h1 : kd = 1
                        · subst h1
                          have CX := hR.out.clk.kept ((Kept.refl (fun _ => False) wr).alloc (.cells #[.int .i64 1, .int .i64 al', .int .u32 t', .int .u32 c'] 47)) (fun _ _ h => h)
                          have KX2 := Lib.hid (hR.out.kept.alloc (.cells #[.int .i64 1, .int .i64 al', .int .u32 t', .int .u32 c'] 47))
                          go_wp2_with fail
                          refine (rel_all al' t' c' ht' CX).mono ?_
                          rintro e w2 ⟨rfl, c2, k2⟩
                          clear CX
                          go_wp2_with fail
                          go_meet
                          exact ⟨_, ⟨c2, KX2.out.then k2 (fun _ h => Or.inl h)⟩, by rw [putL_length]; exact hL.out.1, by first | (rw [putL_other _ _ _ _ _ hal.out]; exact hL.out.2) | (rw [putL_other _ _ hal.out]; exact hL.out.2)⟩
                        · have d1 : (kd == 1) = false := by simpa using h1
                          by_cases h2 : kd = 2
                          · subst h2
                            have CX := hR.out.clk.kept ((Kept.refl (fun _ => False) wr).alloc (.cells #[.int .i64 2, .int .i64 al', .int .u32 t', .int .u32 c'] 47)) (fun _ _ h => h)
                            have KX2 := Lib.hid (hR.out.kept.alloc (.cells #[.int .i64 2, .int .i64 al', .int .u32 t', .int .u32 c'] 47))
                            go_wp2_with fail
                            refine (abs_all al' t' c' ht' CX).mono ?_
                            rintro e w2 ⟨rfl, c2, k2⟩
                            clear CX
                            go_wp2_with fail
                            go_meet
                            exact ⟨_, ⟨c2, KX2.out.then k2 (fun _ h => Or.inl h)⟩, by rw [putL_length]; exact hL.out.1, by first | (rw [putL_other _ _ _ _ _ hal.out]; exact hL.out.2) | (rw [putL_other _ _ hal.out]; exact hL.out.2)⟩
                          · have d2 : (kd == 2) = false := by simpa using h2
                            by_cases h4 : kd = 4
                            · subst h4
                              have CX := hR.out.clk.kept ((Kept.refl (fun _ => False) wr).alloc (.cells #[.int .i64 4, .int .i64 al', .int .u32 t', .int .u32 c'] 47)) (fun _ _ h => h)
                              have KX2 := Lib.hid (hR.out.kept.alloc (.cells #[.int .i64 4, .int .i64 al', .int .u32 t', .int .u32 c'] 47))
                              go_wp2_with fail
                              refine (cancel_all al' CX).mono ?_
                              rintro e w2 ⟨rfl, c2, k2⟩
                              clear CX
                              go_wp2_with fail
                              go_meet
                              exact ⟨_, ⟨c2, KX2.out.then k2 (fun _ h => Or.inl h)⟩, by rw [cancelL_length]; exact hL.out.1, by first | (rw [cancelL_other _ _ _ _ _ hal.out]; exact hL.out.2) | (rw [cancelL_other _ _ hal.out]; exact hL.out.2)⟩
                            · have d4 : (kd == 4) = false := by simpa using h4
                              go_wp2_with fail
                              go_meet
                              exact ⟨L, ⟨hR.out.clk.kept ((Kept.refl (fun _ => False) wr).alloc _) (fun _ _ h => h), hR.out.kept.alloc _⟩, hL.out.1, hL.out.2⟩
                    case rest =>
                      clear hR hL HAct
                      obtain ⟨L, hR, hL3, hL1⟩ := hcut
                      have htk := tick_ok hR.clk
                      have hF := fd_fired L hL3
                      have hall := hasB_all L hL1
                      rw [al_fires cy j hd1] at hall
                      have hL3' : (L.map tick1).length = 3 := by rw [List.length_map]; exact hL3
                      have hL1' : (L.map tick1)[1]? = some (al dd cy (j + 1)) := by rw [List.getElem?_map, hL1, Option.map_some, al_tick cy j hd1]
                      have HLL : Hid ((L.map tick1).length = 3 ∧ (L.map tick1)[1]? = some (al dd cy (j + 1))) := ⟨hL3', hL1'⟩
                      obtain ⟨F, hFe⟩ : ∃ F, fired L 0 = F := ⟨_, rfl⟩
                      obtain ⟨L2, hL2⟩ : ∃ L2, L.map tick1 = L2 := ⟨_, rfl⟩
                      rw [hFe] at htk hF hall
                      rw [hL2] at htk HLL
                      have HF3 := Lib.hid hF
                      have HALL := Lib.hid hall
                      have HR := Lib.hid hR
                      have hFl := hF.len
                      clear hL3 hL1 hL3' hL1' hFe hL2 hF hall hR
                      go_wp2_with fail
                      refine htk.mono ?_
                      rintro e w2 ⟨ao, c, rfl, c2, k2, r2, _⟩
                      have HR2 : Hid (Run w1 w2 b v mx mn (after mx x' 1) L2) := ⟨c2, HR.out.kept.then k2 (fun _ h => Or.inl h)⟩
                      have RW := Lib.hid r2
                      clear c2 k2 r2 htk HR
                      go_wp2_with fail
                      go_loopw [28, 29] (fun hh i wy => ∃ q : Nat, q ≤ F.length ∧ i = .int .i64 q ∧ hh = .bool (hasB F q) ∧ Hid (Run w1 wy b v mx mn (after mx x' 1) L2) ∧ Hid (Row wy 3 1 (.slice ao F.length c) F.length (F.map (Value.int .i64)))) (fun _ i _ => F.length - (intOf i).toNat)
                      case atStart => exact ⟨0, Nat.zero_le _, rfl, by rw [hasB_zero], HR2, RW⟩
                      case round =>
                       as_aux_lemma =>
                        clear HR2 RW
                        obtain ⟨q, hq, rfl, rfl, HR2, RW⟩ := hrel
                        by_cases hqF : q < F.length
                        · obtain ⟨z, hz⟩ : ∃ z, F[q]? = some z := ⟨_, List.getElem?_eq_getElem hqF⟩
                          obtain ⟨z0, z2⟩ := HF3.out.low q z hz
                          obtain ⟨g, cc, hv⟩ := row1 RW.out (by omega)
                          cases hv
                          have cq : wr.cell? ⟨g, q, none⟩ = some (.int .i64 z) := row_cell RW.out q (by rw [List.getElem?_map, hz]; rfl)
                          have hs := hasB_succ hz
                          obtain ⟨h0, hh0⟩ : ∃ h0, hasB F q = h0 := ⟨_, rfl⟩
                          rw [hh0] at hs
                          simp only [hh0]
                          have HS := Lib.hid hs
                          have dz0 : decide (z < 0) = false := by simp; omega
                          have dz2 : decide (2 < z) = false := by simp; omega
                          clear hs hh0
                          rcases Nat.eq_zero_or_pos q with hq0 | hqp
                          · subst hq0
                            have Hz := Lib.hid hz
                            clear hz
                            simp only [show ((0 : Nat) : Int) = 0 from rfl]
                            cases h0 with
                            | true =>
                              go_wp2
                              go_quiet (fail)
                              go_wp2
                              go_roundw
                              case rel => exact ⟨1, by omega, rfl, by rw [HS.out]; rfl, ⟨HR2.out.clk.kept ((Kept.refl (fun _ => False) wr).same rfl rfl rfl rfl) (fun _ _ h => h), HR2.out.kept.same rfl rfl rfl rfl⟩, row_heap RW.out (fun _ _ => rfl)⟩
                              case measure => simp [intOf]; omega
                            | false =>
                              go_wp2
                              go_quiet (fail)
                              go_wp2
                              go_roundw
                              case rel => exact ⟨1, by omega, rfl, by rw [HS.out]; rfl, ⟨HR2.out.clk.kept ((Kept.refl (fun _ => False) wr).same rfl rfl rfl rfl) (fun _ _ h => h), HR2.out.kept.same rfl rfl rfl rfl⟩, row_heap RW.out (fun _ _ => rfl)⟩
                              case measure => simp [intOf]; omega
                          · obtain ⟨p, rfl⟩ : ∃ p, q = p + 1 := ⟨q - 1, by omega⟩
                            obtain ⟨y, hy⟩ : ∃ y, F[p]? = some y := ⟨_, List.getElem?_eq_getElem (by omega)⟩
                            have hyz := HF3.out.up p y z hy hz
                            have cp : wr.cell? ⟨g, p, none⟩ = some (.int .i64 y) := row_cell RW.out p (by rw [List.getElem?_map, hy]; rfl)
                            have dyz : decide (z ≤ y) = false := by simp; omega
                            clear hz hy
                            have hp0 : (0 : Int) ≤ (p : Int) := by omega
                            have hp1 : (p : Int) < (F.length : Int) := by omega
                            have hp2 : (p : Int) + 1 < (F.length : Int) := by omega
                            have hp3 : decide ((0 : Int) < (p : Int) + 1) = true := by rw [decide_eq_true_eq]; omega
                            simp only [Int.natCast_add, Int.natCast_one]
                            cases h0 with
                            | true =>
                              go_wp2
                              go_quiet (fail)
                              go_wp2
                              go_roundw
                              case rel => exact ⟨p + 1 + 1, by omega, by go_num, by rw [HS.out]; rfl, ⟨HR2.out.clk.kept ((Kept.refl (fun _ => False) wr).same rfl rfl rfl rfl) (fun _ _ h => h), HR2.out.kept.same rfl rfl rfl rfl⟩, row_heap RW.out (fun _ _ => rfl)⟩
                              case measure => simp [intOf]; omega
                            | false =>
                              go_wp2
                              go_quiet (fail)
                              go_wp2
                              go_roundw
                              case rel => exact ⟨p + 1 + 1, by omega, by go_num, by rw [HS.out]; rfl, ⟨HR2.out.clk.kept ((Kept.refl (fun _ => False) wr).same rfl rfl rfl rfl) (fun _ _ h => h), HR2.out.kept.same rfl rfl rfl rfl⟩, row_heap RW.out (fun _ _ => rfl)⟩
                              case measure => simp [intOf]; omega
                        · have hqe : q = F.length := by omega
                          subst hqe
                          have hal2 := HALL.out
                          rw [hal2]
                          have hmod := Nat.mod_lt
                          rcases Nat.lt_trichotomy (j + 1) dd with hjd | hjd | hjd
                          · have hD : CK.due dd cy (j + 1) = false := by unfold CK.due; rw [decide_eq_false (show ¬ j + 1 = dd by omega), decide_eq_false (show ¬ dd < j + 1 by omega)]; rfl
                            have e1 : (((j : Int) + 1) == (dd : Int)) = false := by rw [beq_eq_false_iff_ne]; omega
                            have e2 : decide ((dd : Int) < (j : Int) + 1) = false := by rw [decide_eq_false_iff_not]; omega
                            rw [hD]
                            clear hD hal2 hmod
                            go_wp2
                            go_roundg (T - (j + 1))
                            case measure => have := HG.out; omega
                            case rel => exact ⟨j + 1, after mx x' 1, L2, rfl, by omega, by push_cast; rfl, HR2, HLL⟩
                          · have hD : CK.due dd cy (j + 1) = true := by unfold CK.due; rw [decide_eq_true hjd]; rfl
                            have e1 : (((j : Int) + 1) == (dd : Int)) = true := by rw [beq_iff_eq]; omega
                            rw [hD]
                            clear hD hal2 hmod
                            go_wp2
                            go_roundg (T - (j + 1))
                            case measure => have := HG.out; omega
                            case rel => exact ⟨j + 1, after mx x' 1, L2, rfl, by omega, by push_cast; rfl, HR2, HLL⟩
                          · have e1 : (((j : Int) + 1) == (dd : Int)) = false := by rw [beq_eq_false_iff_ne]; omega
                            have e2 : decide ((dd : Int) < (j : Int) + 1) = true := by rw [decide_eq_true_eq]; omega
                            by_cases hc0 : cy = 0
                            · have hD : CK.due dd cy (j + 1) = false := by unfold CK.due; rw [decide_eq_false (show ¬ j + 1 = dd by omega), decide_eq_false (show ¬ 0 < cy by omega)]; simp
                              have e3 : decide ((0 : Int) < (cy : Int)) = false := by rw [decide_eq_false_iff_not]; omega
                              rw [hD]
                              clear hD hal2 hmod
                              go_wp2
                              go_roundg (T - (j + 1))
                              case measure => have := HG.out; omega
                              case rel => exact ⟨j + 1, after mx x' 1, L2, rfl, by omega, by push_cast; rfl, HR2, HLL⟩
                            · obtain ⟨sd, hsd⟩ : ∃ sd, j + 1 - dd = sd := ⟨_, rfl⟩
                              obtain ⟨rd, hrd⟩ : ∃ rd, sd % cy = rd := ⟨_, rfl⟩
                              have e3 : decide ((0 : Int) < (cy : Int)) = true := by rw [decide_eq_true_eq]; omega
                              have e4 : (j : Int) + 1 - (dd : Int) = (sd : Int) := by omega
                              have e5 : (sd : Int) % (cy : Int) = (rd : Int) := by rw [← hrd]; push_cast; rfl
                              have e6 : ¬ ((cy : Int) = 0) := by omega
                              have e7 : (((cy : Int)) == 0) = false := by rw [beq_eq_false_iff_ne]; omega
                              have hsl : sd ≤ 65536 := by omega
                              by_cases hr0 : rd = 0
                              · have hD : CK.due dd cy (j + 1) = true := by unfold CK.due; rw [decide_eq_false (show ¬ j + 1 = dd by omega), decide_eq_true hjd, decide_eq_true (show 0 < cy by omega), hsd, hrd, decide_eq_true hr0]; rfl
                                have e8 : (((rd : Int)) == 0) = true := by rw [beq_iff_eq]; omega
                                rw [hD]
                                clear hD hal2 hmod hrd hsd
                                go_wp2
                                go_roundg (T - (j + 1))
                                case measure => have := HG.out; omega
                                case rel => exact ⟨j + 1, after mx x' 1, L2, rfl, by omega, by push_cast; rfl, HR2, HLL⟩
                              · have hD : CK.due dd cy (j + 1) = false := by unfold CK.due; rw [decide_eq_false (show ¬ j + 1 = dd by omega), decide_eq_true hjd, decide_eq_true (show 0 < cy by omega), hsd, hrd, decide_eq_false hr0]; rfl
                                have e8 : (((rd : Int)) == 0) = false := by rw [beq_eq_false_iff_ne]; omega
                                rw [hD]
                                clear hD hal2 hmod hrd hsd
                                go_wp2
                                go_roundg (T - (j + 1))
                                case measure => have := HG.out; omega
                                case rel => exact ⟨j + 1, after mx x' 1, L2, rfl, by omega, by push_cast; rfl, HR2, HLL⟩
                · have hje : j = T := by omega
                  subst hje
                  have hl := left_ok 1 hR.out.clk
                  have hs := (of_at (l := L) (k := 1) hL.out.2).2
                  rw [al_set cy j] at hs
                  have e1 : ofS L 1 = if (decide (0 < cy) || decide (j < dd)) = true then 0 else 5 := hs
                  rw [e1] at hl
                  obtain ⟨o1, o2, o3, ho⟩ : ∃ o1 o2 o3, ofA L 1 = (o1, o2, o3) := ⟨_, _, _, rfl⟩
                  rw [ho] at hl
                  have hjt : decide ((j : Int) + 1 ≤ (j : Int)) = false := by rw [decide_eq_false_iff_not]; omega
                  clear hs e1 ho
                  by_cases hc0 : cy = 0
                  · have e3 : decide ((0 : Int) < (cy : Int)) = false := by rw [decide_eq_false_iff_not]; omega
                    by_cases hjd : j < dd
                    · have e4 : decide ((j : Int) < (dd : Int)) = true := by rw [decide_eq_true_eq]; omega
                      simp only [hc0, hjd, decide_true, Bool.or_true, if_true] at hl
                      go_wp2_with fail
                      refine hl.mono ?_
                      rintro e w2 ⟨rfl, k2⟩
                      go_wp2_with fail
                      refine (alive_law _).mono ?_
                      rintro e w3 ⟨rfl, k3⟩
                      go_wp2
                      go_ret
                      exact ⟨rfl, (hBr.out.trans (k2.below hBr.out.size (fun _ h => False.elim h))).trans (k3.below (Nat.le_trans hBr.out.size k2.size) (fun _ h => False.elim h))⟩
                    · have e4 : decide ((j : Int) < (dd : Int)) = false := by rw [decide_eq_false_iff_not]; omega
                      simp only [hc0, hjd, Nat.lt_irrefl, decide_false, Bool.or_false, Bool.false_eq_true, if_false] at hl
                      go_wp2_with fail
                      refine hl.mono ?_
                      rintro e w2 ⟨rfl, k2⟩
                      go_wp2_with fail
                      refine (alive_law _).mono ?_
                      rintro e w3 ⟨rfl, k3⟩
                      go_wp2
                      go_ret
                      exact ⟨rfl, (hBr.out.trans (k2.below hBr.out.size (fun _ h => False.elim h))).trans (k3.below (Nat.le_trans hBr.out.size k2.size) (fun _ h => False.elim h))⟩
                  · have e3 : decide ((0 : Int) < (cy : Int)) = true := by rw [decide_eq_true_eq]; omega
                    simp only [show 0 < cy from by omega, decide_true, Bool.true_or, if_true] at hl
                    go_wp2_with fail
                    refine hl.mono ?_
                    rintro e w2 ⟨rfl, k2⟩
                    go_wp2_with fail
                    refine (alive_law _).mono ?_
                    rintro e w3 ⟨rfl, k3⟩
                    go_wp2
                    go_ret
                    exact ⟨rfl, (hBr.out.trans (k2.below hBr.out.size (fun _ h => False.elim h))).trans (k3.below (Nat.le_trans hBr.out.size k2.size) (fun _ h => False.elim h))⟩
end Go.Proofs.Ytialldmepphloaa.clockExactW
