/- The walk of StackTurned: whatever is pushed, and however much is cut, it answers true and turns nothing that was there. -/
import Derived.Test.YtpbjmkdpeadjeaaArgs
import Derived.Test.YtpbjmkdpeadjeaaStkV
import Derived.Test.YtpbjmkdpeadjeaaAlive
namespace Go.Proofs.Ytpbjmkdpeadjeaa.stackTurnedW
open Go.RowKit Go.Fr Go.Proofs.Ytpbjmkdpeadjeaa.SI

theorem stk_lt {w : World} {b : Nat} {v : Value} {d h : Int} {l : List Int} (hs : IsStk w b v d h l) : ∀ i, foot b v i → i < w.heap.size := by
  rintro i (rfl | hi)
  · exact hs.1.lt
  · exact row_lt hs.2.1 hi

theorem foot_nil {b i : Nat} (h : foot b (.slice none 0 0) i) : i = b := by
  rcases h with h | h
  · exact h
  · simp [Value.ownBlock] at h

theorem stk_drew {w : World} {b : Nat} {v : Value} {d h : Int} {l : List Int} (n : Nat) (hs : IsStk w b v d h l) : IsStk (w.drewN n) b v d h l := hs

def rfoot (v : Value) : Nat → Prop := fun k => v.ownBlock = some k

/-- two stacks and a slice of the call's own, all with the same things -/
structure St (n0 bs bt D : Nat) (w wr : World) (l : List Int) (v1 v2 o : Value) : Prop where
  hs : IsStk wr bs v1 D l.length l
  ht : IsStk wr bt v2 D l.length l
  ho : Row wr 3 1 o l.length (l.map (Value.int .i64))
  hst : Dis (foot bs v1) (foot bt v2)
  hso : Dis (foot bs v1) (rfoot o)
  hto : Dis (foot bt v2) (rfoot o)
  s0 : ∀ i, foot bs v1 i → n0 ≤ i
  t0 : ∀ i, foot bt v2 i → n0 ≤ i
  o0 : ∀ i, rfoot o i → n0 ≤ i
  b : Below n0 w wr

theorem mxi_succ (n : Nat) : mxi n (n + 1) = ((n + 1 : Nat) : Int) := by
  unfold mxi
  rw [if_pos (by omega)]
  omega

theorem St.lt {n0 bs bt D : Nat} {w wr : World} {l : List Int} {v1 v2 o : Value} (hS : St n0 bs bt D w wr l v1 v2 o) : (∀ i, foot bs v1 i → i < wr.heap.size) ∧ (∀ i, foot bt v2 i → i < wr.heap.size) ∧ ∀ i, rfoot o i → i < wr.heap.size :=
  ⟨stk_lt hS.hs, stk_lt hS.ht, fun i hi => row_lt hS.ho hi⟩

theorem St.push {n0 bs bt D : Nat} {w wr wa wb we wc : World} {l : List Int} {v1 v2 o va vb o' : Value} {x : Int} (hS : St n0 bs bt D w wr l v1 v2 o)
    (hw : n0 ≤ wr.heap.size)
    (ha : IsStk wa bs va D (mxi l.length (l.length + 1)) (l ++ [x])) (ka : Kept (foot bs v1) wr wa) (fa : ∀ i, foot bs va i → foot bs v1 i ∨ wr.heap.size ≤ i)
    (hb : IsStk wb bt vb D (mxi l.length (l.length + 1)) (l ++ [x])) (kb : Kept (foot bt v2) wa wb) (fb : ∀ i, foot bt vb i → foot bt v2 i ∨ wa.heap.size ≤ i)
    (ke : Kept (fun _ => False) wb we) (r1 : Row wc 3 1 o' (l.length + 1) (l.map (Value.int .i64) ++ [.int .i64 x])) (r2 : we.grownBy wc o.ownBlock)
    (r3 : ∀ g, o'.ownBlock = some g → o.ownBlock = some g ∨ wb.heap.size ≤ g) : St n0 bs bt D w wc (l ++ [x]) va vb o' := by
  obtain ⟨L1, L2, L3⟩ := hS.lt
  have kc : Kept (rfoot o) we wc := (Kept.refl _ _).grown r2 (fun k hk => Or.inl hk)
  have z1 := ka.size
  have z2 := kb.size
  have z3 := ke.size
  have z4 := kc.size
  have d1 : Dis (foot bs va) (foot bt v2) := hS.hst.upd fa L2
  have d1' : Dis (foot bs va) (rfoot o) := hS.hso.upd fa L3
  have d2 : Dis (foot bt vb) (foot bs va) := d1.symm.upd fb (stk_lt ha)
  have d2' : Dis (foot bt vb) (rfoot o) := hS.hto.upd fb (fun i hi => by have := L3 i hi; omega)
  have d3 : Dis (rfoot o') (foot bs va) := d1'.symm.upd r3 (fun i hi => by have := stk_lt ha i hi; omega)
  have d4 : Dis (rfoot o') (foot bt vb) := d2'.symm.upd r3 (fun i hi => by have := stk_lt hb i hi; omega)
  have hm : mxi (l.length : Int) (l.length + 1) = ((l ++ [x]).length : Int) := by rw [mxi_succ]; simp
  rw [hm] at ha hb
  refine ⟨((ha.kept kb (fun i hi h => d1 i hi h)).kept ke (fun _ _ h => h)).kept kc (fun i hi h => d1' i hi h), (hb.kept ke (fun _ _ h => h)).kept kc (fun i hi h => d2' i hi h), by simpa using r1, d2.symm, d3.symm, d4.symm, ?_, ?_, ?_, ?_⟩
  · exact fun i hi => (fa i hi).elim (hS.s0 i) (fun h => by omega)
  · exact fun i hi => (fb i hi).elim (hS.t0 i) (fun h => by omega)
  · exact fun i hi => (r3 i hi).elim (hS.o0 i) (fun h => by omega)
  · exact (((hS.b.trans (ka.below hw hS.s0)).trans (kb.below (by omega) hS.t0)).trans (ke.below (by omega) (fun _ h => h.elim))).trans (kc.below (by omega) hS.o0)

/-- behind the cut: j things are still to be popped -/
structure St2 (n0 bs bt D C : Nat) (w wr : World) (l : List Int) (j : Nat) (v1 v3 o q : Value) : Prop where
  hs : IsStk wr bs v1 D l.length (l.take j)
  ht : IsStk wr bt v3 D l.length (l.take (min j C))
  ho : Row wr 3 1 o l.length (l.map (Value.int .i64))
  hq : Row wr 3 1 q (l.length - C) ((l.drop C).reverse.map (Value.int .i64))
  hst : Dis (foot bs v1) (foot bt v3)
  hso : Dis (foot bs v1) (rfoot o)
  hto : Dis (foot bt v3) (rfoot o)
  hsq : Dis (foot bs v1) (rfoot q)
  htq : Dis (foot bt v3) (rfoot q)
  s0 : ∀ i, foot bs v1 i → n0 ≤ i
  t0 : ∀ i, foot bt v3 i → n0 ≤ i
  b : Below n0 w wr

theorem foot_same {b : Nat} {v v' : Value} (h : v'.ownBlock = v.ownBlock) : foot b v' = foot b v := by
  funext i; unfold foot; rw [h]

theorem St.cut {n0 bs bt D C : Nat} {w wr wc : World} {l : List Int} {v1 v2 v3 o q : Value} (hS : St n0 bs bt D w wr l v1 v2 o) (hw : n0 ≤ wr.heap.size) (hC : C ≤ l.length)
    (h : IsStk wc bt v3 D l.length (l.take C)) (hv : v3.ownBlock = v2.ownBlock) (k : Kept (foot bt v2) wr wc) (hq : Row wc 3 1 q (l.length - C) ((l.drop C).reverse.map (Value.int .i64)))
    (hf : ∀ g, q.ownBlock = some g → wr.heap.size ≤ g) : St2 n0 bs bt D C w wc l l.length v1 v3 o q := by
  obtain ⟨L1, L2, L3⟩ := hS.lt
  have ef := foot_same (b := bt) hv
  refine ⟨by simpa using hS.hs.kept k (fun i hi h' => hS.hst i hi h'), by simpa [Nat.min_eq_right hC] using h, row_kept hS.ho k (fun g hg h' => hS.hto g h' hg), hq, by rw [ef]; exact hS.hst, hS.hso, by rw [ef]; exact hS.hto, ?_, ?_, hS.s0, by rw [ef]; exact hS.t0, hS.b.trans (k.below hw hS.t0)⟩
  · exact fun i hi hg => by have := L1 i hi; have := hf i hg; omega
  · rw [ef]; exact fun i hi hg => by have := L2 i hi; have := hf i hg; omega

theorem row_at {w : World} {e : TypeId} {ao : Option Addr} {n c : Nat} {l : List Int} (h : Row w e 1 (.slice ao n c) n (l.map (Value.int .i64))) {i : Nat} {x : Int} (hx : l[i]? = some x) : ∃ g, ao = some ⟨g, 0, none⟩ ∧ w.cell? ⟨g, i, none⟩ = some (.int .i64 x) := by
  have hi := (List.getElem?_eq_some_iff.1 hx).1
  have hl := h.1
  simp at hl
  rcases row_forms h with ⟨_, h0⟩ | ⟨g, c', hv, _⟩
  · omega
  · cases hv
    exact ⟨g, rfl, row_cell h i (by rw [List.getElem?_map, hx]; rfl)⟩

theorem take_snoc {l : List Int} {p : Nat} {x : Int} (hx : l[p]? = some x) : l.take (p + 1) = l.take p ++ [x] := by
  rw [List.take_add_one, hx]; rfl

theorem St2.popS {n0 bs bt D C : Nat} {w wr wa : World} {l : List Int} {p : Nat} {v1 v3 o q va : Value} (hS : St2 n0 bs bt D C w wr l (p + 1) v1 v3 o q) (hw : n0 ≤ wr.heap.size) (hp : C ≤ p)
    (h : IsStk wa bs va D l.length (l.take p)) (hv : va.ownBlock = v1.ownBlock) (k : Kept (fun i => i = bs) wr wa) : St2 n0 bs bt D C w wa l p va v3 o q := by
  have ef := foot_same (b := bs) hv
  have kk : Kept (foot bs v1) wr wa := k.mono (fun i _ hi => Or.inl hi)
  have e : min (p + 1) C = min p C := by omega
  exact ⟨h, by rw [← e]; exact hS.ht.kept kk (fun i hi h' => hS.hst i h' hi), row_kept hS.ho kk (fun g hg h' => hS.hso g h' hg), row_kept hS.hq kk (fun g hg h' => hS.hsq g h' hg), by rw [ef]; exact hS.hst, by rw [ef]; exact hS.hso, hS.hto, by rw [ef]; exact hS.hsq, hS.htq, by rw [ef]; exact hS.s0, hS.t0, hS.b.trans (kk.below hw hS.s0)⟩

theorem St2.popST {n0 bs bt D C : Nat} {w wr wa wb : World} {l : List Int} {p : Nat} {v1 v3 o q va vb : Value} (hS : St2 n0 bs bt D C w wr l (p + 1) v1 v3 o q) (hw : n0 ≤ wr.heap.size) (hp : p < C)
    (h : IsStk wa bs va D l.length (l.take p)) (hv : va.ownBlock = v1.ownBlock) (k : Kept (fun i => i = bs) wr wa)
    (h' : IsStk wb bt vb D l.length (l.take p)) (hv' : vb.ownBlock = v3.ownBlock) (k' : Kept (fun i => i = bt) wa wb) : St2 n0 bs bt D C w wb l p va vb o q := by
  have ef := foot_same (b := bs) hv
  have ef' := foot_same (b := bt) hv'
  have kk : Kept (foot bs v1) wr wa := k.mono (fun i _ hi => Or.inl hi)
  have kk' : Kept (foot bt v3) wa wb := k'.mono (fun i _ hi => Or.inl hi)
  have e : min p C = p := by omega
  exact ⟨h.kept kk' (fun i hi h' => hS.hst i (ef ▸ hi) h'), by rw [e]; exact h', row_kept (row_kept hS.ho kk (fun g hg h' => hS.hso g h' hg)) kk' (fun g hg h' => hS.hto g h' hg),
    row_kept (row_kept hS.hq kk (fun g hg h' => hS.hsq g h' hg)) kk' (fun g hg h' => hS.htq g h' hg), by rw [ef, ef']; exact hS.hst, by rw [ef]; exact hS.hso, by rw [ef']; exact hS.hto, by rw [ef]; exact hS.hsq, by rw [ef']; exact hS.htq, by rw [ef]; exact hS.s0, by rw [ef']; exact hS.t0,
    (hS.b.trans (kk.below hw hS.s0)).trans (kk'.below (by have := kk.size; omega) hS.t0)⟩

set_option maxRecDepth 100000 in
set_option maxHeartbeats 4000000 in
theorem walk (w : World) (a0 : Int) (w0 : (Lit.int .u8 a0).wf = true) (a1 : Option Addr) (cap1 : Nat) (l1 : List Int) (hl1 : l1.length ≤ cap1) (hm1 : cap1 ≤ maxLen) (hc1 : CameL w 1 (encK .i64) a1 l1)
    (hw1 : ∀ x ∈ l1, (Lit.int .i64 x).wf = true) (a2 : Int) (w2 : (Lit.int .u8 a2).wf = true) :
    Calls Try.prog 5 #[.int .u8 a0, .slice a1 l1.length cap1, .int .u8 a2] w fun e w' => e = .returned (.bool true) ∧ Below w.heap.size w w' := by
  obtain ⟨D, rfl, hD⟩ := u8_nat w0
  obtain ⟨C, rfl, hC⟩ := u8_nat w2
  obtain ⟨i0, hi, hz0, hz1, hz2⟩ := info_parts info
  unfold maxLen at hm1
  clear w0 w2
  go_enter Try.func5, Try.ntmps5
  go_wp2_with fail
  refine (new_ok D w (by omega) (by omega)).mono ?_
  rintro e w1 ⟨rfl, s1, ks, z1⟩
  go_wp2_with fail
  refine (new_ok D w1 (by omega) (by omega)).mono ?_
  rintro e w2 ⟨rfl, t2, kt, z2⟩
  have s2 := s1.kept kt (fun _ _ h => h)
  have b2 : Below w.heap.size w w2 := (ks.below (Nat.le_refl _) (fun _ h => h.elim)).trans (kt.below (by omega) (fun _ h => h.elim))
  obtain ⟨bs, hbs⟩ : ∃ bs, w.heap.size = bs := ⟨_, rfl⟩
  obtain ⟨bt, hbt⟩ : ∃ bt, w1.heap.size = bt := ⟨_, rfl⟩
  rw [hbs] at s2
  rw [hbt] at t2
  simp only [hbs, hbt]
  have z3 : bs < bt := by omega
  have z4 : w.heap.size ≤ bs := by omega
  have Hbs := Lib.hid hbs
  clear hbs hbt s1
  go_wp2_with fail
  have St0 : St w.heap.size bs bt D w w2 [] (.slice none 0 0) (.slice none 0 0) (.slice none 0 0) :=
    ⟨s2, t2, World.ownsRow_nil _ _ _ _, fun i h h' => by have := foot_nil h; have := foot_nil h'; omega, by rintro i _ h'; simp [rfoot, Value.ownBlock] at h', by rintro i _ h'; simp [rfoot, Value.ownBlock] at h',
      fun i h => by have := foot_nil h; omega, fun i h => by have := foot_nil h; omega, by rintro i h; simp [rfoot, Value.ownBlock] at h, b2⟩
  clear s2 t2 ks kt b2
  go_loopw [11, 12] (fun o i wr => ∃ (k : Nat) (v1 v2 : Value), k ≤ l1.length ∧ i = .int .i64 k ∧ (∃ ao c, o = .slice ao ((l1.take k).take D).length c) ∧ St w.heap.size bs bt D w wr ((l1.take k).take D) v1 v2 o) (fun _ i _ => l1.length - (intOf i).toNat)
  case atStart => exact ⟨0, _, _, Nat.zero_le _, rfl, ⟨none, 0, by simp⟩, by simpa using St0⟩
  case round =>
    obtain ⟨k, v1, v2, hk, rfl, ⟨ao, c, rfl⟩, hS⟩ := hrel
    obtain ⟨l, hl⟩ : ∃ l, (l1.take k).take D = l := ⟨_, rfl⟩
    rw [hl] at hS
    simp only [hl]
    have hlD : l.length ≤ D := by rw [← hl]; simp; omega
    have Hl := Lib.hid hl
    clear hl
    by_cases hlt : k < l1.length
    · obtain ⟨x, hx⟩ : ∃ x, l1[k]? = some x := ⟨_, List.getElem?_eq_getElem hlt⟩
      obtain ⟨ab, aoff, rfl, hab, hcl⟩ := hc1 (by rintro rfl; simp at hlt)
      have hcx : wr.cell? ⟨ab, aoff + k, none⟩ = some (.int .i64 x) := by
        rw [hS.b.cell (by exact hab)]
        simpa using hcl k x hx 0 _ rfl
      have Hx := Lib.hid hx
      have Hcl := Lib.hid hcl
      clear hx hcl hc1
      have hk0 : (0 : Int) ≤ (k : Int) := Int.natCast_nonneg _
      have hk1 : (k : Int) < (l1.length : Int) := by omega
      have hax : ab < wr.heap.size := by have := hS.b.size; omega
      have hn1 : ¬ foot bs v1 ab := fun h => by have := hS.s0 _ h; omega
      have hn2 : ¬ foot bt v2 ab := fun h => by have := hS.t0 _ h; omega
      have h2lt := stk_lt hS.ht
      have hst2 : ∀ i, foot bt v2 i → ¬ foot bs v1 i := fun i h h' => hS.hst i h' h
      by_cases hroom : l.length < D
      · have e1 : (l1.take (k + 1)).take D = l ++ [x] := by
          rw [← Hl.out, List.take_take, List.take_take]
          have hkD : k < D := by
            have := Hl.out
            have h3 : ((l1.take k).take D).length = l.length := by rw [this]
            simp at h3; omega
          rw [Nat.min_eq_right (by omega), Nat.min_eq_right (by omega), List.take_add_one, Hx.out]
          rfl
        have E1 := Lib.hid e1
        clear e1
        go_wp2_with fail
        go_region_held3 (fun w' => w'.cell? ⟨ab, aoff + k, none⟩ = some (.int .i64 x))
          (first
            | (simp [*]; done)
            | exact (kb.cell (p := ⟨ab, aoff + k, none⟩) (Nat.lt_of_lt_of_le hax ka.size) hn2).trans (by assumption)
            | exact (ka.cell (p := ⟨ab, aoff + k, none⟩) hax hn1).trans (by assumption)
            | fail)
          (first
            | (go_at_call_of 22 (Value.pointer (some ⟨bs, 0, none⟩)); refine (push_room x (stk_drew _ hS.hs) (by omega) (by omega)).mono ?_; rintro e wa ⟨rfl, va, ha, ka, fa⟩)
            | (go_at_call_of 22 (Value.pointer (some ⟨bt, 0, none⟩)); refine (push_room x ((stk_drew _ hS.ht).kept ka hst2) (by omega) (by omega)).mono ?_; rintro e wb ⟨rfl, vb, hb, kb, fb⟩))
        go_wp2_with (first
          | (go_at_call 10; refine (SS.num_ok _ _).mono ?_; rintro e w' ⟨rfl, rfl⟩)
          | (at_builtin; refine wpList_append_any rfl (.tmp 75) (.tmp 80) 35 rfl 3 i0 (.int .i64 0) 1 8 Try.underlying35 hi hz0 hz1 hz2 rfl (by decide) _ _ _ (l.map (Value.int .i64)) rfl ?hrow _ 1 1 [.int .i64 x] rfl ?hnew (by simp [Value.oneCell']) ?b1 ?b2 ?_))
        case hrow => exact row_alloc (row_kept (row_kept hS.ho ka.undrew (fun g hg h => hS.hso g h hg)) kb (fun g hg h => hS.hto g h hg)) _
        case hnew => exact shows_new _ [_] _ (by simp) rfl
        case b1 => unfold maxLen; omega
        case b2 => omega
        intro ao3 c3 wc r1 r2 r3
        have hn0 : w.heap.size ≤ wr.heap.size := hS.b.size
        have hSS := Lib.hid (hS.push hn0 ha ka.undrew fa hb kb fb ((Kept.refl _ _).alloc _) r1 r2 (fun g hg => (r3 g hg).imp id (fun h => by omega)))
        clear ha ka fa hb kb fb r1 r2 r3
        go_wp2
        go_roundw
        case rel => exact ⟨k + 1, va, vb, by omega, by go_num, ⟨ao3, c3, by rw [E1.out]; simp⟩, by rw [E1.out]; exact hSS.out⟩
        case measure => simp [intOf]; omega
      · have e1 : (l1.take (k + 1)).take D = l := by
          have h3 : ((l1.take k).take D).length = l.length := by rw [Hl.out]
          simp at h3
          have := Hl.out
          rw [List.take_take, Nat.min_eq_left (by omega)] at this ⊢
          exact this
        have E1 := Lib.hid e1
        clear e1
        go_wp2_with fail
        go_region_held3 (fun w' => w'.cell? ⟨ab, aoff + k, none⟩ = some (.int .i64 x))
          (first
            | (simp [*]; done)
            | exact (kb.cell (p := ⟨ab, aoff + k, none⟩) (Nat.lt_of_lt_of_le hax ka.size) hn2).trans (by assumption)
            | exact (ka.cell (p := ⟨ab, aoff + k, none⟩) hax hn1).trans (by assumption)
            | fail)
          (first
            | (go_at_call_of 22 (Value.pointer (some ⟨bs, 0, none⟩)); refine (push_full x (stk_drew _ hS.hs) (by omega) (by omega)).mono ?_; rintro e wa ⟨rfl, ha, ka⟩)
            | (go_at_call_of 22 (Value.pointer (some ⟨bt, 0, none⟩)); refine (push_full x ((stk_drew _ hS.ht).kept ka hst2) (by omega) (by omega)).mono ?_; rintro e wb ⟨rfl, hb, kb⟩))
        go_wp2_with (go_at_call 10; refine (SS.num_ok _ _).mono ?_; rintro e w' ⟨rfl, rfl⟩)
        go_roundw
        case rel => exact ⟨k + 1, v1, v2, by omega, by go_num, ⟨ao, c, by rw [E1.out]⟩, by rw [E1.out]; exact ⟨ha.kept kb (fun i hi h => hS.hst i hi h), hb, row_kept (row_kept hS.ho ka.undrew (fun g hg h => hS.hso g h hg)) kb (fun g hg h => hS.hto g h hg), hS.hst, hS.hso, hS.hto, hS.s0, hS.t0, hS.o0,
          (hS.b.trans (ka.undrew.below hS.b.size hS.s0)).trans (kb.below (by have := ka.undrew.size; have := hS.b.size; omega) hS.t0)⟩⟩
        case measure => simp [intOf]; omega
    · have hk : k = l1.length := by omega
      have e1 : l1.take D = l := by rw [← Hl.out, hk, List.take_length]
      have E1 := Lib.hid e1
      clear e1 hk hc1
      go_wp2_with fail
      have z5 : w.heap.size ≤ wr.heap.size := hS.b.size
      by_cases hCl : C ≤ l.length
      · refine (cut_ok C hS.ht hCl).mono ?_
        rintro e wc ⟨qo, qc, v3, rfl, h3, hv3, kc, hq, hf⟩
        have hS2 := hS.cut z5 hCl h3 hv3 kc hq hf
        clear h3 hv3 kc hq hf hS
        have hb1 : decide (C ≤ l.length) = true := by simpa using hCl
        have w1 : IntKind.i64.wrap ((l.length : Int) - (C : Int)) = ((l.length - C : Nat) : Int) := by rw [IntWalk.i64_in _ (by omega)]; omega
        have hlC : (l.take (min l.length C)).length = C := by simp; omega
        go_wp2_with (first
          | (go_at_call 10; refine (SS.num_ok _ _).mono ?_; rintro e w' ⟨rfl, rfl⟩)
          | (go_at_call 24; refine (len_ok hS2.ht).mono ?_; rintro e w' ⟨rfl, rfl⟩))
        have z6 : w.heap.size ≤ wc.heap.size := hS2.b.size
        go_loopw [17] (fun i wr => ∃ (j : Nat) (z : Int) (v1 v3 : Value), i = .int .i64 z ∧ z + 1 = j ∧ j ≤ l.length ∧ St2 w.heap.size bs bt D C w wr l j v1 v3 (.slice ao l.length c) (.slice qo (l.length - C) qc)) (fun i _ => (intOf i + 1).toNat)
        case atStart => exact ⟨l.length, _, _, _, rfl, by omega, Nat.le_refl _, hS2⟩
        case round =>
          clear hS2
          obtain ⟨j, z, v1', v3', rfl, hz, hj, hT⟩ := hrel
          have z7 : w.heap.size ≤ wr.heap.size := hT.b.size
          rcases Nat.eq_zero_or_pos j with rfl | hpos
          · obtain rfl : z = -1 := by omega
            clear hz
            have hs0 : IsStk wr bs v1' D l.length [] := by simpa using hT.hs
            have hb := hT.b
            clear hT
            go_wp2_with (first
              | (go_at_call 24; refine (len_ok hs0).mono ?_; rintro e w' ⟨rfl, rfl⟩)
              | (go_at_call 26; refine (high_ok hs0).mono ?_; rintro e w' ⟨rfl, rfl⟩)
              | (go_at_call 13; refine (SS.alive_law wr).mono ?_; rintro e w' ⟨rfl, kz⟩))
            go_ret
            exact ⟨rfl, hb.trans (kz.below z7 (fun _ h => h.elim))⟩
          · obtain ⟨p, rfl⟩ : ∃ p, j = p + 1 := ⟨j - 1, by omega⟩
            obtain rfl : z = (p : Int) := by omega
            clear hz hpos
            have hp : p < l.length := by omega
            obtain ⟨x, hx⟩ : ∃ x, l[p]? = some x := ⟨_, List.getElem?_eq_getElem hp⟩
            have hpop := pop_ok x (take_snoc hx ▸ hT.hs)
            have Hx := Lib.hid hx
            have hp0 : (0 : Int) ≤ (p : Int) := Int.natCast_nonneg _
            have hp1 : (p : Int) < (l.length : Int) := by omega
            clear hx
            by_cases hCp : C ≤ p
            · obtain ⟨r, hr⟩ : ∃ r, l.length = r + p + 1 := ⟨l.length - 1 - p, by omega⟩
              have w2 : IntKind.i64.wrap ((l.length : Int) - 1 - (p : Int)) = (r : Int) := by rw [IntWalk.i64_in _ (by omega)]; omega
              have w3 : IntKind.i64.wrap ((l.length : Int) - 1) = (l.length : Int) - 1 := IntWalk.i64_in _ (by omega)
              have hrq : r < l.length - C := by omega
              have hrq' : (r : Int) < ((l.length - C : Nat) : Int) := by omega
              have hqx : (l.drop C).reverse[r]? = some x := by
                rw [List.getElem?_reverse (by simp; omega), List.getElem?_drop]
                rw [show C + ((l.drop C).length - 1 - r) = p by simp; omega]
                exact Hx.out
              have Hqx := Lib.hid hqx
              have hge : decide ((C : Int) ≤ (p : Int)) = true := by simpa using hCp
              clear hr hqx
              go_wp2_with (first
                | (go_at_call 10; refine (SS.num_ok _ _).mono ?_; rintro e w' ⟨rfl, rfl⟩)
                | (go_at_call 25; refine hpop.mono ?_; clear hpop; rintro e wa ⟨rfl, va, ha, hva, ka⟩; have hT2 := Lib.hid (hT.popS z7 hCp ha hva ka); clear ha hva ka; obtain ⟨og, rfl, hoc⟩ := row_at hT2.out.ho Hx.out; obtain ⟨qg, rfl, hqc⟩ := row_at hT2.out.hq Hqx.out))
              go_roundw
              case rel => exact ⟨p, _, va, v3', rfl, by omega, by omega, hT2.out⟩
              case measure => simp [intOf]
            · have hCp' : p < C := by omega
              have hlt2 : decide ((C : Int) ≤ (p : Int)) = false := by simp; omega
              have hlt3 : decide ((p : Int) < (C : Int)) = true := by simp; omega
              have e2 : l.take (min (p + 1) C) = l.take p ++ [x] := by rw [Nat.min_eq_left (by omega)]; exact take_snoc Hx.out
              have hpopt : ∀ {wa : World}, IsStk wa bt v3' D l.length (l.take (min (p + 1) C)) → _ := fun {wa} h => pop_ok (w := wa) x (e2 ▸ h)
              clear e2
              go_wp2_with (first
                | (go_at_call 10; refine (SS.num_ok _ _).mono ?_; rintro e w' ⟨rfl, rfl⟩)
                | (go_at_call_of 25 (Value.pointer (some ⟨bs, 0, none⟩)); refine hpop.mono ?_; clear hpop; rintro e wa ⟨rfl, va, ha, hva, ka⟩; obtain ⟨og, rfl, hoc⟩ := row_at (row_kept hT.ho ka (fun g hg h => hT.hso g (Or.inl h) hg)) Hx.out)
                | (go_at_call_of 25 (Value.pointer (some ⟨bt, 0, none⟩)); refine (hpopt (hT.ht.kept ka (fun i hi h => hT.hst i (Or.inl h) hi))).mono ?_; clear hpopt; rintro e wb ⟨rfl, vb, hb, hvb, kb⟩; have hT2 := Lib.hid (hT.popST z7 hCp' ha hva ka hb hvb kb); clear ha hva ka hb hvb kb))
              go_roundw
              case rel => exact ⟨p, _, va, vb, rfl, by omega, by omega, hT2.out⟩
              case measure => simp [intOf]
      · refine (cut_big C hS.ht (by omega)).mono ?_
        rintro e wc ⟨rfl, rfl⟩
        have hb1 : decide (C ≤ l.length) = false := by simpa using hCl
        have hT0 : IsStk wr bs v1 D l.length (l.take l.length) ∧ Row wr 3 1 (.slice ao l.length c) l.length (l.map (Value.int .i64)) ∧ Dis (foot bs v1) (rfoot (.slice ao l.length c)) ∧ (∀ i, foot bs v1 i → w.heap.size ≤ i) ∧ Below w.heap.size w wr :=
          ⟨by simpa using hS.hs, hS.ho, hS.hso, hS.s0, hS.b⟩
        clear hS
        go_wp2_with (go_at_call 10; refine (SS.num_ok _ _).mono ?_; rintro e w' ⟨rfl, rfl⟩)
        go_loopw [17] (fun i wr => ∃ (j : Nat) (z : Int) (v1 : Value), i = .int .i64 z ∧ z + 1 = j ∧ j ≤ l.length ∧ IsStk wr bs v1 D l.length (l.take j) ∧ Row wr 3 1 (.slice ao l.length c) l.length (l.map (Value.int .i64)) ∧ Dis (foot bs v1) (rfoot (.slice ao l.length c)) ∧ Hid (∀ i, foot bs v1 i → w.heap.size ≤ i) ∧ Below w.heap.size w wr) (fun i _ => (intOf i + 1).toNat)
        case atStart => exact ⟨l.length, _, _, rfl, by omega, Nat.le_refl _, hT0⟩
        case round =>
          clear hT0
          obtain ⟨j, z, v1', rfl, hz, hj, hs, ho, hd, h0, hb⟩ := hrel
          have z7 : w.heap.size ≤ wr.heap.size := hb.size
          rcases Nat.eq_zero_or_pos j with rfl | hpos
          · obtain rfl : z = -1 := by omega
            clear hz
            have hs0 : IsStk wr bs v1' D l.length [] := by simpa using hs
            clear hs ho hd h0
            go_wp2_with (first
              | (go_at_call 24; refine (len_ok hs0).mono ?_; rintro e w' ⟨rfl, rfl⟩)
              | (go_at_call 26; refine (high_ok hs0).mono ?_; rintro e w' ⟨rfl, rfl⟩)
              | (go_at_call 13; refine (SS.alive_law wr).mono ?_; rintro e w' ⟨rfl, kz⟩))
            go_ret
            exact ⟨rfl, hb.trans (kz.below z7 (fun _ h => h.elim))⟩
          · obtain ⟨p, rfl⟩ : ∃ p, j = p + 1 := ⟨j - 1, by omega⟩
            obtain rfl : z = (p : Int) := by omega
            clear hz hpos
            have hp : p < l.length := by omega
            obtain ⟨x, hx⟩ : ∃ x, l[p]? = some x := ⟨_, List.getElem?_eq_getElem hp⟩
            have hpop := pop_ok x (take_snoc hx ▸ hs)
            have Hx := Lib.hid hx
            have hp0 : (0 : Int) ≤ (p : Int) := Int.natCast_nonneg _
            have hp1 : (p : Int) < (l.length : Int) := by omega
            clear hx hs
            go_wp2_with (first
              | (go_at_call 10; refine (SS.num_ok _ _).mono ?_; rintro e w' ⟨rfl, rfl⟩)
              | (go_at_call 25; refine hpop.mono ?_; clear hpop; rintro e wa ⟨rfl, va, ha, hva, ka⟩; have ho2 := row_kept ho ka (fun g hg h => hd g (Or.inl h) hg); have HA := Lib.hid ha; have HV := Lib.hid hva; clear ha hva; obtain ⟨og, rfl, hoc⟩ := row_at ho2 Hx.out))
            go_roundw
            case rel =>
              have ef := foot_same (b := bs) HV.out
              exact ⟨p, _, va, rfl, by omega, by omega, HA.out, ho2, by rw [ef]; exact hd, by rw [ef]; exact h0, hb.trans ((ka.mono (S' := foot bs v1') (fun i _ hi => Or.inl hi)).below z7 h0.out)⟩
            case measure => simp [intOf]
end Go.Proofs.Ytpbjmkdpeadjeaa.stackTurnedW
