/- tappetlaw14: play, on a stack and the document's, both made. -/
import Derived.Test.YtpbjmkdpeadjeaaTold
namespace Go.Proofs.Ytpbjmkdpeadjeaa.L
open Go.RowKit Go.Fr Go.Proofs.Ytpbjmkdpeadjeaa.SI Go.Proofs.Ytpbjmkdpeadjeaa.RS

/-- behind a call of play: the two are alike still, and nothing else is written -/
def Played (w : World) (s b D : Nat) (v v' : Value) (w' : World) : Prop :=
  ∃ u u' h' l', Both w' s b D u u' h' l' ∧ Kept (fun i => foot s v i ∨ foot b v' i) w w' ∧ (∀ i, foot s u i → foot s v i ∨ w.heap.size ≤ i) ∧ (∀ i, foot b u' i → foot b v' i ∨ w.heap.size ≤ i)

theorem Both.played {w w' : World} {s b D : Nat} {v v' : Value} {h : Int} {l : List Int} (hB : Both w s b D v v' h l) (k : Kept (fun _ => False) w w') : Played w s b D v v' w' :=
  ⟨v, v', h, l, hB.kept k (fun _ _ h => h) (fun _ _ h => h), k.mono (fun _ _ h => h.elim), fun _ h => Or.inl h, fun _ h => Or.inl h⟩

/-- the box of the parameter -/
theorem boxed {w : World} (k x : Int) : (w.alloc (.cells #[.int .i64 k, .int .i64 x] 40)).cell? ⟨w.heap.size, 0, none⟩ = some (.int .i64 k) ∧ (w.alloc (.cells #[.int .i64 k, .int .i64 x] 40)).cell? ⟨w.heap.size, 1, none⟩ = some (.int .i64 x) :=
  ⟨(Blk.new w [.int .i64 k, .int .i64 x] 40).cell 0 rfl, (Blk.new w [.int .i64 k, .int .i64 x] 40).cell 1 rfl⟩

set_option maxRecDepth 100000 in
set_option maxHeartbeats 2000000 in
theorem play_other {w : World} {s b D : Nat} {v v' : Value} {h : Int} {l : List Int} (k x : Int) (hB : Both w s b D v v' h l) (h1 : ¬ k = 1) (h2 : ¬ k = 2) (h3 : ¬ k = 3) (h4 : ¬ k = 4) :
    Calls Try.prog 27 #[.pointer (some ⟨s, 0, none⟩), .pointer (some ⟨b, 0, none⟩), .agg #[.int .i64 k, .int .i64 x]] w fun e w' => e = .returned (.bool true) ∧ Played w s b D v v' w' := by
  obtain ⟨c0, c1⟩ := boxed (w := w) k x
  go_enter Try.func27, Try.ntmps27
  go_wp2
  go_ret
  exact ⟨rfl, hB.played ((Kept.refl _ _).alloc _)⟩

set_option maxRecDepth 100000 in
set_option maxHeartbeats 2000000 in
theorem play_find {w : World} {s b D : Nat} {v v' : Value} {h : Int} {l : List Int} (x : Int) (hB : Both w s b D v v' h l) :
    Calls Try.prog 27 #[.pointer (some ⟨s, 0, none⟩), .pointer (some ⟨b, 0, none⟩), .agg #[.int .i64 3, .int .i64 x]] w fun e w' => e = .returned (.bool true) ∧ Played w s b D v v' w' := by
  obtain ⟨c0, c1⟩ := boxed (w := w) 3 x
  have k0 := (Kept.refl (fun _ => False) w).alloc (.cells #[.int .i64 3, .int .i64 x] 40)
  have hB0 := hB.kept k0 (fun _ _ h => h) (fun _ _ h => h)
  go_enter Try.func27, Try.ntmps27
  go_wp2_with fail
  refine (SI.find_ok x hB0.hs).mono ?_
  rintro e w1 ⟨rfl, n1, rfl⟩
  go_wp2_with fail
  refine (RS.find_ok x (hB0.hr.drew n1)).mono ?_
  rintro e w2 ⟨rfl, k2⟩
  go_wp2_with fail
  go_ret
  exact ⟨rfl, hB.played (k0.then k2.undrew (fun _ h => h.elim))⟩

set_option maxRecDepth 100000 in
set_option maxHeartbeats 2000000 in
theorem play_pop {w : World} {s b D : Nat} {v v' : Value} {h : Int} {l : List Int} (x : Int) (hB : Both w s b D v v' h l) :
    Calls Try.prog 27 #[.pointer (some ⟨s, 0, none⟩), .pointer (some ⟨b, 0, none⟩), .agg #[.int .i64 2, .int .i64 x]] w fun e w' => e = .returned (.bool true) ∧ Played w s b D v v' w' := by
  obtain ⟨c0, c1⟩ := boxed (w := w) 2 x
  have k0 := (Kept.refl (fun _ => False) w).alloc (.cells #[.int .i64 2, .int .i64 x] 40)
  have hB0 := hB.kept k0 (fun _ _ h => h) (fun _ _ h => h)
  have hnum : ∀ n w, Calls Try.prog 10 #[.int .i64 n] w fun e w' => e = .returned (.int .i64 n) ∧ w = w' := fun n w => SS.num_ok n w
  rcases List.eq_nil_or_concat l with rfl | ⟨l0, y, hl0⟩
  · go_enter Try.func27, Try.ntmps27
    go_wp2_with fail
    refine (SI.pop_none hB0.hs).mono ?_
    rintro e w1 ⟨rfl, rfl⟩
    go_wp2_with fail
    refine (RS.pop_none hB0.hr).mono ?_
    rintro e w2 ⟨rfl, rfl⟩
    go_wp2
    go_ret
    exact ⟨rfl, hB.played k0⟩
  · rw [List.concat_eq_append] at hl0
    subst hl0
    have hlt := hB.hr.1.lt
    go_enter Try.func27, Try.ntmps27
    go_wp2_with fail
    refine (SI.pop_ok y hB0.hs).mono ?_
    rintro e w1 ⟨rfl, u, hs1, hu, k1⟩
    have hr1 := hB0.hr.kept k1 (fun i hi e => hB0.dis i (Or.inl e) hi)
    go_wp2_with fail
    refine (RS.pop_ok y hr1).mono ?_
    rintro e w2 ⟨rfl, u', hr2, hu', k2⟩
    have hf : foot s u = foot s v := by unfold foot; rw [hu]
    have hf' : foot b u' = foot b v' := by unfold foot; rw [hu']
    go_wp2
    go_ret
    refine ⟨rfl, u, u', h, l0, ⟨hs1.kept k2 (fun i hi e => ?_), hr2, ?_, ?_, ?_, hB.top⟩, ?_, ?_, ?_⟩
    · rw [hf] at hi; exact hB.dis i hi (Or.inl e)
    · rw [hf, hf']; exact hB.dis
    · have := hB.room; simp at this; omega
    · have := hB.high; simp at this; omega
    · refine ((k0.mono (fun _ _ h => h.elim)).then k1 (fun i e => Or.inl (Or.inl (Or.inl e)))).then k2 (fun i e => Or.inl (Or.inr (Or.inl e)))
    · rw [hf]; exact fun _ h => Or.inl h
    · rw [hf']; exact fun _ h => Or.inl h

set_option maxRecDepth 100000 in
set_option maxHeartbeats 2000000 in
theorem play_push {w : World} {s b D : Nat} {v v' : Value} {h : Int} {l : List Int} (x : Int) (hB : Both w s b D v v' h l) :
    Calls Try.prog 27 #[.pointer (some ⟨s, 0, none⟩), .pointer (some ⟨b, 0, none⟩), .agg #[.int .i64 1, .int .i64 x]] w fun e w' => e = .returned (.bool true) ∧ Played w s b D v v' w' := by
  obtain ⟨c0, c1⟩ := boxed (w := w) 1 x
  have k0 := (Kept.refl (fun _ => False) w).alloc (.cells #[.int .i64 1, .int .i64 x] 40)
  have hsz : w.heap.size < (w.alloc (.cells #[.int .i64 1, .int .i64 x] 40)).heap.size := by simp
  have hB0 := hB.kept k0 (fun _ _ h => h) (fun _ _ h => h)
  have hslt := stk_lt hB.hs
  have hblt := hB.hr.lt
  have hns : ¬ foot s v w.heap.size := fun h => Nat.lt_irrefl _ (hslt _ h)
  have hnb : ¬ foot b v' w.heap.size := fun h => Nat.lt_irrefl _ (hblt _ h)
  by_cases hd : D ≤ l.length
  · have hd1 : (D : Int) ≤ l.length := by omega
    go_enter Try.func27, Try.ntmps27
    go_wp2_with fail
    generalize hW : w.alloc (.cells #[.int .i64 1, .int .i64 x] 40) = w0 at *
    refine wp_region_noPanic ?_
    go_region_held3 (fun w' => w'.cell? ⟨w.heap.size, 1, none⟩ = some (.int .i64 x))
      (first
        | (simp [*]; done)
        | exact (k1.undrew.cell (p := ⟨w.heap.size, 1, none⟩) hsz hns).trans (by assumption)
        | fail)
      (first
        | (go_at_call 22; refine (SI.push_full x (stk_drew _ hB0.hs) hd1 hB0.high).mono ?_; rintro e w1 ⟨rfl, hs1, k1⟩)
        | (go_at_call 16; refine (RS.push_full x (IsRef.kept hB0.hr k1.undrew (fun i hi e => hB.dis i e hi)) hd1).mono ?_; rintro e w2 ⟨rfl, n2, rfl⟩)
        | (go_at_call 10; refine (SS.num_ok _ _).mono ?_; rintro e w3 ⟨rfl, rfl⟩))
    refine NoPanic.normal ?_
    go_wp2
    go_ret
    refine ⟨rfl, v, v', h, l, ⟨hs1, ?_, hB.dis, hB.room, hB.high, hB.top⟩, ((k0.mono (fun _ _ h => h.elim)).then k1.undrew (fun i e => Or.inl (Or.inl e))).drewN _, fun _ h => Or.inl h, fun _ h => Or.inl h⟩
    exact IsRef.drew _ (IsRef.kept hB0.hr k1.undrew (fun i hi e => hB.dis i e hi))
  · have hd1 : (l.length : Int) < D := by omega
    have hd2 : (D : Int) ≤ 1024 := by have := hB.top; omega
    go_enter Try.func27, Try.ntmps27
    go_wp2_with fail
    generalize hW : w.alloc (.cells #[.int .i64 1, .int .i64 x] 40) = w0 at *
    refine wp_region_noPanic ?_
    go_region_held3 (fun w' => w'.cell? ⟨w.heap.size, 1, none⟩ = some (.int .i64 x))
      (first
        | (simp [*]; done)
        | exact (k1.undrew.cell (p := ⟨w.heap.size, 1, none⟩) hsz hns).trans (by assumption)
        | exact (k2.cell (p := ⟨w.heap.size, 1, none⟩) (Nat.lt_of_lt_of_le hsz k1.undrew.size) hnb).trans (by assumption)
        | exact (k2.undrew.cell (p := ⟨w.heap.size, 1, none⟩) (Nat.lt_of_lt_of_le hsz k1.undrew.size) hnb).trans (by assumption)
        | fail)
      (first
        | (go_at_call 22; refine (SI.push_room x (stk_drew _ hB0.hs) hd1 hd2).mono ?_; rintro e w1 ⟨rfl, u, hs1, k1, hf1⟩)
        | (go_at_call 16; refine (RS.push_room x (IsRef.kept hB0.hr k1.undrew (fun i hi e => hB.dis i e hi)) hd1 hd2).mono ?_; rintro e w2 ⟨rfl, u', hr2, k2, hf2⟩)
        | (go_at_call 10; refine (SS.num_ok _ _).mono ?_; rintro e w3 ⟨rfl, rfl⟩))
    refine NoPanic.normal ?_
    go_wp2
    go_ret
    have hk : Kept (fun i => foot s v i ∨ foot b v' i) w w2 := ((k0.mono (fun _ _ h => h.elim)).then k1.undrew (fun i e => Or.inl (Or.inl e))).then k2 (fun i e => Or.inl (Or.inr e))
    have hdis : ∀ i, foot s u i → foot b v' i → False := by
      intro i e e'
      rcases hf1 i e with e1 | e1
      · exact hB.dis i e1 e'
      · exact absurd (Nat.lt_of_lt_of_le (hblt i e') (Nat.le_trans k0.size e1)) (Nat.lt_irrefl _)
    refine ⟨rfl, u, u', mxi h (l.length + 1), l ++ [x], ⟨hs1.kept k2 (fun i e e' => hdis i e e'), hr2, ?_, ?_, ?_, hB.top⟩, hk, ?_, ?_⟩
    · intro i e e'
      rcases hf2 i e' with e1 | e1
      · exact hdis i e e1
      · exact absurd (Nat.lt_of_lt_of_le (stk_lt hs1 i e) e1) (Nat.lt_irrefl _)
    · simp; omega
    · unfold mxi; simp; split <;> omega
    · intro i e
      rcases hf1 i e with e1 | e1
      · exact Or.inl e1
      · exact Or.inr (Nat.le_trans k0.size e1)
    · intro i e
      rcases hf2 i e with e1 | e1
      · exact Or.inl e1
      · exact Or.inr (Nat.le_trans k0.size (Nat.le_trans k1.undrew.size e1))

/-- what Cut answers, in plain Lean -/
def cutN (l : List Int) (x : Int) : Nat := if x < 0 then 0 else if (l.length : Int) < x then 0 else l.length - x.toNat
def cutE (l : List Int) (x : Int) : Int := if x < 0 then 2 else if (l.length : Int) < x then 142 else 0
def cutL (l : List Int) (x : Int) : List Int := if x < 0 then l else if (l.length : Int) < x then l else l.take x.toNat
def cutX (l : List Int) (x : Int) : List Int := if x < 0 then [] else if (l.length : Int) < x then [] else (l.drop x.toNat).reverse

theorem cutX_length (l : List Int) (x : Int) : (cutX l x).length = cutN l x := by
  unfold cutX cutN; split
  · rfl
  · split <;> simp
theorem cutL_le (l : List Int) (x : Int) : (cutL l x).length ≤ l.length := by
  unfold cutL; split
  · exact Nat.le_refl _
  · split
    · exact Nat.le_refl _
    · simp; omega
theorem cutN_le (l : List Int) (x : Int) : cutN l x ≤ l.length := by
  unfold cutN; split
  · omega
  · split <;> omega

theorem stk_cut {w : World} {b : Nat} {v : Value} {d h : Int} {l : List Int} (x : Int) (hs : IsStk w b v d h l) : Calls Try.prog 23 #[.pointer (some ⟨b, 0, none⟩), .int .i64 x] w fun e w' =>
    ∃ ao c v', e = .returned (.tuple #[.slice ao (cutN l x) c, .int .i64 (cutE l x)]) ∧ IsStk w' b v' d h (cutL l x) ∧ v'.ownBlock = v.ownBlock ∧ Kept (foot b v) w w' ∧
      Row w' 3 1 (.slice ao (cutN l x) c) (cutN l x) ((cutX l x).map (Value.int .i64)) ∧ (∀ g, (Value.slice ao (cutN l x) c).ownBlock = some g → w.heap.size ≤ g) := by
  by_cases h0 : x < 0
  · refine (SI.cut_neg x hs h0).mono ?_
    rintro e w' ⟨rfl, rfl⟩
    unfold cutN cutE cutL cutX
    simp only [h0, if_true]
    exact ⟨none, 0, v, rfl, hs, rfl, Kept.refl _ _, World.ownsRow_nil _ _ _ _, by simp [Value.ownBlock]⟩
  · by_cases h1 : (l.length : Int) < x
    · refine (SI.cut_big x hs h1).mono ?_
      rintro e w' ⟨rfl, rfl⟩
      unfold cutN cutE cutL cutX
      simp only [h0, h1, if_true, if_false]
      exact ⟨none, 0, v, rfl, hs, rfl, Kept.refl _ _, World.ownsRow_nil _ _ _ _, by simp [Value.ownBlock]⟩
    · obtain ⟨n, rfl⟩ := Int.eq_ofNat_of_zero_le (a := x) (by omega)
      unfold cutN cutE cutL cutX
      simp only [h0, h1, if_false, Int.toNat_natCast]
      exact SI.cut_ok n hs (by omega)

theorem ref_cut {w : World} {b : Nat} {v : Value} {d h : Int} {l : List Int} (x : Int) (hs : IsRef w b v true d h l) : Calls Try.prog 47 #[.pointer (some ⟨b, 0, none⟩), .int .i64 x] w fun e w' =>
    ∃ ao c v', e = .returned (.tuple #[.slice ao (cutN l x) c, .int .i64 (cutE l x)]) ∧ IsRef w' b v' true d h (cutL l x) ∧ v'.ownBlock = v.ownBlock ∧ Kept (foot b v) w w' ∧
      Row w' 3 1 (.slice ao (cutN l x) c) (cutN l x) ((cutX l x).map (Value.int .i64)) ∧ (∀ g, (Value.slice ao (cutN l x) c).ownBlock = some g → w.heap.size ≤ g) := by
  by_cases h0 : x < 0
  · refine (RS.cut_neg x hs h0).mono ?_
    rintro e w' ⟨rfl, rfl⟩
    unfold cutN cutE cutL cutX
    simp only [h0, if_true]
    exact ⟨none, 0, v, rfl, hs, rfl, Kept.refl _ _, World.ownsRow_nil _ _ _ _, by simp [Value.ownBlock]⟩
  · by_cases h1 : (l.length : Int) < x
    · refine (RS.cut_big x hs h1).mono ?_
      rintro e w' ⟨rfl, rfl⟩
      unfold cutN cutE cutL cutX
      simp only [h0, h1, if_true, if_false]
      exact ⟨none, 0, v, rfl, hs, rfl, Kept.refl _ _, World.ownsRow_nil _ _ _ _, by simp [Value.ownBlock]⟩
    · obtain ⟨n, rfl⟩ := Int.eq_ofNat_of_zero_le (a := x) (by omega)
      unfold cutN cutE cutL cutX
      simp only [h0, h1, if_false, Int.toNat_natCast]
      refine (RS.cut_ok n hs (by omega)).mono ?_
      rintro e w' ⟨ao, c, v', h2, h3, h4, h5, h6, h7⟩
      exact ⟨ao, c, v', h2, h3, h4, h5.mono (fun _ _ h => Or.inl h), h6, h7⟩

/-- while what was cut off is overwritten and grown: the two are alike, and the row is another's -/
structure CutSt (F : Nat → Prop) (w : World) (s b D : Nat) (u u' : Value) (h : Int) (l : List Int) (wr : World) (r : Value) (M : Nat) : Prop where
  both : Both wr s b D u u' h l
  kept : Kept F w wr
  row : ∃ xs : List Int, xs.length = M ∧ Row wr 3 1 r M (xs.map (Value.int .i64))
  own : ∀ g, r.ownBlock = some g → ¬ foot s u g ∧ ¬ foot b u' g ∧ w.heap.size ≤ g

theorem CutSt.get {F : Nat → Prop} {w wr : World} {s b D M k : Nat} {u u' : Value} {h : Int} {l : List Int} {ao : Option Addr} {c : Nat} (hc : CutSt F w s b D u u' h l wr (.slice ao M c) M) (hk : k < M) :
    ∃ g y, ao = some ⟨g, 0, none⟩ ∧ wr.cell? ⟨g, k, none⟩ = some (.int .i64 y) ∧ wr.frozen? ⟨g, k, none⟩ = false := by
  obtain ⟨xs, hx, hr⟩ := hc.row
  rcases row_forms hr with ⟨_, h0⟩ | ⟨g, c', hv, _⟩
  · omega
  · cases hv
    exact ⟨g, xs[k], rfl, row_cell hr k (by rw [List.getElem?_map, List.getElem?_eq_getElem (by omega)]; rfl), row_frozen hr k⟩

theorem CutSt.set {F : Nat → Prop} {w wr : World} {s b D M : Nat} {u u' : Value} {h : Int} {l : List Int} {g c : Nat} (k : Nat) (y : Int) (hc : CutSt F w s b D u u' h l wr (.slice (some ⟨g, 0, none⟩) M c) M) :
    CutSt F w s b D u u' h l (wr.setCell ⟨g, k, none⟩ (.int .i64 y)) (.slice (some ⟨g, 0, none⟩) M c) M := by
  obtain ⟨xs, hx, hr⟩ := hc.row
  obtain ⟨o1, o2, o3⟩ := hc.own g rfl
  refine ⟨hc.both.kept (S := fun i => i = g) ((Kept.refl (fun i => i = g) _).set k (Or.inl rfl) _) (fun i hi e => o1 (e ▸ hi)) (fun i hi e => o2 (e ▸ hi)), hc.kept.set k (Or.inr o3) _, ⟨xs.set k y, by simpa using hx, ?_⟩, hc.own⟩
  rw [List.map_set]
  exact row_set hr k _

theorem CutSt.app {F : Nat → Prop} {w wr we wc : World} {s b D M : Nat} {u u' : Value} {h : Int} {l : List Int} {r r' : Value} {xs : List Int} (y : Int) (hc : CutSt F w s b D u u' h l wr r M) (hx : xs.length = M)
    (ke : Kept (fun _ => False) wr we) (r1 : Row wc 3 1 r' (M + 1) (xs.map (Value.int .i64) ++ [.int .i64 y])) (r2 : we.grownBy wc r.ownBlock)
    (r3 : ∀ g, r'.ownBlock = some g → r.ownBlock = some g ∨ wr.heap.size ≤ g) : CutSt F w s b D u u' h l wc r' (M + 1) := by
  have kc : Kept (fun i => r.ownBlock = some i) we wc := (Kept.refl _ _).grown r2 (fun k hk => Or.inl hk)
  refine ⟨(hc.both.kept ke (fun _ _ h => h) (fun _ _ h => h)).kept kc (fun i hi e => (hc.own i e).1 hi) (fun i hi e => (hc.own i e).2.1 hi), (hc.kept.then ke (fun _ h => h.elim)).then kc (fun i e => Or.inr (hc.own i e).2.2), ⟨xs ++ [y], by simp [hx], by simpa using r1⟩, fun g hg => ?_⟩
  rcases r3 g hg with e | e
  · exact hc.own g e
  · have s1 := stk_lt hc.both.hs
    have s2 := hc.both.hr.lt
    exact ⟨fun h => absurd (Nat.lt_of_lt_of_le (s1 g h) e) (Nat.lt_irrefl _), fun h => absurd (Nat.lt_of_lt_of_le (s2 g h) e) (Nat.lt_irrefl _), Nat.le_trans hc.kept.size e⟩

set_option maxRecDepth 100000 in
set_option maxHeartbeats 2000000 in
theorem play_cut {w : World} {s b D : Nat} {v v' : Value} {h : Int} {l : List Int} (x : Int) (hB : Both w s b D v v' h l) :
    Calls Try.prog 27 #[.pointer (some ⟨s, 0, none⟩), .pointer (some ⟨b, 0, none⟩), .agg #[.int .i64 4, .int .i64 x]] w fun e w' => e = .returned (.bool true) ∧ Played w s b D v v' w' := by
  obtain ⟨c0, c1⟩ := boxed (w := w) 4 x
  have k0 := (Kept.refl (fun _ => False) w).alloc (.cells #[.int .i64 4, .int .i64 x] 40)
  have hsz : w.heap.size < (w.alloc (.cells #[.int .i64 4, .int .i64 x] 40)).heap.size := by simp
  have hB0 := hB.kept k0 (fun _ _ h => h) (fun _ _ h => h)
  have hslt := stk_lt hB.hs
  have hblt := hB.hr.lt
  have hns : ¬ foot s v w.heap.size := fun h => Nat.lt_irrefl _ (hslt _ h)
  obtain ⟨i0, hi, hz0, hz1, hz2⟩ := info_parts info
  go_enter Try.func27, Try.ntmps27
  go_wp2_with fail
  refine (stk_cut x hB0.hs).mono ?_
  rintro e w1 ⟨ao, c, u, rfl, hs1, hu, k1, r1, f1⟩
  have hr1 := hB0.hr.kept k1 (fun i hi e => hB0.dis i e hi)
  have c1' := (k1.cell (p := ⟨w.heap.size, 1, none⟩) hsz hns).trans c1
  clear c0 c1
  go_wp2_with fail
  refine (ref_cut x hr1).mono ?_
  rintro e w2 ⟨ao', c', u', rfl, hr2, hu', k2, r2, f2⟩
  have r1' := row_kept r1 k2 (fun g hg e => absurd (Nat.lt_of_lt_of_le (hblt g e) (Nat.le_trans k0.size (f1 g hg))) (Nat.lt_irrefl _))
  go_wp2_with (first
    | (go_at_call 10; refine (SS.num_ok _ _).mono ?_; rintro e w3 ⟨rfl, rfl⟩)
    | (go_at_call 48; refine (same_ok' (cutX_length l x) r1' r2 (Nat.le_trans (cutN_le l x) hB.hs.2.2.2)).mono ?_; rintro e w3 ⟨rfl, k3⟩))
  have hf : foot s u = foot s v := by unfold foot; rw [hu]
  have hf' : foot b u' = foot b v' := by unfold foot; rw [hu']
  have hD := hB.top
  have hroom := hB.room
  have hN := cutN_le l x
  have hS0 : CutSt (fun i => foot s v i ∨ foot b v' i) w s b D u u' h (cutL l x) w3 (.slice ao (cutN l x) c) (cutN l x) := by
    have hl := cutL_le l x
    have hh := hB.high
    refine ⟨⟨(hs1.kept k2 (fun i hi e => ?_)).kept k3 (fun _ _ h => h), hr2.kept k3 (fun _ _ h => h), ?_, by omega, by omega, hD⟩, (((k0.mono (fun _ _ h => h.elim)).then k1 (fun i e => Or.inl (Or.inl e))).then k2 (fun i e => Or.inl (Or.inr e))).then k3 (fun _ h => h.elim), ⟨cutX l x, cutX_length l x, row_kept r1' k3 (fun _ _ h => h)⟩, fun g hg => ?_⟩
    · rw [hf] at hi; exact hB.dis i hi e
    · rw [hf, hf']; exact hB.dis
    · have g1 := f1 g hg
      have := k0.size
      rw [hf, hf']
      exact ⟨fun e => by have := hslt g e; omega, fun e => by have := hblt g e; omega, by omega⟩
  have hS := Lib.hid hS0
  clear hS0 hs1 hr1 hr2 r1 r2 r1' k1 k2 k3 f1 f2 c1' hsz hns hB0 k0 hslt hblt hu hu' hroom
  generalize hNN : cutN l x = N at *
  have hN' : N ≤ 1024 := by have := hB.room; omega
  go_loopw [19] (fun i wr => ∃ k : Nat, k ≤ N ∧ i = .int .i64 k ∧ Hid (CutSt (fun i => foot s v i ∨ foot b v' i) w s b D u u' h (cutL l x) wr (.slice ao N c) N)) (fun i _ => N - (intOf i).toNat)
  case atStart => exact ⟨0, Nat.zero_le _, rfl, hS⟩
  case round =>
    obtain ⟨k, hk, rfl, hC⟩ := hrel
    by_cases hlt : k < N
    · have hk0 : (0 : Int) ≤ (k : Int) := Int.natCast_nonneg _
      have hk1 : (k : Int) < (N : Int) := by omega
      obtain ⟨g, y, rfl, e1, e2⟩ := hC.out.get hlt
      go_wp2
      go_roundw
      case rel => exact ⟨k + 1, by omega, by go_num, Lib.hid (hC.out.set k _)⟩
      case measure => simp [intOf]; omega
    · go_wp2
      go_loopw [15, 20] (fun o i wr => ∃ (k : Nat) (ao : Option Addr) (c : Nat), k ≤ 40 ∧ i = .int .i64 k ∧ o = .slice ao (N + k) c ∧ Hid (CutSt (fun i => foot s v i ∨ foot b v' i) w s b D u u' h (cutL l x) wr (.slice ao (N + k) c) (N + k))) (fun _ i _ => 40 - (intOf i).toNat)
      case atStart => exact ⟨0, _, _, by omega, rfl, rfl, hC⟩
      case round =>
        obtain ⟨j, ao, c, hj, rfl, rfl, hC⟩ := hrel
        by_cases hlt : j < 40
        · obtain ⟨xs, hx, hr⟩ := hC.out.row
          go_wp2_with ((at_builtin; refine wpList_append_any rfl (.tmp 119) (.tmp 120) 35 rfl 3 i0 (.int .i64 0) 1 8 Try.underlying35 hi hz0 hz1 hz2 rfl (by decide) _ _ _ (xs.map (Value.int .i64)) rfl ?hrow _ 1 1 [.int .i64 (-6)] rfl ?hnew (by simp [Value.oneCell']) ?b1 ?b2 ?_))
          case hrow => exact row_alloc hr _
          case hnew => exact shows_new _ [_] _ (by simp) rfl
          case b1 => unfold maxLen; omega
          case b2 => omega
          intro ao3 c3 wc r1 r2 r3
          have hC2 := Lib.hid (hC.out.app (-6) hx ((Kept.refl _ _).alloc _) r1 r2 (fun g hg => (r3 g hg).imp id (fun h => by omega)))
          clear r1 r2 r3 hr hC
          go_wp2
          go_roundw
          case rel => exact ⟨j + 1, ao3, c3, by omega, by go_num, rfl, hC2⟩
          case measure => simp [intOf]; omega
        · go_wp2
          go_ret
          have hC := hC.out
          exact ⟨rfl, u, u', h, cutL l x, hC.both, hC.kept, by rw [hf]; exact fun _ h => Or.inl h, by rw [hf']; exact fun _ h => Or.inl h⟩

theorem play_ok {w : World} {s b D : Nat} {v v' : Value} {h : Int} {l : List Int} (k x : Int) (hB : Both w s b D v v' h l) :
    Calls Try.prog 27 #[.pointer (some ⟨s, 0, none⟩), .pointer (some ⟨b, 0, none⟩), .agg #[.int .i64 k, .int .i64 x]] w fun e w' => e = .returned (.bool true) ∧ Played w s b D v v' w' := by
  by_cases h1 : k = 1
  · subst h1; exact play_push x hB
  · by_cases h2 : k = 2
    · subst h2; exact play_pop x hB
    · by_cases h3 : k = 3
      · subst h3; exact play_find x hB
      · by_cases h4 : k = 4
        · subst h4; exact play_cut x hB
        · exact play_other k x hB h1 h2 h3 h4

end Go.Proofs.Ytpbjmkdpeadjeaa.L
