/- tappetlaw12: play, on a ring and the document's, both made. -/
import Derived.Test.YtibgoipdaeaigaaRtl
namespace Go.Proofs.Ytibgoipdaeaigaa.L
open Go.RowKit Go.Fr Go.Proofs.Ytibgoipdaeaigaa.RI Go.Proofs.Ytibgoipdaeaigaa.RR

section
variable {w : World} {b : Nat} {v : Value} {room : Nat} {high : Int} {l : List Int}
theorem rg_last_full (x : Int) (hs : IsRg w b v room high l) (h : room ≤ l.length) : Calls Try.prog 24 #[.pointer (some ⟨b, 0, none⟩), .int .i64 x] w fun e w' => e = .returned (.int .i64 121) ∧ ∃ n, w' = w.drewN n := by obtain ⟨f, cs, hs⟩ := hs; exact last_full x hs h
theorem rg_first_full (x : Int) (hs : IsRg w b v room high l) (h : room ≤ l.length) : Calls Try.prog 27 #[.pointer (some ⟨b, 0, none⟩), .int .i64 x] w fun e w' => e = .returned (.int .i64 121) ∧ ∃ n, w' = w.drewN n := by obtain ⟨f, cs, hs⟩ := hs; exact first_full x hs h
theorem rg_last_room (x : Int) (hs : IsRg w b v room high l) (h : l.length < room) : Calls Try.prog 24 #[.pointer (some ⟨b, 0, none⟩), .int .i64 x] w fun e w' =>
    e = .returned (.int .i64 0) ∧ ∃ v', IsRg w' b v' room (mxi high (l.length + 1)) (l ++ [x]) ∧ (∀ i, foot b v' i → foot b v i ∨ w.heap.size ≤ i) ∧ Kept (foot b v) w w' := by
  obtain ⟨f, cs, hs⟩ := hs
  refine (last_room x hs h).mono ?_
  rintro e w' ⟨he, v', f', cs', h1, h2, h3⟩
  exact ⟨he, v', ⟨f', cs', h1⟩, h2, h3⟩
theorem rg_first_room (x : Int) (hs : IsRg w b v room high l) (h : l.length < room) : Calls Try.prog 27 #[.pointer (some ⟨b, 0, none⟩), .int .i64 x] w fun e w' =>
    e = .returned (.int .i64 0) ∧ ∃ v', IsRg w' b v' room (mxi high (l.length + 1)) (x :: l) ∧ (∀ i, foot b v' i → foot b v i ∨ w.heap.size ≤ i) ∧ Kept (foot b v) w w' := by
  obtain ⟨f, cs, hs⟩ := hs
  refine (first_room x hs h).mono ?_
  rintro e w' ⟨he, v', f', cs', h1, h2, h3⟩
  exact ⟨he, v', ⟨f', cs', h1⟩, h2, h3⟩
theorem rg_take_none (hs : IsRg w b v room high []) : Calls Try.prog 25 #[.pointer (some ⟨b, 0, none⟩)] w fun e w' => e = .returned (.tuple #[.int .i64 0, .int .i64 122]) ∧ w = w' := by obtain ⟨f, cs, hs⟩ := hs; exact RI.take_none hs
theorem rg_take (x : Int) (hs : IsRg w b v room high (x :: l)) : Calls Try.prog 25 #[.pointer (some ⟨b, 0, none⟩)] w fun e w' => e = .returned (.tuple #[.int .i64 x, .int .i64 0]) ∧ IsRg w' b v room high l ∧ Kept (foot b v) w w' := by
  obtain ⟨f, cs, hs⟩ := hs
  refine (RI.take_ok x hs).mono ?_
  rintro e w' ⟨he, f', cs', h1, h2⟩
  exact ⟨he, ⟨f', cs', h1⟩, h2⟩
theorem rg_clear (hs : IsRg w b v room high l) : Calls Try.prog 33 #[.pointer (some ⟨b, 0, none⟩)] w fun e w' => e = .returned (.int .i64 l.length) ∧ IsRg w' b v room high [] ∧ Kept (foot b v) w w' := by
  obtain ⟨f, cs, hs⟩ := hs
  refine (RI.clear_ok hs).mono ?_
  rintro e w' ⟨he, cs', h1, h2⟩
  exact ⟨he, ⟨0, cs', h1⟩, h2⟩
theorem rg_copy (hs : IsRg w b v room high l) : Calls Try.prog 32 #[.pointer (some ⟨b, 0, none⟩)] w fun e w' =>
    ∃ b' v', e = .returned (.pointer (some ⟨b', 0, none⟩)) ∧ IsRg w' b' v' room high l ∧ (∀ i, foot b' v' i → w.heap.size ≤ i) ∧ Kept (fun _ => False) w w' := by
  obtain ⟨f, cs, hs⟩ := hs
  refine (RI.copy_ok hs).mono ?_
  rintro e w' ⟨b', v', he, h1, h2⟩
  exact ⟨b', v', he, ⟨f, cs, h1⟩, h2⟩
theorem rg_at_no (i : Int) (hs : IsRg w b v room high l) (h : i < 0 ∨ l.length ≤ i) : Calls Try.prog 50 #[.pointer (some ⟨b, 0, none⟩), .int .i64 i] w fun e w' => e = .returned (.tuple #[.int .i64 0, .bool false]) ∧ w = w' := by obtain ⟨f, cs, hs⟩ := hs; exact RI.at_no i hs h
theorem rg_at (i : Nat) (x : Int) (hs : IsRg w b v room high l) (hx : l[i]? = some x) : Calls Try.prog 50 #[.pointer (some ⟨b, 0, none⟩), .int .i64 i] w fun e w' => e = .returned (.tuple #[.int .i64 x, .bool true]) ∧ ∃ n, w' = w.drewN n := by obtain ⟨f, cs, hs⟩ := hs; exact RI.at_ok i x hs hx
end

/-- behind a call of play: the two are alike still, and nothing else is written -/
def Played (w : World) (s b D : Nat) (v v' : Value) (w' : World) : Prop :=
  ∃ u u' h' l', Both w' s b D u u' h' l' ∧ Kept (fun i => foot s v i ∨ i = b) w w' ∧ (∀ i, foot s u i → foot s v i ∨ w.heap.size ≤ i) ∧ (∀ i, foot b u' i → foot b v' i ∨ w.heap.size ≤ i)

theorem Both.played {w w' : World} {s b D : Nat} {v v' : Value} {h : Int} {l : List Int} (hB : Both w s b D v v' h l) (k : Kept (fun _ => False) w w') : Played w s b D v v' w' :=
  ⟨v, v', h, l, hB.kept k (fun _ _ h => h) (fun _ _ h => h), k.mono (fun _ _ h => h.elim), fun _ h => Or.inl h, fun _ h => Or.inl h⟩

/-- a call of the ring's, and one of the document's behind it -/
theorem Both.step {w w0 w1 w2 w3 : World} {s b D : Nat} {v v' u u' : Value} {h h' : Int} {l l' : List Int} {n : Nat} (hB : Both w s b D v v' h l) (k0 : Kept (fun _ => False) w w0) (hs1 : IsRg w1 s u D h' l') (k1 : Kept (foot s v) w0 w1) (hf1 : ∀ i, foot s u i → foot s v i ∨ (w0.drewN n).heap.size ≤ i)
    (hr2 : IsRef w2 b u' true D h' l') (k2 : Kept (fun i => i = b) w1 w2) (hf2 : ∀ i, foot b u' i → foot b v' i ∨ w1.heap.size ≤ i) (k3 : Kept (fun _ => False) w2 w3 := by exact (Kept.refl (fun _ => False) _).same rfl rfl rfl rfl) : Played w s b D v v' w3 := by
  have hslt := hB.hs.lt
  have hblt := hB.hr.lt
  have z0 := k0.size
  have z1 := k1.size
  have hf1' : ∀ i, foot s u i → foot s v i ∨ w0.heap.size ≤ i := hf1
  have hdis : ∀ i, foot s u i → foot b v' i → False := by
    intro i e e'
    rcases hf1' i e with e1 | e1
    · exact hB.dis i e1 e'
    · have := hblt i e'; omega
  have hk : Kept (fun i => foot s v i ∨ i = b) w w2 := ((k0.mono (fun _ _ h => h.elim)).then k1 (fun i e => Or.inl (Or.inl e))).then k2 (fun i e => Or.inl (Or.inr e))
  refine ⟨u, u', h', l', ⟨(hs1.kept k2 (fun i e e' => hdis i e (Or.inl e'))).kept k3 (fun _ _ h => h), hr2.kept k3 (fun _ _ h => h), fun i e e' => ?_⟩, hk.then k3 (fun _ h => h.elim), fun i e => ?_, fun i e => ?_⟩
  · rcases hf2 i e' with e1 | e1
    · exact hdis i e e1
    · have := hs1.lt i e; omega
  · exact (hf1' i e).imp id (fun e1 => by omega)
  · exact (hf2 i e).imp id (fun e1 => by omega)

/-- the box of the parameter -/
theorem boxed {w : World} (k x : Int) : (w.alloc (.cells #[.int .i64 k, .int .i64 x] 39)).cell? ⟨w.heap.size, 0, none⟩ = some (.int .i64 k) ∧ (w.alloc (.cells #[.int .i64 k, .int .i64 x] 39)).cell? ⟨w.heap.size, 1, none⟩ = some (.int .i64 x) :=
  ⟨(Blk.new w [.int .i64 k, .int .i64 x] 39).cell 0 rfl, (Blk.new w [.int .i64 k, .int .i64 x] 39).cell 1 rfl⟩

set_option maxRecDepth 100000 in
set_option maxHeartbeats 2000000 in
theorem play_other {w : World} {s b D : Nat} {v v' : Value} {h : Int} {l : List Int} (k x : Int) (hB : Both w s b D v v' h l) (h1 : ¬ k = 1) (h2 : ¬ k = 2) (h3 : ¬ k = 3) (h4 : ¬ k = 4) (h5 : ¬ k = 5) :
    Calls Try.prog 29 #[.pointer (some ⟨s, 0, none⟩), .pointer (some ⟨b, 0, none⟩), .agg #[.int .i64 k, .int .i64 x]] w fun e w' => e = .returned (.bool true) ∧ Played w s b D v v' w' := by
  obtain ⟨c0, c1⟩ := boxed (w := w) k x
  go_enter Try.func29, Try.ntmps29
  go_wp2
  go_ret
  exact ⟨rfl, hB.played ((Kept.refl _ _).alloc _)⟩

set_option maxRecDepth 100000 in
set_option maxHeartbeats 4000000 in
theorem play_last {w : World} {s b D : Nat} {v v' : Value} {h : Int} {l : List Int} (x : Int) (hB : Both w s b D v v' h l) :
    Calls Try.prog 29 #[.pointer (some ⟨s, 0, none⟩), .pointer (some ⟨b, 0, none⟩), .agg #[.int .i64 1, .int .i64 x]] w fun e w' => e = .returned (.bool true) ∧ Played w s b D v v' w' := by
  obtain ⟨c0, c1⟩ := boxed (w := w) 1 x
  have k0 := (Kept.refl (fun _ => False) w).alloc (.cells #[.int .i64 1, .int .i64 x] 39)
  have hsz : w.heap.size < (w.alloc (.cells #[.int .i64 1, .int .i64 x] 39)).heap.size := by simp
  have hB0 := hB.kept k0 (fun _ _ h => h) (fun _ _ h => h)
  have hslt := hB.hs.lt
  have hblt := hB.hr.lt
  have hns : ¬ foot s v w.heap.size := fun h => Nat.lt_irrefl _ (hslt _ h)
  have hnb : ¬ (w.heap.size = b) := fun h => Nat.lt_irrefl _ (hblt _ (Or.inl h))
  have hln := hB.hs.len
  by_cases hd : D ≤ l.length
  · have hd1 : (D : Int) ≤ l.length := by omega
    go_enter Try.func29, Try.ntmps29
    go_wp2_with fail
    generalize hW : w.alloc (.cells #[.int .i64 1, .int .i64 x] 39) = w0 at *
    refine wp_region_noPanic ?_
    go_region_held3 (fun w' => w'.cell? ⟨w.heap.size, 1, none⟩ = some (.int .i64 x))
      (first
        | (simp [*]; done)
        | fail)
      (first
        | (go_at_call 24; refine (rg_last_full x (hB0.hs.drewN _) hd).mono ?_; rintro e w1 ⟨rfl, n1, rfl⟩)
        | (go_at_call 16; refine (RR.put_full x false (hB0.hr.drew _) hd1).mono ?_; rintro e w2 ⟨rfl, n2, rfl⟩)
        | (go_at_call 11; refine (RS.num_ok _ _).mono ?_; rintro e w3 ⟨rfl, rfl⟩))
    refine NoPanic.normal ?_
    go_wp2
    go_ret
    exact ⟨rfl, hB.played (by exact k0.same rfl rfl rfl rfl)⟩
  · have hd1 : (l.length : Int) < D := by omega
    have hd2 : (D : Int) ≤ 65536 := by omega
    go_enter Try.func29, Try.ntmps29
    go_wp2_with fail
    generalize hW : w.alloc (.cells #[.int .i64 1, .int .i64 x] 39) = w0 at *
    refine wp_region_noPanic ?_
    go_region_held3 (fun w' => w'.cell? ⟨w.heap.size, 1, none⟩ = some (.int .i64 x))
      (first
        | (simp [*]; done)
        | exact (k1.undrew.cell (p := ⟨w.heap.size, 1, none⟩) hsz hns).trans (by assumption)
        | exact (k2.cell (p := ⟨w.heap.size, 1, none⟩) (Nat.lt_of_lt_of_le hsz k1.undrew.size) hnb).trans (by assumption)
        | exact (k2.undrew.cell (p := ⟨w.heap.size, 1, none⟩) (Nat.lt_of_lt_of_le hsz k1.undrew.size) hnb).trans (by assumption)
        | fail)
      (first
        | (go_at_call 24; refine (rg_last_room x (hB0.hs.drewN _) (by omega)).mono ?_; rintro e w1 ⟨rfl, u, hs1, hf1, k1⟩)
        | (go_at_call 16; refine (RR.put_last x (IsRef.kept hB0.hr k1.undrew (fun i hi e => hB.dis i e hi)) hd1 hd2).mono ?_; rintro e w2 ⟨rfl, u', hr2, k2, hf2⟩)
        | (go_at_call 11; refine (RS.num_ok _ _).mono ?_; rintro e w3 ⟨rfl, rfl⟩))
    refine NoPanic.normal ?_
    go_wp2
    go_ret
    exact ⟨rfl, hB.step k0 hs1 k1.undrew hf1 hr2 k2 hf2⟩

set_option maxRecDepth 100000 in
set_option maxHeartbeats 4000000 in
theorem play_first {w : World} {s b D : Nat} {v v' : Value} {h : Int} {l : List Int} (x : Int) (hB : Both w s b D v v' h l) :
    Calls Try.prog 29 #[.pointer (some ⟨s, 0, none⟩), .pointer (some ⟨b, 0, none⟩), .agg #[.int .i64 2, .int .i64 x]] w fun e w' => e = .returned (.bool true) ∧ Played w s b D v v' w' := by
  obtain ⟨c0, c1⟩ := boxed (w := w) 2 x
  have k0 := (Kept.refl (fun _ => False) w).alloc (.cells #[.int .i64 2, .int .i64 x] 39)
  have hsz : w.heap.size < (w.alloc (.cells #[.int .i64 2, .int .i64 x] 39)).heap.size := by simp
  have hB0 := hB.kept k0 (fun _ _ h => h) (fun _ _ h => h)
  have hslt := hB.hs.lt
  have hblt := hB.hr.lt
  have hns : ¬ foot s v w.heap.size := fun h => Nat.lt_irrefl _ (hslt _ h)
  have hnb : ¬ (w.heap.size = b) := fun h => Nat.lt_irrefl _ (hblt _ (Or.inl h))
  have hln := hB.hs.len
  by_cases hd : D ≤ l.length
  · have hd1 : (D : Int) ≤ l.length := by omega
    go_enter Try.func29, Try.ntmps29
    go_wp2_with fail
    generalize hW : w.alloc (.cells #[.int .i64 2, .int .i64 x] 39) = w0 at *
    refine wp_region_noPanic ?_
    go_region_held3 (fun w' => w'.cell? ⟨w.heap.size, 1, none⟩ = some (.int .i64 x))
      (first
        | (simp [*]; done)
        | fail)
      (first
        | (go_at_call 27; refine (rg_first_full x (hB0.hs.drewN _) hd).mono ?_; rintro e w1 ⟨rfl, n1, rfl⟩)
        | (go_at_call 16; refine (RR.put_full x true (hB0.hr.drew _) hd1).mono ?_; rintro e w2 ⟨rfl, n2, rfl⟩)
        | (go_at_call 11; refine (RS.num_ok _ _).mono ?_; rintro e w3 ⟨rfl, rfl⟩))
    refine NoPanic.normal ?_
    go_wp2
    go_ret
    exact ⟨rfl, hB.played (by exact k0.same rfl rfl rfl rfl)⟩
  · have hd1 : (l.length : Int) < D := by omega
    have hd2 : (D : Int) ≤ 65536 := by omega
    go_enter Try.func29, Try.ntmps29
    go_wp2_with fail
    generalize hW : w.alloc (.cells #[.int .i64 2, .int .i64 x] 39) = w0 at *
    refine wp_region_noPanic ?_
    go_region_held3 (fun w' => w'.cell? ⟨w.heap.size, 1, none⟩ = some (.int .i64 x))
      (first
        | (simp [*]; done)
        | exact (k1.undrew.cell (p := ⟨w.heap.size, 1, none⟩) hsz hns).trans (by assumption)
        | exact (k2.cell (p := ⟨w.heap.size, 1, none⟩) (Nat.lt_of_lt_of_le hsz k1.undrew.size) hnb).trans (by assumption)
        | exact (k2.undrew.cell (p := ⟨w.heap.size, 1, none⟩) (Nat.lt_of_lt_of_le hsz k1.undrew.size) hnb).trans (by assumption)
        | fail)
      (first
        | (go_at_call 27; refine (rg_first_room x (hB0.hs.drewN _) (by omega)).mono ?_; rintro e w1 ⟨rfl, u, hs1, hf1, k1⟩)
        | (go_at_call 16; refine (RR.put_first x (IsRef.kept hB0.hr k1.undrew (fun i hi e => hB.dis i e hi)) hd1 hd2).mono ?_; rintro e w2 ⟨rfl, u', hr2, k2, hf2⟩)
        | (go_at_call 11; refine (RS.num_ok _ _).mono ?_; rintro e w3 ⟨rfl, rfl⟩))
    refine NoPanic.normal ?_
    go_wp2
    go_ret
    exact ⟨rfl, hB.step k0 hs1 k1.undrew hf1 hr2 k2 hf2⟩

set_option maxRecDepth 100000 in
set_option maxHeartbeats 2000000 in
theorem play_take {w : World} {s b D : Nat} {v v' : Value} {h : Int} {l : List Int} (x : Int) (hB : Both w s b D v v' h l) :
    Calls Try.prog 29 #[.pointer (some ⟨s, 0, none⟩), .pointer (some ⟨b, 0, none⟩), .agg #[.int .i64 3, .int .i64 x]] w fun e w' => e = .returned (.bool true) ∧ Played w s b D v v' w' := by
  obtain ⟨c0, c1⟩ := boxed (w := w) 3 x
  have k0 := (Kept.refl (fun _ => False) w).alloc (.cells #[.int .i64 3, .int .i64 x] 39)
  have hB0 := hB.kept k0 (fun _ _ h => h) (fun _ _ h => h)
  have hnum : ∀ n w, Calls Try.prog 11 #[.int .i64 n] w fun e w' => e = .returned (.int .i64 n) ∧ w = w' := fun n w => RS.num_ok n w
  cases l with
  | nil =>
    go_enter Try.func29, Try.ntmps29
    go_wp2_with fail
    refine (rg_take_none hB0.hs).mono ?_
    rintro e w1 ⟨rfl, rfl⟩
    go_wp2_with fail
    refine (RR.take_none hB0.hr).mono ?_
    rintro e w2 ⟨rfl, rfl⟩
    go_wp2
    go_ret
    exact ⟨rfl, hB.played k0⟩
  | cons y l0 =>
    go_enter Try.func29, Try.ntmps29
    go_wp2_with fail
    refine (rg_take y hB0.hs).mono ?_
    rintro e w1 ⟨rfl, hs1, k1⟩
    have hr1 := hB0.hr.kept k1 (fun i hi e => hB0.dis i e hi)
    go_wp2_with fail
    refine (RR.take_ok y hr1).mono ?_
    rintro e w2 ⟨rfl, u', hr2, hf2, k2⟩
    go_wp2
    go_ret
    exact ⟨rfl, hB.step (n := 0) k0 hs1 k1 (fun i h => Or.inl h) hr2 k2 hf2⟩

set_option maxRecDepth 100000 in
set_option maxHeartbeats 2000000 in
theorem play_at {w : World} {s b D : Nat} {v v' : Value} {h : Int} {l : List Int} (x : Int) (hB : Both w s b D v v' h l) :
    Calls Try.prog 29 #[.pointer (some ⟨s, 0, none⟩), .pointer (some ⟨b, 0, none⟩), .agg #[.int .i64 4, .int .i64 x]] w fun e w' => e = .returned (.bool true) ∧ Played w s b D v v' w' := by
  obtain ⟨c0, c1⟩ := boxed (w := w) 4 x
  have k0 := (Kept.refl (fun _ => False) w).alloc (.cells #[.int .i64 4, .int .i64 x] 39)
  have hB0 := hB.kept k0 (fun _ _ h => h) (fun _ _ h => h)
  by_cases hno : x < 0 ∨ (l.length : Int) ≤ x
  · go_enter Try.func29, Try.ntmps29
    go_wp2_with fail
    refine (rg_at_no x hB0.hs hno).mono ?_
    rintro e w1 ⟨rfl, rfl⟩
    go_wp2_with fail
    refine (RR.at_no x hB0.hr hno).mono ?_
    rintro e w2 ⟨rfl, rfl⟩
    go_wp2
    go_ret
    exact ⟨rfl, hB.played k0⟩
  · obtain ⟨n, rfl⟩ := Int.eq_ofNat_of_zero_le (a := x) (by omega)
    obtain ⟨y, hy⟩ : ∃ y, l[n]? = some y := ⟨_, List.getElem?_eq_getElem (by omega)⟩
    have h1 := fun w hs => rg_at n y (w := w) (b := s) (v := v) (room := D) (high := h) hs hy
    have h2 := fun w hs => RR.at_ok n y (w := w) (b := b) (v := v') (m := true) (d := D) (h := h) hs hy
    clear hy
    go_enter Try.func29, Try.ntmps29
    go_wp2_with fail
    refine (h1 _ hB0.hs).mono ?_
    rintro e w1 ⟨rfl, n1, rfl⟩
    go_wp2_with fail
    refine (h2 _ (hB0.hr.drew n1)).mono ?_
    rintro e w2 ⟨rfl, rfl⟩
    go_wp2
    go_ret
    exact ⟨rfl, hB.played (k0.drewN n1)⟩

set_option maxRecDepth 100000 in
set_option maxHeartbeats 2000000 in
theorem play_clear {w : World} {s b D : Nat} {v v' : Value} {h : Int} {l : List Int} (x : Int) (hB : Both w s b D v v' h l) :
    Calls Try.prog 29 #[.pointer (some ⟨s, 0, none⟩), .pointer (some ⟨b, 0, none⟩), .agg #[.int .i64 5, .int .i64 x]] w fun e w' => e = .returned (.bool true) ∧ Played w s b D v v' w' := by
  obtain ⟨c0, c1⟩ := boxed (w := w) 5 x
  have k0 := (Kept.refl (fun _ => False) w).alloc (.cells #[.int .i64 5, .int .i64 x] 39)
  have hB0 := hB.kept k0 (fun _ _ h => h) (fun _ _ h => h)
  go_enter Try.func29, Try.ntmps29
  go_wp2_with fail
  refine (rg_clear hB0.hs).mono ?_
  rintro e w1 ⟨rfl, hs1, k1⟩
  have hr1 := hB0.hr.kept k1 (fun i hi e => hB0.dis i e hi)
  go_wp2_with fail
  refine (RR.clear_ok hr1).mono ?_
  rintro e w2 ⟨rfl, hr2, k2⟩
  go_wp2
  go_ret
  exact ⟨rfl, hB.step (n := 0) k0 hs1 k1 (fun i h => Or.inl h) hr2 k2 (fun i hi => Or.inl (hi.elim Or.inl (fun e => by simp [Value.ownBlock] at e)))⟩

theorem play_ok {w : World} {s b D : Nat} {v v' : Value} {h : Int} {l : List Int} (k x : Int) (hB : Both w s b D v v' h l) :
    Calls Try.prog 29 #[.pointer (some ⟨s, 0, none⟩), .pointer (some ⟨b, 0, none⟩), .agg #[.int .i64 k, .int .i64 x]] w fun e w' => e = .returned (.bool true) ∧ Played w s b D v v' w' := by
  by_cases h1 : k = 1
  · subst h1; exact play_last x hB
  by_cases h2 : k = 2
  · subst h2; exact play_first x hB
  by_cases h3 : k = 3
  · subst h3; exact play_take x hB
  by_cases h4 : k = 4
  · subst h4; exact play_at x hB
  by_cases h5 : k = 5
  · subst h5; exact play_clear x hB
  exact play_other k x hB h1 h2 h3 h4 h5
end Go.Proofs.Ytibgoipdaeaigaa.L
