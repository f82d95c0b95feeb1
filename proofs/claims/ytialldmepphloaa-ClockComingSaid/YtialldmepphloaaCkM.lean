/- tappetlaw16: play, on a clock and the document's, both made. -/
import Derived.Test.YtialldmepphloaaCkL
namespace Go.Proofs.Ytialldmepphloaa.L
open Go.RowKit Go.Fr Go.Proofs.Ytialldmepphloaa.CK

structure Both (w : World) (s b : Nat) (v u : Value) (nm : ByteArray) (bs m n x : Nat) (l : List (Bool × Nat × Nat)) : Prop where
  hs : IsClk w s v m n x l
  hr : CR.IsRef w b u nm bs m n x l
  dis : ∀ i, foot s v i → foot b u i → False

def feet (s b : Nat) (v u : Value) : Nat → Prop := fun i => foot s v i ∨ foot b u i

theorem Both.kept {w w' : World} {s b : Nat} {v u : Value} {nm : ByteArray} {bs m n x : Nat} {l : List (Bool × Nat × Nat)} {S : Nat → Prop} (hB : Both w s b v u nm bs m n x l) (k : Kept S w w') (hn : ∀ i, feet s b v u i → ¬ S i) : Both w' s b v u nm bs m n x l :=
  ⟨hB.hs.kept k (fun i h => hn i (Or.inl h)), hB.hr.kept k (fun i h => hn i (Or.inr h)), hB.dis⟩
theorem Both.lt {w : World} {s b : Nat} {v u : Value} {nm : ByteArray} {bs m n x : Nat} {l : List (Bool × Nat × Nat)} (hB : Both w s b v u nm bs m n x l) : ∀ i, feet s b v u i → i < w.heap.size := fun i h => h.elim (hB.hs.lt i) (hB.hr.lt i)
theorem Both.drewN {w : World} {s b : Nat} {v u : Value} {nm : ByteArray} {bs m n x : Nat} {l : List (Bool × Nat × Nat)} (k : Nat) (hB : Both w s b v u nm bs m n x l) : Both (w.drewN k) s b v u nm bs m n x l := ⟨hB.hs, hB.hr, hB.dis⟩

/-- behind a call of play: the two are alike still, and nothing else that was there is written -/
def Played (w : World) (s b : Nat) (v u : Value) (w' : World) : Prop := ∃ u' nm bs m n x l, Both w' s b v u' nm bs m n x l ∧ Kept (feet s b v u) w w' ∧ ∀ i, feet s b v u' i → feet s b v u i ∨ w.heap.size ≤ i

section
variable {w : World} {s b : Nat} {v u : Value} {nm : ByteArray} {bs m n x : Nat} {l : List (Bool × Nat × Nat)}

theorem Both.played {w' : World} (hB : Both w s b v u nm bs m n x l) (k : Kept (fun _ => False) w w') : Played w s b v u w' :=
  ⟨u, nm, bs, m, n, x, l, hB.kept k (fun _ _ h => h), k.mono (fun _ _ h => h.elim), fun _ h => Or.inl h⟩
theorem Both.step {w0 w1 w2 : World} {x' : Nat} {l' : List (Bool × Nat × Nat)} (hB : Both w s b v u nm bs m n x l) (k0 : Kept (fun _ => False) w w0) (hs1 : IsClk w1 s v m n x' l') (k1 : Kept (foot s v) w0 w1) (hr2 : CR.IsRef w2 b u nm bs m n x' l') (k2 : Kept (foot b u) w1 w2) : Both w2 s b v u nm bs m n x' l' ∧ Kept (feet s b v u) w w2 :=
  ⟨⟨hs1.kept k2 (fun i h h' => hB.dis i h h'), hr2, hB.dis⟩, ((k0.mono (fun _ _ h => h.elim)).then k1 (fun _ h => Or.inl (Or.inl h))).then k2 (fun _ h => Or.inl (Or.inr h))⟩
theorem played_of {w2 : World} {x' : Nat} {l' : List (Bool × Nat × Nat)} (h : Both w2 s b v u nm bs m n x' l' ∧ Kept (feet s b v u) w w2) : Played w s b v u w2 := ⟨u, nm, bs, m, n, x', l', h.1, h.2, fun _ h => Or.inl h⟩

theorem boxed (w : World) (k i t cy : Int) : Blk (w.alloc (.cells #[.int .i64 k, .int .i64 i, .int .u32 t, .int .u32 cy] 47)) w.heap.size [.int .i64 k, .int .i64 i, .int .u32 t, .int .u32 cy] 47 := Blk.new w [.int .i64 k, .int .i64 i, .int .u32 t, .int .u32 cy] _

set_option maxRecDepth 100000 in
set_option maxHeartbeats 4000000 in
theorem play_rel (i : Int) (t cy : Nat) (_ : (Lit.int .i64 i).wf = true) (ht : t ≤ 4294967295) (_ : cy ≤ 4294967295) (hB : Both w s b v u nm bs m n x l) :
    Calls Try.prog 31 #[.pointer (some ⟨s, 0, none⟩), .pointer (some ⟨b, 0, none⟩), .agg #[.int .i64 1, .int .i64 i, .int .u32 t, .int .u32 cy]] w fun e w' => e = .returned (.bool true) ∧ Played w s b v u w' := by
  have k0 := (Kept.refl (fun _ => False) w).alloc (.cells #[.int .i64 1, .int .i64 i, .int .u32 t, .int .u32 cy] 47)
  have hbx := boxed w 1 i t cy
  have c0 := hbx.cell 0 rfl
  have c1 := hbx.cell 1 rfl
  have c2 := hbx.cell 2 rfl
  have c3 := hbx.cell 3 rfl
  have hB0 := hB.kept k0 (fun _ _ h => h)
  have hlt := hB.lt
  have hfine := hB.hs.2.2.2
  have hlen := hfine.hlen
  have hm := hfine.hmost
  have hxm := hfine.hvalue
  have hns : ∀ i, foot s v i → ¬ i = w.heap.size := fun i h e => by have := hlt i (Or.inl h); omega
  have hnb : ∀ i, foot b u i → ¬ i = w.heap.size := fun i h e => by have := hlt i (Or.inr h); omega
  have hI := fun (w1 : World) (hs : IsClk w1 s v m n x l) => rel_all i t cy ht hs
  have hR := fun (w1 : World) (hr : CR.IsRef w1 b u nm bs m n x l) => CR.rel_all i t cy ht hr
  obtain ⟨A, hA⟩ : ∃ A, putL l i (decide (1 ≤ t) && decide (t ≤ m) && cycB n m cy) t cy = A := ⟨_, rfl⟩
  simp only [hA] at hI hR
  clear hA
  obtain ⟨l', r⟩ := A
  dsimp only at hI hR
  have HI := Lib.hid hI
  have HR := Lib.hid hR
  have HB := Lib.hid hB
  have HB0 := Lib.hid hB0
  clear hB hB0 hI hR
  go_enter Try.func31, Try.ntmps31
  go_upto_region 3 with fail
  obtain ⟨w0, hw0⟩ : ∃ w0, w.alloc (.cells #[.int .i64 1, .int .i64 i, .int .u32 t, .int .u32 cy] 47) = w0 := ⟨_, rfl⟩
  have hb0 := HB0.out
  have hbl := hbx.lt
  rw [hw0] at c1 c2 c3 k0 hb0 hbl ⊢
  clear hw0 HB0 c0 hbx
  obtain ⟨S, hS⟩ : ∃ S, w.heap.size = S := ⟨_, rfl⟩
  simp only [hS] at c1 c2 c3 hns hnb hbl ⊢
  refine wp_region_noPanic ?_
  go_region_held3 (fun w' => w'.cell? ⟨S, 1, none⟩ = some (.int .i64 i) ∧ w'.cell? ⟨S, 2, none⟩ = some (.int .u32 t) ∧ w'.cell? ⟨S, 3, none⟩ = some (.int .u32 cy))
    (first
      | (simp [*]; done)
      | exact ⟨(k2.cell (p := ⟨S, 1, none⟩) (Nat.lt_of_lt_of_le hbl k1.undrew.size) (fun h => hnb _ h rfl)).trans ((k1.cell (p := ⟨S, 1, none⟩) hbl (fun h => hns _ h rfl)).trans c1), (k2.cell (p := ⟨S, 2, none⟩) (Nat.lt_of_lt_of_le hbl k1.undrew.size) (fun h => hnb _ h rfl)).trans ((k1.cell (p := ⟨S, 2, none⟩) hbl (fun h => hns _ h rfl)).trans c2), (k2.cell (p := ⟨S, 3, none⟩) (Nat.lt_of_lt_of_le hbl k1.undrew.size) (fun h => hnb _ h rfl)).trans ((k1.cell (p := ⟨S, 3, none⟩) hbl (fun h => hns _ h rfl)).trans c3)⟩
      | exact ⟨(k1.cell (p := ⟨S, 1, none⟩) hbl (fun h => hns _ h rfl)).trans c1, (k1.cell (p := ⟨S, 2, none⟩) hbl (fun h => hns _ h rfl)).trans c2, (k1.cell (p := ⟨S, 3, none⟩) hbl (fun h => hns _ h rfl)).trans c3⟩
      | fail)
    (first
      | (go_at_call 23; refine (HI.out _ (hb0.drewN _).hs).mono ?_; rintro e w1 ⟨rfl, s1, k1⟩)
      | (go_at_call 46; refine (HR.out _ (hb0.hr.kept k1.undrew (fun i h h' => hb0.dis i h' h))).mono ?_; rintro e w2 ⟨rfl, r2, k2⟩))
  refine NoPanic.normal ?_
  have Q := Lib.hid (HB.out.step k0 s1 k1.undrew r2 k2)
  clear s1 k1 r2 k2 hb0
  go_wp2
  go_ret
  exact ⟨rfl, played_of Q.out⟩

set_option maxRecDepth 100000 in
set_option maxHeartbeats 4000000 in
theorem play_abs (i : Int) (t cy : Nat) (_ : (Lit.int .i64 i).wf = true) (ht : t ≤ 4294967295) (_ : cy ≤ 4294967295) (hB : Both w s b v u nm bs m n x l) :
    Calls Try.prog 31 #[.pointer (some ⟨s, 0, none⟩), .pointer (some ⟨b, 0, none⟩), .agg #[.int .i64 2, .int .i64 i, .int .u32 t, .int .u32 cy]] w fun e w' => e = .returned (.bool true) ∧ Played w s b v u w' := by
  have k0 := (Kept.refl (fun _ => False) w).alloc (.cells #[.int .i64 2, .int .i64 i, .int .u32 t, .int .u32 cy] 47)
  have hbx := boxed w 2 i t cy
  have c0 := hbx.cell 0 rfl
  have c1 := hbx.cell 1 rfl
  have c2 := hbx.cell 2 rfl
  have c3 := hbx.cell 3 rfl
  have hB0 := hB.kept k0 (fun _ _ h => h)
  have hlt := hB.lt
  have hfine := hB.hs.2.2.2
  have hlen := hfine.hlen
  have hm := hfine.hmost
  have hxm := hfine.hvalue
  have hns : ∀ i, foot s v i → ¬ i = w.heap.size := fun i h e => by have := hlt i (Or.inl h); omega
  have hnb : ∀ i, foot b u i → ¬ i = w.heap.size := fun i h e => by have := hlt i (Or.inr h); omega
  have hI := fun (w1 : World) (hs : IsClk w1 s v m n x l) => abs_all i t cy ht hs
  have hR := fun (w1 : World) (hr : CR.IsRef w1 b u nm bs m n x l) => CR.abs_all i t cy ht hm hxm hr
  obtain ⟨A, hA⟩ : ∃ A, putL l i (decide (t ≤ m) && cycB n m cy) (until' m x t) cy = A := ⟨_, rfl⟩
  simp only [hA] at hI hR
  clear hA
  obtain ⟨l', r⟩ := A
  dsimp only at hI hR
  have HI := Lib.hid hI
  have HR := Lib.hid hR
  have HB := Lib.hid hB
  have HB0 := Lib.hid hB0
  clear hB hB0 hI hR
  go_enter Try.func31, Try.ntmps31
  go_upto_region 5 with fail
  obtain ⟨w0, hw0⟩ : ∃ w0, w.alloc (.cells #[.int .i64 2, .int .i64 i, .int .u32 t, .int .u32 cy] 47) = w0 := ⟨_, rfl⟩
  have hb0 := HB0.out
  have hbl := hbx.lt
  rw [hw0] at c1 c2 c3 k0 hb0 hbl ⊢
  clear hw0 HB0 c0 hbx
  obtain ⟨S, hS⟩ : ∃ S, w.heap.size = S := ⟨_, rfl⟩
  simp only [hS] at c1 c2 c3 hns hnb hbl ⊢
  refine wp_region_noPanic ?_
  go_region_held3 (fun w' => w'.cell? ⟨S, 1, none⟩ = some (.int .i64 i) ∧ w'.cell? ⟨S, 2, none⟩ = some (.int .u32 t) ∧ w'.cell? ⟨S, 3, none⟩ = some (.int .u32 cy))
    (first
      | (simp [*]; done)
      | exact ⟨(k2.cell (p := ⟨S, 1, none⟩) (Nat.lt_of_lt_of_le hbl k1.undrew.size) (fun h => hnb _ h rfl)).trans ((k1.cell (p := ⟨S, 1, none⟩) hbl (fun h => hns _ h rfl)).trans c1), (k2.cell (p := ⟨S, 2, none⟩) (Nat.lt_of_lt_of_le hbl k1.undrew.size) (fun h => hnb _ h rfl)).trans ((k1.cell (p := ⟨S, 2, none⟩) hbl (fun h => hns _ h rfl)).trans c2), (k2.cell (p := ⟨S, 3, none⟩) (Nat.lt_of_lt_of_le hbl k1.undrew.size) (fun h => hnb _ h rfl)).trans ((k1.cell (p := ⟨S, 3, none⟩) hbl (fun h => hns _ h rfl)).trans c3)⟩
      | exact ⟨(k1.cell (p := ⟨S, 1, none⟩) hbl (fun h => hns _ h rfl)).trans c1, (k1.cell (p := ⟨S, 2, none⟩) hbl (fun h => hns _ h rfl)).trans c2, (k1.cell (p := ⟨S, 3, none⟩) hbl (fun h => hns _ h rfl)).trans c3⟩
      | fail)
    (first
      | (go_at_call 22; refine (HI.out _ (hb0.drewN _).hs).mono ?_; rintro e w1 ⟨rfl, s1, k1⟩)
      | (go_at_call 47; refine (HR.out _ (hb0.hr.kept k1.undrew (fun i h h' => hb0.dis i h' h))).mono ?_; rintro e w2 ⟨rfl, r2, k2⟩))
  refine NoPanic.normal ?_
  have Q := Lib.hid (HB.out.step k0 s1 k1.undrew r2 k2)
  clear s1 k1 r2 k2 hb0
  go_wp2
  go_ret
  exact ⟨rfl, played_of Q.out⟩

set_option maxRecDepth 100000 in
set_option maxHeartbeats 4000000 in
theorem play_set (i : Int) (t cy : Nat) (_ : (Lit.int .i64 i).wf = true) (ht : t ≤ 4294967295) (_ : cy ≤ 4294967295) (hB : Both w s b v u nm bs m n x l) :
    Calls Try.prog 31 #[.pointer (some ⟨s, 0, none⟩), .pointer (some ⟨b, 0, none⟩), .agg #[.int .i64 3, .int .i64 i, .int .u32 t, .int .u32 cy]] w fun e w' => e = .returned (.bool true) ∧ Played w s b v u w' := by
  have k0 := (Kept.refl (fun _ => False) w).alloc (.cells #[.int .i64 3, .int .i64 i, .int .u32 t, .int .u32 cy] 47)
  have hbx := boxed w 3 i t cy
  have c0 := hbx.cell 0 rfl
  have c1 := hbx.cell 1 rfl
  have c2 := hbx.cell 2 rfl
  have c3 := hbx.cell 3 rfl
  have hB0 := hB.kept k0 (fun _ _ h => h)
  have hlt := hB.lt
  have hfine := hB.hs.2.2.2
  have hlen := hfine.hlen
  have hm := hfine.hmost
  have hxm := hfine.hvalue
  have hns : ∀ i, foot s v i → ¬ i = w.heap.size := fun i h e => by have := hlt i (Or.inl h); omega
  have hnb : ∀ i, foot b u i → ¬ i = w.heap.size := fun i h e => by have := hlt i (Or.inr h); omega
  have hI := fun (w1 : World) (hs : IsClk w1 s v m n x l) => set_all i t cy ht hs
  have hR := fun (w1 : World) (hr : CR.IsRef w1 b u nm bs m n x l) => CR.set_all i t cy ht hm hr
  obtain ⟨A, hA⟩ : ∃ A, putL l i (decide (1 ≤ t) && decide (t ≤ m + 1) && decide (cy ≤ m)) t cy = A := ⟨_, rfl⟩
  simp only [hA] at hI hR
  clear hA
  obtain ⟨l', r⟩ := A
  dsimp only at hI hR
  have HI := Lib.hid hI
  have HR := Lib.hid hR
  have HB := Lib.hid hB
  have HB0 := Lib.hid hB0
  clear hB hB0 hI hR
  go_enter Try.func31, Try.ntmps31
  go_upto_region 7 with fail
  obtain ⟨w0, hw0⟩ : ∃ w0, w.alloc (.cells #[.int .i64 3, .int .i64 i, .int .u32 t, .int .u32 cy] 47) = w0 := ⟨_, rfl⟩
  have hb0 := HB0.out
  have hbl := hbx.lt
  rw [hw0] at c1 c2 c3 k0 hb0 hbl ⊢
  clear hw0 HB0 c0 hbx
  obtain ⟨S, hS⟩ : ∃ S, w.heap.size = S := ⟨_, rfl⟩
  simp only [hS] at c1 c2 c3 hns hnb hbl ⊢
  refine wp_region_noPanic ?_
  go_region_held3 (fun w' => w'.cell? ⟨S, 1, none⟩ = some (.int .i64 i) ∧ w'.cell? ⟨S, 2, none⟩ = some (.int .u32 t) ∧ w'.cell? ⟨S, 3, none⟩ = some (.int .u32 cy))
    (first
      | (simp [*]; done)
      | exact ⟨(k2.cell (p := ⟨S, 1, none⟩) (Nat.lt_of_lt_of_le hbl k1.undrew.size) (fun h => hnb _ h rfl)).trans ((k1.cell (p := ⟨S, 1, none⟩) hbl (fun h => hns _ h rfl)).trans c1), (k2.cell (p := ⟨S, 2, none⟩) (Nat.lt_of_lt_of_le hbl k1.undrew.size) (fun h => hnb _ h rfl)).trans ((k1.cell (p := ⟨S, 2, none⟩) hbl (fun h => hns _ h rfl)).trans c2), (k2.cell (p := ⟨S, 3, none⟩) (Nat.lt_of_lt_of_le hbl k1.undrew.size) (fun h => hnb _ h rfl)).trans ((k1.cell (p := ⟨S, 3, none⟩) hbl (fun h => hns _ h rfl)).trans c3)⟩
      | exact ⟨(k1.cell (p := ⟨S, 1, none⟩) hbl (fun h => hns _ h rfl)).trans c1, (k1.cell (p := ⟨S, 2, none⟩) hbl (fun h => hns _ h rfl)).trans c2, (k1.cell (p := ⟨S, 3, none⟩) hbl (fun h => hns _ h rfl)).trans c3⟩
      | fail)
    (first
      | (go_at_call 34; refine (HI.out _ (hb0.drewN _).hs).mono ?_; rintro e w1 ⟨rfl, s1, k1⟩)
      | (go_at_call 48; refine (HR.out _ (hb0.hr.kept k1.undrew (fun i h h' => hb0.dis i h' h))).mono ?_; rintro e w2 ⟨rfl, r2, k2⟩))
  refine NoPanic.normal ?_
  have Q := Lib.hid (HB.out.step k0 s1 k1.undrew r2 k2)
  clear s1 k1 r2 k2 hb0
  go_wp2
  go_ret
  exact ⟨rfl, played_of Q.out⟩

set_option maxRecDepth 100000 in
set_option maxHeartbeats 4000000 in
theorem play_cancel (i : Int) (t cy : Nat) (_ : (Lit.int .i64 i).wf = true) (_ : t ≤ 4294967295) (_ : cy ≤ 4294967295) (hB : Both w s b v u nm bs m n x l) :
    Calls Try.prog 31 #[.pointer (some ⟨s, 0, none⟩), .pointer (some ⟨b, 0, none⟩), .agg #[.int .i64 4, .int .i64 i, .int .u32 t, .int .u32 cy]] w fun e w' => e = .returned (.bool true) ∧ Played w s b v u w' := by
  have k0 := (Kept.refl (fun _ => False) w).alloc (.cells #[.int .i64 4, .int .i64 i, .int .u32 t, .int .u32 cy] 47)
  have hbx := boxed w 4 i t cy
  have c0 := hbx.cell 0 rfl
  have c1 := hbx.cell 1 rfl
  have c2 := hbx.cell 2 rfl
  have c3 := hbx.cell 3 rfl
  have hB0 := hB.kept k0 (fun _ _ h => h)
  have hlt := hB.lt
  have hfine := hB.hs.2.2.2
  have hlen := hfine.hlen
  have hm := hfine.hmost
  have hxm := hfine.hvalue
  have hns : ∀ i, foot s v i → ¬ i = w.heap.size := fun i h e => by have := hlt i (Or.inl h); omega
  have hnb : ∀ i, foot b u i → ¬ i = w.heap.size := fun i h e => by have := hlt i (Or.inr h); omega
  have hI := fun (w1 : World) (hs : IsClk w1 s v m n x l) => cancel_all i hs
  have hR := fun (w1 : World) (hr : CR.IsRef w1 b u nm bs m n x l) => CR.cancel_all i hr
  obtain ⟨A, hA⟩ : ∃ A, cancelL l i = A := ⟨_, rfl⟩
  simp only [hA] at hI hR
  clear hA
  obtain ⟨l', r⟩ := A
  dsimp only at hI hR
  have HI := Lib.hid hI
  have HR := Lib.hid hR
  have HB := Lib.hid hB
  have HB0 := Lib.hid hB0
  clear hB hB0 hI hR
  go_enter Try.func31, Try.ntmps31
  go_upto_region 9 with fail
  obtain ⟨w0, hw0⟩ : ∃ w0, w.alloc (.cells #[.int .i64 4, .int .i64 i, .int .u32 t, .int .u32 cy] 47) = w0 := ⟨_, rfl⟩
  have hb0 := HB0.out
  have hbl := hbx.lt
  rw [hw0] at c1 c2 c3 k0 hb0 hbl ⊢
  clear hw0 HB0 c0 hbx
  obtain ⟨S, hS⟩ : ∃ S, w.heap.size = S := ⟨_, rfl⟩
  simp only [hS] at c1 c2 c3 hns hnb hbl ⊢
  refine wp_region_noPanic ?_
  go_region_held3 (fun w' => w'.cell? ⟨S, 1, none⟩ = some (.int .i64 i))
    (first
      | (simp [*]; done)
      | exact (k2.cell (p := ⟨S, 1, none⟩) (Nat.lt_of_lt_of_le hbl k1.undrew.size) (fun h => hnb _ h rfl)).trans ((k1.cell (p := ⟨S, 1, none⟩) hbl (fun h => hns _ h rfl)).trans c1)
      | exact (k1.cell (p := ⟨S, 1, none⟩) hbl (fun h => hns _ h rfl)).trans c1
      | fail)
    (first
      | (go_at_call 25; refine (HI.out _ (hb0.drewN _).hs).mono ?_; rintro e w1 ⟨rfl, s1, k1⟩)
      | (go_at_call 49; refine (HR.out _ (hb0.hr.kept k1.undrew (fun i h h' => hb0.dis i h' h))).mono ?_; rintro e w2 ⟨rfl, r2, k2⟩))
  refine NoPanic.normal ?_
  have Q := Lib.hid (HB.out.step k0 s1 k1.undrew r2 k2)
  clear s1 k1 r2 k2 hb0
  go_wp2
  go_ret
  exact ⟨rfl, played_of Q.out⟩

set_option maxRecDepth 100000 in
set_option maxHeartbeats 4000000 in
theorem play_reset (i : Int) (t cy : Nat) (_ : (Lit.int .i64 i).wf = true) (_ : t ≤ 4294967295) (_ : cy ≤ 4294967295) (hB : Both w s b v u nm bs m n x l) :
    Calls Try.prog 31 #[.pointer (some ⟨s, 0, none⟩), .pointer (some ⟨b, 0, none⟩), .agg #[.int .i64 7, .int .i64 i, .int .u32 t, .int .u32 cy]] w fun e w' => e = .returned (.bool true) ∧ Played w s b v u w' := by
  have k0 := (Kept.refl (fun _ => False) w).alloc (.cells #[.int .i64 7, .int .i64 i, .int .u32 t, .int .u32 cy] 47)
  have hbx := boxed w 7 i t cy
  have c0 := hbx.cell 0 rfl
  have c1 := hbx.cell 1 rfl
  have c2 := hbx.cell 2 rfl
  have c3 := hbx.cell 3 rfl
  have hB0 := hB.kept k0 (fun _ _ h => h)
  have hlt := hB.lt
  have hfine := hB.hs.2.2.2
  have hlen := hfine.hlen
  have hm := hfine.hmost
  have hxm := hfine.hvalue
  have hns : ∀ i, foot s v i → ¬ i = w.heap.size := fun i h e => by have := hlt i (Or.inl h); omega
  have hnb : ∀ i, foot b u i → ¬ i = w.heap.size := fun i h e => by have := hlt i (Or.inr h); omega
  have hI := fun (w1 : World) (hs : IsClk w1 s v m n x l) => reset_ok hs
  have hR := fun (w1 : World) (hr : CR.IsRef w1 b u nm bs m n x l) => CR.reset_ok hlen hr
  have HI := Lib.hid hI
  have HR := Lib.hid hR
  have HB := Lib.hid hB
  have HB0 := Lib.hid hB0
  clear hB hB0 hI hR
  go_enter Try.func31, Try.ntmps31
  go_wp2_with fail
  refine (HI.out _ HB0.out.hs).mono ?_
  rintro e w1 ⟨rfl, s1, k1⟩
  have r1 := HB0.out.hr.kept k1 (fun i h h' => HB0.out.dis i h' h)
  have z1 := k1.size
  have z0 := k0.size
  go_wp2_with fail
  refine (HR.out _ r1).mono ?_
  rintro e w2 ⟨u', rfl, r2, hf, k2⟩
  have hsb : ∀ i, foot s v i → i ≠ b := fun i h e => HB.out.dis i h (by rw [e]; exact Or.inl rfl)
  have Q : Played w s b v u w2 := by
    refine ⟨u', nm, bs, m, n, 0, _, ⟨s1.kept k2 (fun i h e => hsb i h e), r2, fun i h h' => ?_⟩, ((k0.mono (fun _ _ h => h.elim)).then k1 (fun _ h => Or.inl (Or.inl h))).then k2 (fun i h => Or.inl (Or.inr (by rw [h]; exact Or.inl rfl))), fun i h => ?_⟩
    · rcases hf i h' with e | e
      · exact hsb i h e
      · have := hlt i (Or.inl h); omega
    · rcases h with h | h
      · exact Or.inl (Or.inl h)
      · rcases hf i h with e | e
        · exact Or.inl (Or.inr (by rw [e]; exact Or.inl rfl))
        · exact Or.inr (by omega)
  have Q := Lib.hid Q
  clear s1 k1 r1 r2 k2 hf
  go_wp2
  go_ret
  exact ⟨rfl, Q.out⟩

set_option maxRecDepth 100000 in
set_option maxHeartbeats 2000000 in
theorem play_other (k i : Int) (t cy : Nat) (hB : Both w s b v u nm bs m n x l) (h1 : ¬ k = 1) (h2 : ¬ k = 2) (h3 : ¬ k = 3) (h4 : ¬ k = 4) (h5 : ¬ k = 5) (h6 : ¬ k = 6) (h7 : ¬ k = 7) :
    Calls Try.prog 31 #[.pointer (some ⟨s, 0, none⟩), .pointer (some ⟨b, 0, none⟩), .agg #[.int .i64 k, .int .i64 i, .int .u32 t, .int .u32 cy]] w fun e w' => e = .returned (.bool true) ∧ Played w s b v u w' := by
  have hbx := boxed w k i t cy
  have c0 := hbx.cell 0 rfl
  go_enter Try.func31, Try.ntmps31
  go_wp2
  go_ret
  exact ⟨rfl, hB.played ((Kept.refl _ _).alloc _)⟩
end
end Go.Proofs.Ytialldmepphloaa.L
