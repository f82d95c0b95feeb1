/- tappetlaw16: play, Tick and Coming. -/
import Derived.Test.YtialldmepphloaaCkM
namespace Go.Proofs.Ytialldmepphloaa.L
open Go.RowKit Go.Fr Go.Proofs.Ytialldmepphloaa.CK

/-- a row of the law's own, being written over -/
structure Sc (w wr : World) (e : TypeId) (sz : Nat) (v : Value) (n : Nat) : Prop where
  row : ∃ ys, Row wr e sz v n ys
  own : ∀ g, v.ownBlock = some g → w.heap.size ≤ g
  kept : Kept (fun i => w.heap.size ≤ i) w wr

theorem Sc.set {w wr : World} {e : TypeId} {g n c : Nat} (h : Sc w wr e 1 (.slice (some ⟨g, 0, none⟩) n c) n) (k : Nat) (u : Value) : Sc w (wr.setCell ⟨g, k, none⟩ u) e 1 (.slice (some ⟨g, 0, none⟩) n c) n := by
  obtain ⟨ys, hr⟩ := h.row
  exact ⟨⟨_, row_set hr k u⟩, h.own, h.kept.setCell (p := ⟨g, k, none⟩) (Or.inl (h.own g rfl)) _⟩
theorem Sc.form {w wr : World} {e : TypeId} {n k : Nat} {v : Value} (h : Sc w wr e 1 v n) (hk : k < n) : ∃ g c, v = .slice (some ⟨g, 0, none⟩) n c ∧ wr.frozen? ⟨g, k, none⟩ = false ∧ ∃ y, wr.cell? ⟨g, k, none⟩ = some y := by
  obtain ⟨ys, hr⟩ := h.row
  rcases row_forms hr with ⟨_, h0⟩ | ⟨g, c, rfl, _⟩
  · omega
  · have hl : k < ys.length := by rw [hr.1]; omega
    exact ⟨g, c, rfl, row_frozen hr k, _, row_cell hr k (List.getElem?_eq_getElem hl)⟩

section
variable {w : World} {s b : Nat} {v u : Value} {nm : ByteArray} {bs m n x : Nat} {l : List (Bool × Nat × Nat)}

set_option maxRecDepth 100000 in
set_option maxHeartbeats 4000000 in
theorem play_tick (i : Int) (t cy : Nat) (hB : Both w s b v u nm bs m n x l) :
    Calls Try.prog 31 #[.pointer (some ⟨s, 0, none⟩), .pointer (some ⟨b, 0, none⟩), .agg #[.int .i64 5, .int .i64 i, .int .u32 t, .int .u32 cy]] w fun e w' => e = .returned (.bool true) ∧ Played w s b v u w' := by
  obtain ⟨i0, hi, hz0, hz1, hz2⟩ := info_parts info_i
  have k0 := (Kept.refl (fun _ => False) w).alloc (.cells #[.int .i64 5, .int .i64 i, .int .u32 t, .int .u32 cy] 47)
  have c0 := (boxed w 5 i t cy).cell 0 rfl
  have hB0 := hB.kept k0 (fun _ _ h => h)
  have hlt := hB.lt
  have hfn := hB.hs.2.2.2
  have hlen := hfn.hlen
  have hxm := hfn.hvalue
  have hI := tick_ok hB0.hs
  have hR := fun (w1 : World) (hr : CR.IsRef w1 b u nm bs m n x l) => CR.tick_ok hr hfn
  have hfl := fired_length l 0
  obtain ⟨xs, hxs⟩ : ∃ xs, fired l 0 = xs := ⟨_, rfl⟩
  simp only [hxs] at hI hR
  rw [hxs] at hfl
  obtain ⟨x', hx'⟩ : ∃ x', after m x 1 = x' := ⟨_, rfl⟩
  simp only [hx'] at hI hR
  obtain ⟨l', hl'⟩ : ∃ l', l.map tick1 = l' := ⟨_, rfl⟩
  simp only [hl'] at hI hR
  clear hxs hx' hl' hfn
  have HI := Lib.hid hI
  have HR := Lib.hid hR
  have HB := Lib.hid hB
  have HB0 := Lib.hid hB0
  clear hB hB0 hI hR
  go_enter Try.func31, Try.ntmps31
  go_wp2_with fail
  refine HI.out.mono ?_
  rintro e w1 ⟨ao1, d1, rfl, s1, k1, r1, o1⟩
  have hr1 := HB0.out.hr.kept k1 (fun i h h' => HB0.out.dis i h' h)
  go_wp2_with fail
  refine (HR.out _ hr1).mono ?_
  rintro e w2 ⟨ao2, d2, rfl, s2, k2, r2, o2⟩
  have z0 := k0.size
  have z1 := k1.size
  have z2 := k2.size
  have q1 := row_kept r1 k2 (fun g hg h => by
    have h1 := o1 g hg
    have h2 := hlt g (Or.inr h)
    omega)
  have Q := Lib.hid (HB.out.step k0 s1 k1 s2 k2)
  have F1 : Hid (∀ g, (Value.slice ao1 xs.length d1).ownBlock = some g → w.heap.size ≤ g) := fun g hg => by have := o1 g hg; omega
  have HQ1 := Lib.hid q1
  have Z : Hid (w.heap.size ≤ w2.heap.size) := show _ ≤ _ by omega
  clear s1 s2 k1 k2 hr1 o1 o2 r1 z0 z1 z2 q1
  go_wp2_with fail
  refine (ints_ok HQ1.out r2).mono ?_
  rintro e w3 ⟨rfl, k3⟩
  have K3 := Lib.hid k3
  have q3 := row_kept HQ1.out k3 (fun _ _ h => h)
  have Q3 := Lib.hid q3
  clear r2 k3 q3 HQ1 c0
  go_wp2_with fail
  go_loopw [9] (fun j wr => ∃ k : Nat, k ≤ xs.length ∧ j = .int .i64 k ∧ Hid ((∃ ys, Row wr 3 1 (.slice ao1 xs.length d1) xs.length ys) ∧ Kept (fun i => w.heap.size ≤ i) w3 wr)) (fun j _ => xs.length - (intOf j).toNat)
  case atStart => exact ⟨0, Nat.zero_le _, rfl, ⟨⟨_, Q3.out⟩, Kept.refl _ _⟩⟩
  case round =>
    clear Q3
    obtain ⟨k, hk, rfl, hK⟩ := hrel
    by_cases hkl : k < xs.length
    · obtain ⟨⟨ys, hr⟩, kk⟩ := hK.out
      have hk0 : (0 : Int) ≤ (k : Int) := by omega
      have hk1 : (k : Int) < (xs.length : Int) := by omega
      rcases row_forms hr with ⟨_, h0⟩ | ⟨g, c, hv, _⟩
      · omega
      cases hv
      have hyl : k < ys.length := by rw [hr.1]; omega
      have z1 := row_frozen hr k
      have z2 := row_cell hr k (List.getElem?_eq_getElem hyl)
      have hr2 := row_set hr k (.int .i64 (-1))
      have kk2 := kk.setCell (p := ⟨g, k, none⟩) (Or.inl (F1.out g rfl)) (.int .i64 (-1))
      have HN : Hid ((∃ ys, Row (wr.setCell ⟨g, k, none⟩ (.int .i64 (-1))) 3 1 (.slice (some ⟨g, 0, none⟩) xs.length d1) xs.length ys) ∧ Kept (fun i => w.heap.size ≤ i) w3 (wr.setCell ⟨g, k, none⟩ (.int .i64 (-1)))) := ⟨⟨_, hr2⟩, kk2⟩
      clear hr hr2 kk kk2 hK
      go_wp2
      go_roundw
      case rel => exact ⟨k + 1, by omega, by go_num, HN⟩
      case measure => simp [intOf]; omega
    · obtain rfl : k = xs.length := by omega
      go_wp2_with fail
      go_loopw [7, 10] (fun r j wr' => ∃ (k : Nat) (ao : Option Addr) (c : Nat), k ≤ 40 ∧ j = .int .i64 k ∧ r = .slice ao (xs.length + k) c ∧ Hid ((∃ ys, Row wr' 3 1 (.slice ao (xs.length + k) c) (xs.length + k) ys) ∧ Kept (fun i => w.heap.size ≤ i) w3 wr' ∧ ∀ g, (Value.slice ao (xs.length + k) c).ownBlock = some g → w.heap.size ≤ g)) (fun _ j _ => 40 - (intOf j).toNat)
      case atStart => exact ⟨0, ao1, d1, by omega, rfl, rfl, ⟨hK.out.1, hK.out.2, F1.out⟩⟩
      case round =>
        clear hK
        obtain ⟨k, ao, c, hk2, rfl, rfl, hK⟩ := hrel
        by_cases hkl2 : k < 40
        · have hk1 : (k : Int) < 40 := by omega
          obtain ⟨N, hN⟩ : ∃ N, xs.length + k = N := ⟨_, rfl⟩
          have HN := Lib.hid hN
          have hN2 : N ≤ 200 := by omega
          rw [hN] at hK ⊢
          clear hN
          obtain ⟨⟨ys, hr⟩, kk, ho⟩ := hK.out
          clear hK
          go_wp2_with ((at_builtin; refine wpList_append_any rfl (.tmp 105) (.tmp 106) 39 rfl 3 i0 (.int .i64 0) 1 8 Try.underlying39 hi hz0 hz1 hz2 rfl (by decide) _ _ _ ys rfl ?hrow _ 1 1 [.int .i64 (-2)] rfl ?hnew (by simp [Value.oneCell']) ?b1 ?b2 ?_))
          case hrow => exact row_alloc hr _
          case hnew => exact shows_new _ [_] _ (by simp) rfl
          case b1 => unfold maxLen; omega
          case b2 => omega
          intro ao3 c3 wc r1 r2 r3
          have kc := (kk.alloc _).grown r2 (fun i e => Or.inl (ho i e))
          have z1 := kk.size
          have z3 := K3.out.size
          have zz := Z.out
          have ho3 : ∀ g, (Value.slice ao3 (N + 1) c3).ownBlock = some g → w.heap.size ≤ g := fun g hg => (r3 g hg).elim (fun h => ho g h) (fun h => by omega)
          have HN2 : Hid ((∃ ys, Row wc 3 1 (.slice ao3 (N + 1) c3) (N + 1) ys) ∧ Kept (fun i => w.heap.size ≤ i) w3 wc ∧ ∀ g, (Value.slice ao3 (N + 1) c3).ownBlock = some g → w.heap.size ≤ g) := ⟨⟨_, r1⟩, kc, ho3⟩
          have hNN : xs.length + (k + 1) = N + 1 := by have := HN.out; omega
          clear r1 r2 r3 kc ho3 hr kk ho
          go_wp2
          go_roundw
          case rel => exact ⟨k + 1, ao3, c3, by omega, by go_num, by rw [hNN], by rw [hNN]; exact HN2⟩
          case measure => simp [intOf]; omega
        · obtain rfl : k = 40 := by omega
          have kk := hK.out.2.1
          have hQ := Q.out
          have KK := Lib.hid kk
          clear kk hK hQ
          go_wp2
          go_ret
          have hb3 := (Q.out.1.kept K3.out (fun _ _ h => h))
          have kw := Q.out.2.then K3.out (fun _ h => False.elim h)
          refine ⟨rfl, played_of ⟨hb3.kept KK.out (fun i h h' => by have := hlt i h; omega), kw.then KK.out (fun i h => Or.inr h)⟩⟩
end
end Go.Proofs.Ytialldmepphloaa.L
