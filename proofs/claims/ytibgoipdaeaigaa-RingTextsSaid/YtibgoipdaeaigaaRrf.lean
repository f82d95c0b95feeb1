/- Contracts of the document's ring (tappetref12): a list of numbers, the first one first. -/
import Derived.Test.YtibgoipdaeaigaaRngV
namespace Go.Proofs.Ytibgoipdaeaigaa.RR
open Go.RowKit Go.Fr Go.Proofs.Ytibgoipdaeaigaa.RI

def IsRef (w : World) (b : Nat) (v : Value) (m : Bool) (d h : Int) (l : List Int) : Prop :=
  Blk w b [.bool m, .int .i64 d, v, .int .i64 h] 37 ∧ Row w 3 1 v l.length (l.map (Value.int .i64)) ∧ v.ownBlock ≠ some b ∧ l.length ≤ 2147483647

theorem IsRef.kept {w w' : World} {b : Nat} {v : Value} {m : Bool} {d h : Int} {l : List Int} {S : Nat → Prop} (hs : IsRef w b v m d h l) (k : Kept S w w') (hn : ∀ i, foot b v i → ¬ S i) : IsRef w' b v m d h l :=
  ⟨hs.1.kept k (hn _ (Or.inl rfl)), row_kept hs.2.1 k (fun g hg => hn _ (Or.inr hg)), hs.2.2⟩
theorem IsRef.lt {w : World} {b : Nat} {v : Value} {m : Bool} {d h : Int} {l : List Int} (hs : IsRef w b v m d h l) : ∀ i, foot b v i → i < w.heap.size := by
  rintro i (rfl | hi)
  · exact hs.1.lt
  · exact row_lt hs.2.1 hi
theorem IsRef.drew {w : World} {b : Nat} {v : Value} {m : Bool} {d h : Int} {l : List Int} (n : Nat) (hs : IsRef w b v m d h l) : IsRef (w.drewN n) b v m d h l := hs

theorem new_ok (d : Nat) (w : World) (h1 : d ≤ 65536) : Calls Try.prog 13 #[.int .i64 d] w fun e w' =>
   e = .returned (.tuple #[.pointer (some ⟨w.heap.size, 0, none⟩), .int .i64 0]) ∧ IsRef w' w.heap.size (.slice none 0 0) true d 0 [] ∧ Kept (fun _ => False) w w' ∧ w.heap.size < w'.heap.size := by
  have h0 : ¬ (d : Int) < 0 := by omega
  have h2 : ¬ (65536 : Int) < d := by omega
  go_enter Try.func13, Try.ntmps13
  go_wp2
  go_ret2
  refine ⟨rfl, ⟨Blk.new _ _ _, World.ownsRow_nil _ _ _ _, by simp [Value.ownBlock], by simp⟩, (Kept.refl _ _).alloc _, by simp⟩

theorem new_no (d : Int) (w : World) (h : d < 0 ∨ 65536 < d) : Calls Try.prog 13 #[.int .i64 d] w fun e w' =>
   e = .returned (.tuple #[.pointer (some ⟨w.heap.size, 0, none⟩), .int .i64 120]) ∧ IsRef w' w.heap.size (.slice none 0 0) false 0 0 [] ∧ Kept (fun _ => False) w w' ∧ w.heap.size < w'.heap.size := by
  rcases h with h | h
  · go_enter Try.func13, Try.ntmps13
    go_wp2
    go_ret2
    refine ⟨rfl, ⟨Blk.new _ _ _, World.ownsRow_nil _ _ _ _, by simp [Value.ownBlock], by simp⟩, (Kept.refl _ _).alloc _, by simp⟩
  · have h' : ¬ d < 0 := by omega
    go_enter Try.func13, Try.ntmps13
    go_wp2
    go_ret2
    refine ⟨rfl, ⟨Blk.new _ _ _, World.ownsRow_nil _ _ _ _, by simp [Value.ownBlock], by simp⟩, (Kept.refl _ _).alloc _, by simp⟩

section
variable {w : World} {b : Nat} {v : Value} {m : Bool} {d h : Int} {l : List Int}

theorem put_nil (x : Int) (q : Bool) (hs : IsRef w b v false d h l) : Calls Try.prog 16 #[.pointer (some ⟨b, 0, none⟩), .int .i64 x, .bool q] w fun e w' => e = .returned (.int .i64 1) ∧ w = w' := by
  have c0 := hs.1.cell 0 rfl
  go_enter Try.func16, Try.ntmps16
  go_wp2
  go_ret
  exact ⟨rfl, rfl⟩

set_option maxRecDepth 100000 in
theorem put_full (x : Int) (q : Bool) (hs : IsRef w b v true d h l) (hd : d ≤ l.length) : Calls Try.prog 16 #[.pointer (some ⟨b, 0, none⟩), .int .i64 x, .bool q] w fun e w' => e = .returned (.int .i64 121) ∧ ∃ n, w' = w.drewN n := by
  have c0 := hs.1.cell 0 rfl
  have c1 := hs.1.cell 1 rfl
  have c2 := hs.1.cell 2 rfl
  obtain ⟨ao, c, rfl, hc⟩ := row_any hs.2.1
  go_enter Try.func16, Try.ntmps16
  go_wp2
  go_quiet (fail)
  go_wp2
  go_ret
  exact ⟨rfl, _, rfl⟩

/-- the end of Put: the new list is stored, and the high told anew -/
theorem put_end {w2 w3 : World} {ao : Option Addr} {c : Nat} {l' : List Int} (hb : Blk w2 b [.bool true, .int .i64 d, v, .int .i64 h] 37) (hr : Row w2 3 1 (.slice ao l'.length c) l'.length (l'.map (Value.int .i64)))
    (ho : (Value.slice ao l'.length c).ownBlock ≠ some b) (hn : l'.length ≤ 2147483647) (e : ∀ k : Nat, w3.heap[k]? = ((w2.setCell ⟨b, 2, none⟩ (.slice ao l'.length c)).setCell ⟨b, 3, none⟩ (.int .i64 (mxi h l'.length))).heap[k]?) :
    IsRef w3 b (.slice ao l'.length c) true d (mxi h l'.length) l' :=
  ⟨Blk.heap ((hb.set 2 _).set 3 _) (e _), row_heap (row_setCell_other (row_setCell_other hr (a := ⟨b, 2, none⟩) ho _) (a := ⟨b, 3, none⟩) ho _) (fun _ _ => e _), ho, hn⟩
theorem put_end' {w2 w3 : World} {ao : Option Addr} {c : Nat} {l' : List Int} (hb : Blk w2 b [.bool true, .int .i64 d, v, .int .i64 h] 37) (hr : Row w2 3 1 (.slice ao l'.length c) l'.length (l'.map (Value.int .i64)))
    (ho : (Value.slice ao l'.length c).ownBlock ≠ some b) (hn : l'.length ≤ 2147483647) (hm : ¬ h < l'.length) (e : ∀ k : Nat, w3.heap[k]? = (w2.setCell ⟨b, 2, none⟩ (.slice ao l'.length c)).heap[k]?) :
    IsRef w3 b (.slice ao l'.length c) true d (mxi h l'.length) l' := by
  rw [show mxi h l'.length = h from if_neg hm]
  exact ⟨Blk.heap (hb.set 2 _) (e _), row_heap (row_setCell_other hr (a := ⟨b, 2, none⟩) ho _) (fun _ _ => e _), ho, hn⟩

set_option maxRecDepth 100000 in
set_option maxHeartbeats 2000000 in
theorem put_last (x : Int) (hs : IsRef w b v true d h l) (hd : l.length < d) (hd2 : d ≤ 65536) : Calls Try.prog 16 #[.pointer (some ⟨b, 0, none⟩), .int .i64 x, .bool false] w fun e w' => e = .returned (.int .i64 0) ∧
    ∃ v', IsRef w' b v' true d (mxi h (l.length + 1)) (l ++ [x]) ∧ Kept (fun k => k = b) w w' ∧ (∀ i, foot b v' i → foot b v i ∨ w.heap.size ≤ i) := by
  have c0 := hs.1.cell 0 rfl
  have c1 := hs.1.cell 1 rfl
  have c2 := hs.1.cell 2 rfl
  have hlt := hs.1.lt
  obtain ⟨i0, hi, hz0, hz1, hz2⟩ := info_parts info
  obtain ⟨ao, c, rfl, hc⟩ := row_any hs.2.1
  have HS := Lib.hid hs
  clear hs
  go_enter Try.func16, Try.ntmps16
  go_wp2
  go_quiet (fail)
  go_wp2_with (at_builtin; refine wpList_append_any rfl (.tmp 28) (.tmp 32) 35 rfl 3 i0 (.int .i64 0) 1 8 Try.underlying35 hi hz0 hz1 hz2 rfl (by decide) none 0 0 [] rfl (World.ownsRow_nil _ _ _ _) ao l.length c (l.map (Value.int .i64)) rfl (HS.out.2.1.shows.heap (fun _ _ => rfl)) (ints_one l) (by unfold maxLen; omega) (by omega) ?_)
  intro ao1 c1' w1 r1 r2 r3
  try simp only [Nat.zero_add, List.nil_append] at r1 r3
  try rw [Nat.zero_add]
  have hk1 : Kept (fun _ => False) w w1 := ⟨r2.os, r2.tape, r2.output, r2.size, fun k hk _ => r2.block k hk (fun e => by cases e)⟩
  have hs1 := HS.out.kept hk1 (fun _ _ h => h)
  have hge : ∀ g, (Value.slice ao1 l.length c1').ownBlock = some g → w.heap.size ≤ g := fun g hg => (r3 g hg).elim (fun e => by cases e) id
  have HS1 := Lib.hid hs1
  have HK1 := Lib.hid hk1
  have HG := Lib.hid hge
  have HR1 := Lib.hid r1
  clear hs1 hk1 hge r1 r2 r3 c0 c1 c2
  go_wp2_with (at_builtin; refine wpList_append_any rfl (.tmp 36) (.tmp 38) 35 rfl 3 i0 (.int .i64 0) 1 8 Try.underlying35 hi hz0 hz1 hz2 rfl (by decide) _ _ _ (l.map (Value.int .i64)) rfl ?hrow _ 1 1 [.int .i64 x] rfl ?hnew (by simp [Value.oneCell']) (by unfold maxLen; omega) (by omega) ?_)
  case hrow => exact row_alloc HR1.out _
  case hnew => exact shows_new _ [_] _ (by simp) rfl
  intro ao2 c2' w2 r1 r2 r3
  obtain ⟨l', hl'⟩ : ∃ l', l ++ [x] = l' := ⟨_, rfl⟩
  have hlen : l.length + 1 = l'.length := by rw [← hl']; simp
  have hmap : l.map (Value.int .i64) ++ [.int .i64 x] = l'.map (Value.int .i64) := by rw [← hl']; simp
  have hlen2 : (l.length : Int) + 1 = (l'.length : Int) := by omega
  rw [hmap, hlen] at r1
  rw [hlen] at r3 ⊢
  have HL := Lib.hid hl'
  have HE := Lib.hid hlen2
  have hk2 : Kept (fun k => (Value.slice ao1 l.length c1').ownBlock = some k) w1 w2 := ((Kept.refl _ _).alloc _).grown r2 (fun k hk => Or.inl hk)
  have hb2 := HS1.out.1.kept hk2 (fun e => by have := HG.out _ e; omega)
  have hge2 : ∀ g, (Value.slice ao2 l'.length c2').ownBlock = some g → w.heap.size ≤ g := fun g hg => (r3 g hg).elim (HG.out g) (fun e => by have := HK1.out.size; first | omega | (simp at e; omega))
  have ho2 : (Value.slice ao2 l'.length c2').ownBlock ≠ some b := fun e => by have := hge2 _ e; omega
  have hkk : Kept (fun k => k = b) w w2 := (HK1.out.mono (fun _ _ e => e.elim)).then hk2 (fun i hi => Or.inr (HG.out i hi))
  have hn' : l'.length ≤ 65536 := by omega
  have HB2 := Lib.hid hb2
  have HG2 := Lib.hid hge2
  have HR2 := Lib.hid r1
  have HK2 := Lib.hid hkk
  have c2 := hb2.cell 2 rfl
  have c3 := hb2.cell 3 rfl
  have f2 := hb2.frozen 2
  have f3 := hb2.frozen 3
  clear hb2 hge2 r1 r2 r3 hkk hk2 hlen2 hmap hl' hlen
  have hft : ∀ i, foot b (.slice ao2 l'.length c2') i → foot b (.slice ao l.length c) i ∨ w.heap.size ≤ i := fun i hi => hi.elim (fun e => Or.inl (Or.inl e)) (fun e => Or.inr (HG2.out i e))
  have HF := Lib.hid hft
  clear hft
  by_cases hh : h < (l'.length : Int)
  · have hm : mxi h l'.length = (l'.length : Int) := if_pos hh
    have HM := Lib.hid hm
    clear hm
    go_wp2
    go_ret
    rw [HL.out, HE.out]
    refine ⟨rfl, _, put_end HB2.out HR2.out ho2 (by omega) ?_, ((HK2.out.set (b := b) 2 (Or.inl rfl) _).set (b := b) 3 (Or.inl rfl) _).same rfl rfl rfl rfl, HF.out⟩
    rw [HM.out]; exact fun _ => rfl
  · go_wp2
    go_ret
    rw [HL.out, HE.out]
    exact ⟨rfl, _, put_end' HB2.out HR2.out ho2 (by omega) (by omega) (fun _ => rfl), (HK2.out.set (b := b) 2 (Or.inl rfl) _).same rfl rfl rfl rfl, HF.out⟩
set_option maxRecDepth 100000 in
set_option maxHeartbeats 2000000 in
theorem put_first (x : Int) (hs : IsRef w b v true d h l) (hd : l.length < d) (hd2 : d ≤ 65536) : Calls Try.prog 16 #[.pointer (some ⟨b, 0, none⟩), .int .i64 x, .bool true] w fun e w' => e = .returned (.int .i64 0) ∧
    ∃ v', IsRef w' b v' true d (mxi h (l.length + 1)) (x :: l) ∧ Kept (fun k => k = b) w w' ∧ (∀ i, foot b v' i → foot b v i ∨ w.heap.size ≤ i) := by
  have c0 := hs.1.cell 0 rfl
  have c1 := hs.1.cell 1 rfl
  have c2 := hs.1.cell 2 rfl
  have hlt := hs.1.lt
  obtain ⟨i0, hi, hz0, hz1, hz2⟩ := info_parts info
  obtain ⟨ao, c, rfl, hc⟩ := row_any hs.2.1
  have HS := Lib.hid hs
  clear hs
  go_enter Try.func16, Try.ntmps16
  go_wp2
  go_quiet (fail)
  go_wp2_with (at_builtin; refine wpList_append_any rfl (.tmp 24) (.tmp 26) 35 rfl 3 i0 (.int .i64 0) 1 8 Try.underlying35 hi hz0 hz1 hz2 rfl (by decide) none 0 0 [] rfl (World.ownsRow_nil _ _ _ _) _ 1 1 [.int .i64 x] rfl ?hnew (by simp [Value.oneCell']) (by unfold maxLen; omega) (by omega) ?_)
  case hnew => exact shows_new _ [_] _ (by simp) rfl
  intro ao1 c1' w1 r1 r2 r3
  try simp only [Nat.zero_add, List.nil_append] at r1 r3
  try rw [Nat.zero_add]
  have hk1 : Kept (fun _ => False) w w1 := by
    have k0 : Kept (fun _ => False) w _ := ((Kept.refl (fun _ => False) w).drewN 1).alloc (.cells #[.int .i64 x] 3)
    have k1 : Kept (fun _ => False) ((w.drewN 1).alloc (.cells #[.int .i64 x] 3)) w1 := ⟨r2.os, r2.tape, r2.output, r2.size, fun k hk _ => r2.block k hk (fun e => by cases e)⟩
    exact k0.then k1 (fun _ h => h.elim)
  have hs1 := HS.out.kept hk1 (fun _ _ h => h)
  have hge : ∀ g, (Value.slice ao1 1 c1').ownBlock = some g → w.heap.size ≤ g := fun g hg => (r3 g hg).elim (fun e => by cases e) (fun e => by first | omega | (simp at e; omega))
  have HS1 := Lib.hid hs1
  have HK1 := Lib.hid hk1
  have HG := Lib.hid hge
  have HR1 := Lib.hid r1
  clear c0 c1 c2
  have c2 := hs1.1.cell 2 rfl
  clear hs1 hk1 hge r1 r2 r3
  go_wp2_with (at_builtin; refine wpList_append_any rfl (.tmp 28) (.tmp 32) 35 rfl 3 i0 (.int .i64 0) 1 8 Try.underlying35 hi hz0 hz1 hz2 rfl (by decide) _ _ _ [.int .i64 x] rfl HR1.out ao l.length c (l.map (Value.int .i64)) rfl HS1.out.2.1.shows (ints_one l) (by unfold maxLen; omega) (by omega) ?_)
  intro ao2 c2' w2 r1 r2 r3
  obtain ⟨l', hl'⟩ : ∃ l', x :: l = l' := ⟨_, rfl⟩
  have hlen : 1 + l.length = l'.length := by rw [← hl']; simp [Nat.add_comm]
  have hmap : Value.int .i64 x :: l.map (Value.int .i64) = l'.map (Value.int .i64) := by rw [← hl']; simp
  have hlen2 : (l.length : Int) + 1 = (l'.length : Int) := by omega
  rw [hmap, hlen] at r1
  rw [hlen] at r3 ⊢
  have HL := Lib.hid hl'
  have HE := Lib.hid hlen2
  have hk2 : Kept (fun k => (Value.slice ao1 1 c1').ownBlock = some k) w1 w2 := (Kept.refl _ _).grown r2 (fun k hk => Or.inl hk)
  have hb2 := HS1.out.1.kept hk2 (fun e => by have := HG.out _ e; omega)
  have hge2 : ∀ g, (Value.slice ao2 l'.length c2').ownBlock = some g → w.heap.size ≤ g := fun g hg => (r3 g hg).elim (HG.out g) (fun e => by have := HK1.out.size; first | omega | (simp at e; omega))
  have ho2 : (Value.slice ao2 l'.length c2').ownBlock ≠ some b := fun e => by have := hge2 _ e; omega
  have hkk : Kept (fun k => k = b) w w2 := (HK1.out.mono (fun _ _ e => e.elim)).then hk2 (fun i hi => Or.inr (HG.out i hi))
  have hn' : l'.length ≤ 65536 := by omega
  have HB2 := Lib.hid hb2
  have HG2 := Lib.hid hge2
  have HR2 := Lib.hid r1
  have HK2 := Lib.hid hkk
  clear c2
  have c2 := hb2.cell 2 rfl
  have c3 := hb2.cell 3 rfl
  have f2 := hb2.frozen 2
  have f3 := hb2.frozen 3
  clear hb2 hge2 r1 r2 r3 hkk hk2 hlen2 hmap hl' hlen
  have hft : ∀ i, foot b (.slice ao2 l'.length c2') i → foot b (.slice ao l.length c) i ∨ w.heap.size ≤ i := fun i hi => hi.elim (fun e => Or.inl (Or.inl e)) (fun e => Or.inr (HG2.out i e))
  have HF := Lib.hid hft
  clear hft
  by_cases hh : h < (l'.length : Int)
  · have hm : mxi h l'.length = (l'.length : Int) := if_pos hh
    have HM := Lib.hid hm
    clear hm
    go_wp2
    go_ret
    rw [HL.out, HE.out]
    refine ⟨rfl, _, put_end HB2.out HR2.out ho2 (by omega) ?_, ((HK2.out.set (b := b) 2 (Or.inl rfl) _).set (b := b) 3 (Or.inl rfl) _).same rfl rfl rfl rfl, HF.out⟩
    rw [HM.out]; exact fun _ => rfl
  · go_wp2
    go_ret
    rw [HL.out, HE.out]
    exact ⟨rfl, _, put_end' HB2.out HR2.out ho2 (by omega) (by omega) (fun _ => rfl), (HK2.out.set (b := b) 2 (Or.inl rfl) _).same rfl rfl rfl rfl, HF.out⟩

theorem take_nil (hs : IsRef w b v false d h l) : Calls Try.prog 19 #[.pointer (some ⟨b, 0, none⟩)] w fun e w' => e = .returned (.tuple #[.int .i64 0, .int .i64 1]) ∧ w = w' := by
  have c0 := hs.1.cell 0 rfl
  go_enter Try.func19, Try.ntmps19
  go_wp2
  go_ret2
  exact ⟨rfl, rfl⟩

theorem take_none (hs : IsRef w b v true d h []) : Calls Try.prog 19 #[.pointer (some ⟨b, 0, none⟩)] w fun e w' => e = .returned (.tuple #[.int .i64 0, .int .i64 122]) ∧ w = w' := by
  have c0 := hs.1.cell 0 rfl
  have c2 := hs.1.cell 2 rfl
  obtain ⟨ao, c, rfl, hc⟩ := row_any hs.2.1
  simp only [List.length_nil] at c2
  go_enter Try.func19, Try.ntmps19
  go_wp2
  go_ret2
  exact ⟨rfl, rfl⟩

theorem shows_tail {w : World} {g n c : Nat} {x : Value} {xs : List Value} (h : Row w 3 1 (.slice (some ⟨g, 0, none⟩) (n + 1) c) (n + 1) (x :: xs)) : Shows w 1 (some ⟨g, 1, none⟩) n xs := by
  refine ⟨by have := h.1; simp at this; omega, (fun e => by cases e), fun ad e j u hu => ?_⟩
  cases e
  have := row_cell h (j + 1) (u := u) (by simpa using hu)
  rw [Addr.add_lit]
  rwa [Nat.add_comm 1 j]
theorem shows_zero (w : World) (a : Addr) : Shows w 1 (some a) 0 [] := ⟨rfl, fun _ => rfl, fun ad e j u hu => by simp at hu⟩

set_option maxRecDepth 100000 in
set_option maxHeartbeats 2000000 in
theorem take_ok (x : Int) (hs : IsRef w b v true d h (x :: l)) : Calls Try.prog 19 #[.pointer (some ⟨b, 0, none⟩)] w fun e w' =>
    e = .returned (.tuple #[.int .i64 x, .int .i64 0]) ∧ ∃ v', IsRef w' b v' true d h l ∧ (∀ i, foot b v' i → foot b v i ∨ w.heap.size ≤ i) ∧ Kept (fun k => k = b) w w' := by
  have hn := hs.2.2.2
  have hlt := hs.1.lt
  obtain ⟨n, hnl⟩ : ∃ n, l.length = n := ⟨_, rfl⟩
  have hlen : (x :: l).length = n + 1 := by simp [hnl]
  have hr := hs.2.1
  rw [hlen] at hn hr
  obtain ⟨i0, hi, hz0, hz1, hz2⟩ := info_parts info
  obtain ⟨g, c, rfl, hc, hm, hg⟩ := row_form hr
  have hx := row_cell hr 0 (u := .int .i64 x) rfl
  have hsh := shows_tail hr
  have HSH := Lib.hid hsh
  have HR := Lib.hid hr
  have HN := Lib.hid hnl
  have c0 := hs.1.cell 0 rfl
  have c2 := hs.1.cell 2 rfl
  have hgb : g ≠ b := by have := hs.2.2.1; simpa [Value.ownBlock] using this
  have HS := Lib.hid hs
  clear hs hr hsh hnl hlen
  have hc1 : ¬ ((n : Int) + 1 = 0) := by omega
  have close : ∀ (w1 w2 : World) (ao' : Option Addr) (c' : Nat), Row w1 3 1 (.slice ao' n c') n (l.map (Value.int .i64)) → w.grownBy w1 none → (∀ g, (Value.slice ao' n c').ownBlock = some g → w.heap.size ≤ g) →
      (∀ k : Nat, w2.heap[k]? = (w1.setCell ⟨b, 2, none⟩ (.slice ao' n c')).heap[k]?) → w2.os = w1.os → w2.tape = w1.tape → w2.output = w1.output → w2.heap.size = w1.heap.size →
      ∃ v', IsRef w2 b v' true d h l ∧ (∀ i, foot b v' i → foot b (.slice (some ⟨g, 0, none⟩) (n + 1) c) i ∨ w.heap.size ≤ i) ∧ Kept (fun k => k = b) w w2 := by
    intro w1 w2 ao' c' r1 r2 r3 e e1 e2 e3 e4
    have hk1 : Kept (fun _ => False) w w1 := (Kept.refl _ _).grown r2 (fun k hk => by cases hk)
    have hs1 := HS.out.kept hk1 (fun _ _ h => h)
    have ho : (Value.slice ao' n c').ownBlock ≠ some b := fun e => by have := r3 _ e; omega
    refine ⟨.slice ao' n c', ⟨Blk.heap (hs1.1.set 2 _) (e _), ?_, ho, by have := HN.out; omega⟩, fun i hi => hi.elim (fun e => Or.inl (Or.inl e)) (fun e => Or.inr (r3 i e)), ⟨e1.trans hk1.os, e2.trans hk1.tape, e3.trans hk1.output, by rw [e4]; exact hk1.size, fun k hk hn => ?_⟩⟩
    · rw [HN.out]; exact row_heap (row_setCell_other r1 (a := ⟨b, 2, none⟩) ho _) (fun _ _ => e _)
    · rw [e k, Below.heap_setCell _ _ _ _ (fun h => hn h)]; exact hk1.block k hk (fun h => h)
  have HC := Lib.hid close
  clear close
  go_enter Try.func19, Try.ntmps19
  rcases Nat.lt_or_ge 1 c with h1c | h1c
  · have hb1 : (1 : Int) ≤ (n : Int) + 1 := by omega
    have hne : ¬ (1 = c) := by omega
    have hsub : n + 1 - 1 = n := by omega
    go_wp2_with (at_builtin; refine wpList_append_any rfl (.tmp 24) (.tmp 29) 35 rfl 3 i0 (.int .i64 0) 1 8 Try.underlying35 hi hz0 hz1 hz2 rfl (by decide) none 0 0 [] rfl (World.ownsRow_nil _ _ _ _) (some ⟨g, 1, none⟩) n (c - 1) (l.map (Value.int .i64)) rfl HSH.out (ints_one l) (by unfold maxLen; omega) (by omega) ?_)
    intro ao' c' w1 r1 r2 r3
    try simp only [Nat.zero_add, List.nil_append] at r1 r3
    try rw [Nat.zero_add]
    have HB1 := Lib.hid ((HS.out.1.grown r2 (fun e => by cases e)))
    have c2' := HB1.out.cell 2 rfl
    have f2' := HB1.out.frozen 2
    have h3 : ∀ g, (Value.slice ao' n c').ownBlock = some g → w.heap.size ≤ g := fun g hg => (r3 g hg).elim (fun e => by cases e) id
    have R1 := Lib.hid r1
    have R2 := Lib.hid r2
    have R3 := Lib.hid h3
    clear r1 r2 r3 h3 c0 c2
    go_wp2
    go_ret2
    exact ⟨rfl, HC.out w1 _ ao' c' R1.out R2.out R3.out (fun _ => rfl) rfl rfl rfl (by simp)⟩
  · obtain rfl : n = 0 := by omega
    obtain rfl : c = 1 := by omega
    obtain rfl : l = [] := List.eq_nil_of_length_eq_zero HN.out
    go_wp2_with (at_builtin; refine wpList_append_any rfl (.tmp 24) (.tmp 29) 35 rfl 3 i0 (.int .i64 0) 1 8 Try.underlying35 hi hz0 hz1 hz2 rfl (by decide) none 0 0 [] rfl (World.ownsRow_nil _ _ _ _) (some ⟨g, 0, none⟩) 0 0 [] rfl (shows_zero _ _) (by simp) (by unfold maxLen; omega) (by omega) ?_)
    intro ao' c' w1 r1 r2 r3
    try simp only [Nat.zero_add, List.nil_append] at r1 r3
    try rw [Nat.zero_add]
    have HB1 := Lib.hid ((HS.out.1.grown r2 (fun e => by cases e)))
    have c2' := HB1.out.cell 2 rfl
    have f2' := HB1.out.frozen 2
    have h3 : ∀ g, (Value.slice ao' 0 c').ownBlock = some g → w.heap.size ≤ g := fun g hg => (r3 g hg).elim (fun e => by cases e) id
    have R1 := Lib.hid r1
    have R2 := Lib.hid r2
    have R3 := Lib.hid h3
    clear r1 r2 r3 h3 c0 c2
    go_wp2
    go_ret2
    exact ⟨rfl, HC.out w1 _ ao' c' R1.out R2.out R3.out (fun _ => rfl) rfl rfl rfl (by simp)⟩

theorem at_no (i : Int) (hs : IsRef w b v m d h l) (hi : i < 0 ∨ l.length ≤ i) : Calls Try.prog 21 #[.pointer (some ⟨b, 0, none⟩), .int .i64 i] w fun e w' => e = .returned (.tuple #[.int .i64 0, .bool false]) ∧ w = w' := by
  have c2 := hs.1.cell 2 rfl
  obtain ⟨ao, c, rfl, hc⟩ := row_any hs.2.1
  by_cases h0 : i < 0
  · go_enter Try.func21, Try.ntmps21
    go_wp2
    go_ret2
    exact ⟨rfl, rfl⟩
  · have h1 : (l.length : Int) ≤ i := by omega
    go_enter Try.func21, Try.ntmps21
    go_wp2
    go_ret2
    exact ⟨rfl, rfl⟩

theorem at_ok (i : Nat) (x : Int) (hs : IsRef w b v m d h l) (hx : l[i]? = some x) : Calls Try.prog 21 #[.pointer (some ⟨b, 0, none⟩), .int .i64 i] w fun e w' => e = .returned (.tuple #[.int .i64 x, .bool true]) ∧ w = w' := by
  have hil := (List.getElem?_eq_some_iff.1 hx).1
  have c2 := hs.1.cell 2 rfl
  have hcl : ∃ g c, v = .slice (some ⟨g, 0, none⟩) l.length c ∧ w.cell? ⟨g, i, none⟩ = some (.int .i64 x) := by
    rcases row_forms hs.2.1 with ⟨_, h0⟩ | ⟨g, c', hv, _⟩
    · omega
    · subst hv
      exact ⟨g, c', rfl, row_cell hs.2.1 i (by rw [List.getElem?_map, hx]; rfl)⟩
  obtain ⟨g, c, rfl, hcl⟩ := hcl
  have h0 : ¬ (i : Int) < 0 := by omega
  have h1 : ¬ (l.length : Int) ≤ i := by omega
  have hi0 : (0 : Int) ≤ (i : Int) := Int.natCast_nonneg _
  have hi1 : (i : Int) < (l.length : Int) := by omega
  clear hx hs
  go_enter Try.func21, Try.ntmps21
  go_wp2
  go_ret2
  exact ⟨rfl, rfl⟩

theorem full_ok (hs : IsRef w b v true d h l) : Calls Try.prog 54 #[.pointer (some ⟨b, 0, none⟩)] w fun e w' => e = .returned (.bool (decide (d ≤ l.length))) ∧ ∃ n, w' = w.drewN n := by
  have c0 := hs.1.cell 0 rfl
  have c1 := hs.1.cell 1 rfl
  have c2 := hs.1.cell 2 rfl
  obtain ⟨ao, c, rfl, hc⟩ := row_any hs.2.1
  go_enter Try.func54, Try.ntmps54
  go_wp2
  go_quiet (fail)
  go_wp2
  go_ret
  exact ⟨rfl, _, rfl⟩

theorem clear_ok (hs : IsRef w b v m d h l) : Calls Try.prog 51 #[.pointer (some ⟨b, 0, none⟩)] w fun e w' => e = .returned (.int .i64 l.length) ∧ IsRef w' b (.slice none 0 0) m d h [] ∧ Kept (fun k => k = b) w w' := by
  have c2 := hs.1.cell 2 rfl
  have f2 := hs.1.frozen 2
  have hb := hs.1
  obtain ⟨ao, c, rfl, hc⟩ := row_any hs.2.1
  clear hs
  go_enter Try.func51, Try.ntmps51
  go_wp2
  go_ret
  exact ⟨rfl, ⟨hb.set 2 _, World.ownsRow_nil _ _ _ _, by simp [Value.ownBlock], by simp⟩, (Kept.refl (fun k => k = b) w).set 2 (Or.inl rfl) _⟩

set_option maxRecDepth 100000 in
set_option maxHeartbeats 2000000 in
theorem copy_ok (hs : IsRef w b v m d h l) : Calls Try.prog 34 #[.pointer (some ⟨b, 0, none⟩)] w fun e w' =>
    ∃ b' v', e = .returned (.pointer (some ⟨b', 0, none⟩)) ∧ IsRef w' b' v' m d h l ∧ (∀ i, foot b' v' i → w.heap.size ≤ i) ∧ Kept (fun _ => False) w w' := by
  obtain ⟨hb, hr, ho, hn⟩ := hs
  have hbl := hb.lt
  have c0 := hb.cell 0 rfl
  have c1 := hb.cell 1 rfl
  have c2 := hb.cell 2 rfl
  have c3 := hb.cell 3 rfl
  obtain ⟨i0, hi, hz0, hz1, hz2⟩ := info_parts info
  obtain ⟨ao, c, rfl, hc⟩ := row_any hr
  have hown : ∀ g, (Value.slice ao l.length c).ownBlock = some g → g < w.heap.size := fun g hg => row_lt hr hg
  have hbs : ¬ b = w.heap.size := by omega
  go_enter Try.func34, Try.ntmps34
  go_wp2
  go_region_held3 (fun w' => w'.cell? ⟨b, 0, none⟩ = some (.bool m) ∧ w'.cell? ⟨b, 1, none⟩ = some (.int .i64 d) ∧ w'.cell? ⟨b, 3, none⟩ = some (.int .i64 h))
    (first
      | (simp [*, World.cell?_alloc_some, World.cell?_setCell_far]; done)
      | fail)
    (fail)
  go_wp2
  have hnb := Blk.new w [.bool m, .int .i64 d, .slice none 0 0, .int .i64 h] 37
  have hr1 := row_alloc hr (.cells #[.bool m, .int .i64 d, .slice none 0 0, .int .i64 h] 37)
  have n2 := hnb.cell 2 rfl
  refine wp_region_noPanic ?_
  go_region_law (refine step_append_any (by rfl) (.tmp 22) (.tmp 26) 35 (by rfl) 3 i0 (.int .i64 0) 1 8 Try.underlying35 hi hz0 hz1 hz2 (by rfl) (by decide) none 0 0 [] (by simp [Act.eval, Act.put]) (World.ownsRow_nil _ _ _ _) ao l.length c (l.map (Value.int .i64)) (by simp [Act.eval, Act.put]) (hr1.shows.heap (fun _ _ => rfl)) (ints_one l) (by unfold maxLen; omega) (by omega) ?_; intro ao' c' w1 r1 r2 r3; have hn1 := blk_after r2 hnb rfl (by simp [Value.ownBlock]); have k2 := hn1.frozen 2; have k3 := hn1.cell 2 rfl)
  all_goals
    refine NoPanic.normal ?_
    go_wp2
    go_ret
    simp only [Nat.zero_add, List.nil_append] at r1 r3
    have hge : ∀ g, (Value.slice ao' l.length c').ownBlock = some g → w.heap.size + 1 ≤ g := fun g hg => (r3 g hg).elim (fun e => by cases e) (fun h => by simpa using h)
    have hne : (Value.slice ao' l.length c').ownBlock ≠ some w.heap.size := fun e => by have := hge _ e; omega
    refine ⟨w.heap.size, .slice ao' l.length c', rfl, ⟨Blk.heap (hn1.set 2 _) rfl, row_to (row_setCell_other r1 (a := ⟨w.heap.size, 2, none⟩) hne (.slice ao' l.length c')) rfl rfl (fun _ _ => rfl), hne, hn⟩, ?_, ?_⟩
    · rintro i (rfl | hi)
      · exact Nat.le_refl _
      · have := hge i hi; omega
    · exact (((((Kept.refl (fun _ => False) w).alloc (.cells #[.bool m, .int .i64 d, .slice none 0 0, .int .i64 h] 37)).grown (w' := w1) (row := none) ⟨r2.os, r2.tape, r2.output, r2.size, r2.block⟩ (fun k hk => by cases hk))).set (b := w.heap.size) 2 (Or.inr (Nat.le_refl _)) (.slice ao' l.length c')).same rfl rfl rfl rfl
end
end Go.Proofs.Ytibgoipdaeaigaa.RR
