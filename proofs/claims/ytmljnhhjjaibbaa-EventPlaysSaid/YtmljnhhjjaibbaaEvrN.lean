/- The document's table of events: Reset, New, Copy. -/
import Derived.Test.YtmljnhhjjaibbaaEvr
namespace Go.Proofs.Ytmljnhhjjaibbaa.ER
open Go.RowKit Go.Fr Go.Proofs.Ytmljnhhjjaibbaa.EV

theorem info_u : (Try.prog.info? 22).map (fun i => (i.zero, i.size, i.bytes)) = some (some (.int .u32 0), 1, 4) := by kernel_rfl
theorem info_b : (Try.prog.info? 4).map (fun i => (i.zero, i.size, i.bytes)) = some (some (.bool false), 1, 1) := by kernel_rfl

def eU (x : Int) : List Value := [.int .u32 x]
def eB (x : Bool) : List Value := [.bool x]

/-- a new row, laid into a field of block b -/
theorem newrow {w : World} {b j N n : Nat} {cs : List Value} {t e : TypeId} {xs : List Value} (hb : Blk w b cs t) (hN : w.heap.size = N) (hx : xs.length = n * 1) (hn : n ≤ maxLen) :
    Blk ((w.setCell ⟨b, j, none⟩ (.slice (some ⟨N, 0, none⟩) n n)).alloc (.cells xs.toArray e)) b (cs.set j (.slice (some ⟨N, 0, none⟩) n n)) t ∧
    Row ((w.setCell ⟨b, j, none⟩ (.slice (some ⟨N, 0, none⟩) n n)).alloc (.cells xs.toArray e)) e 1 (.slice (some ⟨N, 0, none⟩) n n) n xs ∧
    Kept (fun i => i = b) w ((w.setCell ⟨b, j, none⟩ (.slice (some ⟨N, 0, none⟩) n n)).alloc (.cells xs.toArray e)) ∧
    ((w.setCell ⟨b, j, none⟩ (.slice (some ⟨N, 0, none⟩) n n)).alloc (.cells xs.toArray e)).heap.size = N + 1 := by
  refine ⟨(hb.set j _).alloc _, ?_, ((Kept.refl (fun i => i = b) w).setCell (p := ⟨b, j, none⟩) (Or.inl rfl) _).alloc _, by rw [World.size_alloc, World.size_setCell, hN]⟩
  have := row_new (w.setCell ⟨b, j, none⟩ (.slice (some ⟨N, 0, none⟩) n n)) e 1 n xs hx hn
  rwa [World.size_setCell, hN] at this

theorem flatU (l : List Int) : l.flatMap eU = l.map (Value.int .u32) := by
  induction l with
  | nil => rfl
  | cons a l ih => rw [List.flatMap_cons, ih]; rfl
theorem flatB (l : List Bool) : l.flatMap eB = l.map Value.bool := by
  induction l with
  | nil => rfl
  | cons a l ih => rw [List.flatMap_cons, ih]; rfl

section
variable {w : World} {b : Nat} {vm vo vw vs : Value} {l : List Ev}

set_option maxRecDepth 100000 in
set_option maxHeartbeats 2000000 in
theorem reset_ok (ms : List Int) (hlen : ms.length ≤ 256) (hb : Blk w b [vm, vo, vw, vs] 66) (hm : Row w 22 1 vm ms.length (ms.map (Value.int .u32))) (bm : vm.ownBlock ≠ some b) :
    Calls Try.prog 22 #[.pointer (some ⟨b, 0, none⟩)] w fun e w' =>
      ∃ vo' vw' vs', e = .returned (.tuple #[]) ∧ IsRef w' b vm vo' vw' vs' (ms.map mk0) ∧ Kept (fun i => i = b) w w' ∧ (∀ i, foot b vm vo' vw' vs' i → i = b ∨ vm.ownBlock = some i ∨ w.heap.size ≤ i) := by
  obtain ⟨i0, hi, hz0, hz1, hz2⟩ := info_parts info_u
  obtain ⟨i1, hi1, hy0, hy1, hy2⟩ := info_parts info_b
  obtain ⟨n, hn⟩ : ∃ n, ms.length = n := ⟨_, rfl⟩
  obtain ⟨A, hA⟩ : ∃ A, (List.replicate n 0).flatMap eU = A := ⟨_, rfl⟩
  obtain ⟨B, hB⟩ : ∃ B, (List.replicate n false).flatMap eB = B := ⟨_, rfl⟩
  have hk1 : ∀ w, (Instr.makeSlice 28 (.int .i64 (n : Int)) (.int .i64 (n : Int))).run Try.prog w = .ok (.slice (some ⟨w.heap.size, 0, none⟩) n n) (w.alloc (.cells A.toArray 22)) := by
    rw [← hA]; exact fun w => run_make_flat (enc := eU) (fun _ => rfl) (by decide) 0 _ _ i0 _ Try.underlying28 hi hz0 hz1 rfl .i64 .i64 n (by rw [hz2]; omega) (by omega) w
  have hk2 : ∀ w, (Instr.makeSlice 64 (.int .i64 (n : Int)) (.int .i64 (n : Int))).run Try.prog w = .ok (.slice (some ⟨w.heap.size, 0, none⟩) n n) (w.alloc (.cells B.toArray 4)) := by
    rw [← hB]; exact fun w => run_make_flat (enc := eB) (fun _ => rfl) (by decide) false _ _ i1 _ Try.underlying64 hi1 hy0 hy1 rfl .i64 .i64 n (by rw [hy2]; omega) (by omega) w
  have hlA : A.length = n * 1 := by rw [← hA, flatU]; simp
  have hlB : B.length = n * 1 := by rw [← hB, flatB]; simp
  have hnm : n ≤ maxLen := by unfold maxLen; omega
  rw [hn] at hm
  obtain ⟨ao, c, rfl, _⟩ := row_any hm
  have HA := Lib.hid hA
  have HB := Lib.hid hB
  have HLA := Lib.hid hlA
  have HLB := Lib.hid hlB
  have Hn := Lib.hid hn
  clear hA hB hlA hlB hn
  have c0 := hb.cell 0 rfl
  have q1 := hb.frozen 1
  have c1 := hb.cell 1 rfl
  obtain ⟨N, hN⟩ : ∃ N, w.heap.size = N := ⟨_, rfl⟩
  have hbl : b < N := by have := hb.lt; omega
  have P1 := Lib.hid (newrow (j := 1) (e := 22) hb hN HLA.out hnm)
  have M0 := Lib.hid hm
  clear hm hb
  go_enter Try.func22, Try.ntmps22
  go_upto_region 2 with fail
  obtain ⟨w1, hw1⟩ : ∃ w1, (w.setCell ⟨b, 1, none⟩ (.slice (some ⟨N, 0, none⟩) n n)).alloc (.cells A.toArray 22) = w1 := ⟨_, rfl⟩
  obtain ⟨b1, r1, k1, s1⟩ := P1.out
  have HN := Lib.hid hN
  rw [hw1] at b1 r1 k1 s1 ⊢
  clear hw1 c0 c1 q1 P1 hN
  have c2 := b1.cell 2 rfl
  have q2 := b1.frozen 2
  have P2 := Lib.hid (newrow (j := 2) (e := 22) b1 s1 HLA.out hnm)
  have R1 := Lib.hid r1
  have K1 := Lib.hid k1
  clear b1 r1 k1
  go_upto_region 3 with fail
  obtain ⟨w2, hw2⟩ : ∃ w2, (w1.setCell ⟨b, 2, none⟩ (.slice (some ⟨N + 1, 0, none⟩) n n)).alloc (.cells A.toArray 22) = w2 := ⟨_, rfl⟩
  obtain ⟨b2, r2, k2, s2⟩ := P2.out
  have S1 := Lib.hid s1
  rw [hw2] at b2 r2 k2 s2 ⊢
  clear hw2 c2 q2 P2 s1
  have c3 := b2.cell 3 rfl
  have q3 := b2.frozen 3
  have q3a := (b2.alloc (.cells B.toArray 4)).frozen 3
  have q3b : b < N + 1 + 1 := by omega
  have P3 := Lib.hid (newrow (j := 3) (e := 4) b2 s2 HLB.out hnm)
  have R2 := Lib.hid r2
  have K2 := Lib.hid k2
  clear b2 r2 k2
  go_wp2
  go_end0
  obtain ⟨b3, r3, k3, s3⟩ := P3.out
  have hm := M0.out
  refine ⟨.slice (some ⟨N, 0, none⟩) n n, .slice (some ⟨N + 1, 0, none⟩) n n, .slice (some ⟨N + 1 + 1, 0, none⟩) n n, rfl, ?_, (K1.out.then K2.out (fun _ h => Or.inl h)).then k3 (fun _ h => Or.inl h), ?_⟩
  · have hlt : ∀ g, (Value.slice ao n c).ownBlock = some g → g < N := fun g hg => by have := row_lt hm hg; rw [HN.out] at this; exact this
    have n1 : b ≠ N := by omega
    have n2 : b ≠ N + 1 := by omega
    have n3 : b ≠ N + 1 + 1 := by omega
    have eL : (ms.map mk0).length = n := by rw [List.length_map, Hn.out]
    have e0 : (ms.map mk0).map f0 = ms.map (Value.int .u32) := by rw [List.map_map]; rfl
    have e1 : (ms.map mk0).map f1 = A := by
      rw [← HA.out, flatU, List.map_map]
      apply List.ext_getElem
      · simp [Hn.out]
      · intro i h1 h2; simp [mk0, f1]
    have e2 : (ms.map mk0).map f2 = A := by
      rw [← HA.out, flatU, List.map_map]
      apply List.ext_getElem
      · simp [Hn.out]
      · intro i h1 h2; simp [mk0, f2]
    have e3 : (ms.map mk0).map f3 = B := by
      rw [← HB.out, flatB, List.map_map]
      apply List.ext_getElem
      · simp [Hn.out]
      · intro i h1 h2; simp [mk0, f3]
    have kk := (K1.out.then K2.out (fun _ h => Or.inl h)).then k3 (fun _ h => Or.inl h)
    refine { blk := b3, rm := ?_, ro := ?_, rw := ?_, rs := ?_, mo := ?_, mw := ?_, ms := ?_, ow := ?_, os := ?_, ws := ?_, bm := bm, bo := ?_, bw := ?_, bs := ?_ }
    · rw [eL, e0]; exact row_kept hm kk (fun g hg h => bm (by rw [hg, h]))
    · rw [eL, e1]; exact row_kept (row_kept R1.out K2.out (fun g hg h => by simp [Value.ownBlock] at hg; omega)) k3 (fun g hg h => by simp [Value.ownBlock] at hg; omega)
    · rw [eL, e2]; exact row_kept R2.out k3 (fun g hg h => by simp [Value.ownBlock] at hg; omega)
    · rw [eL, e3]; exact r3
    · intro g hg h; have := hlt g hg; simp [Value.ownBlock] at h; omega
    · intro g hg h; have := hlt g hg; simp [Value.ownBlock] at h; omega
    · intro g hg h; have := hlt g hg; simp [Value.ownBlock] at h; omega
    · intro g hg h; simp [Value.ownBlock] at h hg; omega
    · intro g hg h; simp [Value.ownBlock] at h hg; omega
    · intro g hg h; simp [Value.ownBlock] at h hg; omega
    · intro h; simp [Value.ownBlock] at h; omega
    · intro h; simp [Value.ownBlock] at h; omega
    · intro h; simp [Value.ownBlock] at h; omega
  · rintro i (h | h | h | h | h)
    · exact Or.inl h
    · exact Or.inr (Or.inl h)
    · simp [Value.ownBlock] at h; have := HN.out; exact Or.inr (Or.inr (by omega))
    · simp [Value.ownBlock] at h; have := HN.out; exact Or.inr (Or.inr (by omega))
    · simp [Value.ownBlock] at h; have := HN.out; exact Or.inr (Or.inr (by omega))
theorem mask_row {ms : List Int} : (ms.map (Value.int .u32)).length = ms.length * 1 := by simp

set_option maxRecDepth 100000 in
set_option maxHeartbeats 2000000 in
theorem new_big (ao : Option Addr) (n c : Nat) (w : World) (h : 256 < n) : Calls Try.prog 14 #[.slice ao n c] w fun e w' => e = .returned (.tuple #[.pointer none, .int .i64 150]) ∧ w = w' := by
  go_enter Try.func14, Try.ntmps14
  go_wp2
  go_ret2
  exact ⟨rfl, rfl⟩

theorem came_shows {ms : List Int} {ao : Option Addr} (hc : CameL w 1 (encK .u32) ao ms) : ms ≠ [] → Shows w 1 ao ms.length (ms.map (Value.int .u32)) := by
  intro hne
  obtain ⟨g, off, rfl, hg, hcc⟩ := hc hne
  refine ⟨mask_row, (fun h => by cases h), fun ad had j u hu => ?_⟩
  cases had
  rw [List.getElem?_map] at hu
  cases hx : ms[j]? with
  | none => rw [hx] at hu; cases hu
  | some x =>
    rw [hx] at hu
    simp only [Option.map_some, Option.some.injEq] at hu
    subst hu
    have := hcc j x hx 0 _ rfl
    rw [Addr.add_lit]
    simpa using this

set_option maxRecDepth 100000 in
set_option maxHeartbeats 2000000 in
theorem new_ok (ao : Option Addr) (c : Nat) (ms : List Int) (w : World) (h : ms.length ≤ 256) (hsh : Shows w 1 ao ms.length (ms.map (Value.int .u32))) : Calls Try.prog 14 #[.slice ao ms.length c] w fun e w' =>
    ∃ b vm vo vw vs, e = .returned (.tuple #[.pointer (some ⟨b, 0, none⟩), .int .i64 0]) ∧ IsRef w' b vm vo vw vs (ms.map mk0) ∧ (∀ i, foot b vm vo vw vs i → w.heap.size ≤ i) ∧ Kept (fun _ => False) w w' := by
  obtain ⟨i0, hi, hz0, hz1, hz2⟩ := info_parts info_u
  have hnb := Blk.new w [.slice none 0 0, .slice none 0 0, .slice none 0 0, .slice none 0 0] 66
  have kw := (Kept.refl (fun _ => False) w).alloc (.cells #[.slice none 0 0, .slice none 0 0, .slice none 0 0, .slice none 0 0] 66)
  have c0 := hnb.cell 0 rfl
  have hsh1 : Shows (w.alloc (.cells #[.slice none 0 0, .slice none 0 0, .slice none 0 0, .slice none 0 0] 66)) 1 ao ms.length (ms.map (Value.int .u32)) := by
    refine ⟨hsh.1, hsh.2.1, fun ad ha j u hu => ?_⟩
    have := hsh.2.2 ad ha j u hu
    exact (kw.cell (World.block_lt_of_cell? w _ this) (fun h => h)).trans this
  have HS := Lib.hid hsh1
  have HB := Lib.hid hnb
  have KW := Lib.hid kw
  clear hsh1 hsh hnb kw
  go_enter Try.func14, Try.ntmps14
  go_wp2_with ((at_builtin; refine wpList_append_any rfl (.tmp 14) (.tmp 15) 28 rfl 22 i0 (.int .u32 0) 1 4 Try.underlying28 hi hz0 hz1 hz2 rfl (by decide) none 0 0 [] rfl (World.ownsRow_nil _ _ _ _) ao ms.length c (ms.map (Value.int .u32)) rfl HS.out ?h1 ?h2 ?h3 ?_))
  case h1 => intro u hu; obtain ⟨x, _, rfl⟩ := List.mem_map.1 hu; rfl
  case h2 => unfold maxLen; omega
  case h3 => omega
  intro ao' c' w1 r1 r2 r3
  have hn1 := HB.out.grown r2 (by simp [Value.ownBlock])
  have k2 := hn1.frozen 0
  have k3 := hn1.cell 0 rfl
  have z1 := r2.size
  rw [World.size_alloc] at z1
  try simp only [Nat.zero_add] at r1 r3
  try simp only [List.nil_append] at r1
  have hge : ∀ g, (Value.slice ao' ms.length c').ownBlock = some g → w.heap.size + 1 ≤ g := fun g hg => (r3 g hg).elim (fun e => by cases e) (fun h => by simpa using h)
  have hne : (Value.slice ao' ms.length c').ownBlock ≠ some w.heap.size := fun e => by have := hge _ e; omega
  have Q := Lib.hid (reset_ok ms h (hn1.set 0 (.slice ao' ms.length c')) (row_setCell_other r1 (a := ⟨w.heap.size, 0, none⟩) hne (.slice ao' ms.length c')) hne)
  have K1 := Lib.hid ((KW.out.grown r2 (fun k hk => by cases hk)).set (b := w.heap.size) 0 (Or.inr (Nat.le_refl _)) (.slice ao' ms.length c'))
  clear r1 r2 r3 hn1
  have HGE := Lib.hid hge
  clear hge hne
  try rw [Nat.zero_add]
  go_wp2_with fail
  refine Q.out.mono ?_
  rintro e w2 ⟨vo, vw, vs, rfl, h2, kk, hf⟩
  go_wp2
  go_ret2
  refine ⟨w.heap.size, _, vo, vw, vs, rfl, h2, ?_, K1.out.then kk (fun i hi => Or.inr (by omega))⟩
  intro i hi
  rcases hf i hi with h | h | h
  · omega
  · have := HGE.out i h; omega
  · rw [World.size_setCell] at h; omega
end

/-- a row of the copy's own -/
def Mine (wx : World) (N : Nat) (e : TypeId) (v : Value) (n : Nat) (xs : List Value) : Prop := Row wx e 1 v n xs ∧ ∀ g, v.ownBlock = some g → N + 1 ≤ g
/-- the copy under way -/
structure Cp (w wx : World) (N b : Nat) (cs : List Value) (vm vo vw vs : Value) (l : List Ev) : Prop where
  blk : Blk wx N cs 66
  kept : Kept (fun _ => False) w wx
  src : IsRef wx b vm vo vw vs l
  big : w.heap.size ≤ N ∧ N + 1 ≤ wx.heap.size ∧ b < N
theorem Cp.step {w wx wa w1 wf : World} {N j b : Nat} {cs : List Value} {vm vo vw vs v' : Value} {l : List Ev} (h : Cp w wx N b cs vm vo vw vs l) (he : Kept (fun _ => False) wx wa) (r2 : wa.grownBy w1 none) (hf : Kept (fun _ => False) (w1.setCell ⟨N, j, none⟩ v') wf) (hlt : ∀ i, foot b vm vo vw vs i → i < N) :
    Cp w wf N b (cs.set j v') vm vo vw vs l ∧ ∀ {e : TypeId} {v : Value} {n : Nat} {xs : List Value}, Mine wx N e v n xs → Mine wf N e v n xs := by
  have k0 : Kept (fun i => i = N) wx w1 := (he.mono (fun _ _ h => False.elim h)).grown r2 (fun k hk => by cases hk)
  have k1 : Kept (fun i => i = N) wx (w1.setCell ⟨N, j, none⟩ v') := k0.set (b := N) j (Or.inl rfl) v'
  have k2 : Kept (fun i => i = N) wx wf := k1.then hf (fun _ h => False.elim h)
  refine ⟨⟨?_, ?_, h.src.kept k2 (fun i hi e => by have := hlt i hi; omega), h.big.1, by have := k2.size; have := h.big.2; omega, h.big.2.2⟩, fun hm => ⟨row_kept hm.1 k2 (fun g hg e => by have := hm.2 g hg; omega), hm.2⟩⟩
  · exact ((((h.blk.kept he (fun h => h)).grown r2 (by simp)).set j v')).kept hf (fun h => h)
  · exact h.kept.then k2 (fun i hi => Or.inr (by have := h.big; omega))
theorem mine_new {wx wa w1 wf : World} {N j n c' : Nat} {ao' : Option Addr} {e : TypeId} {xs : List Value} (he : Kept (fun _ => False) wx wa) (hN : N + 1 ≤ wx.heap.size) (r1 : Row w1 e 1 (.slice ao' n c') n xs) (r3 : ∀ g, (Value.slice ao' n c').ownBlock = some g → (Value.slice none 0 0).ownBlock = some g ∨ wa.heap.size ≤ g)
    (hf : Kept (fun _ => False) (w1.setCell ⟨N, j, none⟩ (.slice ao' n c')) wf) : Mine wf N e (.slice ao' n c') n xs := by
  have hge : ∀ g, (Value.slice ao' n c').ownBlock = some g → N + 1 ≤ g := fun g hg => (r3 g hg).elim (fun e => by cases e) (fun h => by have := he.size; omega)
  exact ⟨row_kept (row_setCell_other r1 (a := ⟨N, j, none⟩) (fun e => by have := hge _ e; simp at this; omega) _) hf (fun _ _ h => h), hge⟩
theorem Mine.lt {wx : World} {N n : Nat} {e : TypeId} {v : Value} {xs : List Value} (h : Mine wx N e v n xs) : ∀ g, v.ownBlock = some g → g < wx.heap.size := fun g hg => row_lt h.1 hg

set_option maxRecDepth 100000 in
set_option maxHeartbeats 4000000 in
theorem copy_ok {w : World} {b : Nat} {vm vo vw vs : Value} {l : List Ev} (hs : IsRef w b vm vo vw vs l) (hlen : l.length ≤ 256) : Calls Try.prog 24 #[.pointer (some ⟨b, 0, none⟩)] w fun e w' =>
    ∃ b' vm' vo' vw' vs', e = .returned (.pointer (some ⟨b', 0, none⟩)) ∧ IsRef w' b' vm' vo' vw' vs' l ∧ (∀ i, foot b' vm' vo' vw' vs' i → w.heap.size ≤ i) ∧ Kept (fun _ => False) w w' := by
  obtain ⟨i0, hi, hz0, hz1, hz2⟩ := info_parts info_u
  obtain ⟨i1, hi1, hy0, hy1, hy2⟩ := info_parts info_b
  have hnb := Blk.new w [.slice none 0 0, .slice none 0 0, .slice none 0 0, .slice none 0 0] 66
  have kw := (Kept.refl (fun _ => False) w).alloc (.cells #[.slice none 0 0, .slice none 0 0, .slice none 0 0, .slice none 0 0] 66)
  have hlt := hs.lt
  obtain ⟨N, hN⟩ : ∃ N, w.heap.size = N := ⟨_, rfl⟩
  rw [hN] at hnb hlt
  have C0 : Cp w (w.alloc (.cells #[.slice none 0 0, .slice none 0 0, .slice none 0 0, .slice none 0 0] 66)) N b [.slice none 0 0, .slice none 0 0, .slice none 0 0, .slice none 0 0] vm vo vw vs l :=
    ⟨hnb, kw, hs.kept kw (fun _ _ h => h), by omega, by rw [World.size_alloc]; omega, hlt b (Or.inl rfl)⟩
  obtain ⟨am, cm, rfl, _⟩ := row_any hs.rm
  obtain ⟨ao, co, rfl, _⟩ := row_any hs.ro
  obtain ⟨aw, cw, rfl, _⟩ := row_any hs.rw
  obtain ⟨as', cs', rfl, _⟩ := row_any hs.rs
  have HC0 := Lib.hid C0
  have hbN : b < N := hlt b (Or.inl rfl)
  clear hnb kw hs
  go_enter Try.func24, Try.ntmps24
  go_upto_region 2 with fail
  obtain ⟨w1, hw1⟩ : ∃ w1, w.alloc (.cells #[.slice none 0 0, .slice none 0 0, .slice none 0 0, .slice none 0 0] 66) = w1 := ⟨_, rfl⟩
  have C1 := HC0.out
  rw [hw1] at C1 ⊢
  have HN := Lib.hid hN
  clear hw1 HC0 C0 hN
  have n0 := C1.blk.cell 0 rfl
  have t0 := C1.src.blk.cell 0 rfl
  have HC1 := Lib.hid C1
  clear C1
  go_cut [] from 6 to 17 (fun wx => ∃ (a0 : Option Addr) (d0 : Nat), Cp w wx N b [.slice a0 l.length d0, .slice none 0 0, .slice none 0 0, .slice none 0 0] (.slice am l.length cm) (.slice ao l.length co) (.slice aw l.length cw) (.slice as' l.length cs') l ∧ Mine wx N 22 (.slice a0 l.length d0) l.length (l.map f0))
  case first =>
    refine wp_region_noPanic ?_
    go_region_law (refine step_append_any (by rfl) (.tmp 10) (.tmp 14) 28 (by rfl) 22 i0 (.int .u32 0) 1 4 Try.underlying28 hi hz0 hz1 hz2 (by rfl) (by decide) none 0 0 [] (by simp [Act.eval, Act.put]) (World.ownsRow_nil _ _ _ _) am l.length cm (l.map f0) (by simp [Act.eval, Act.put]) (HC1.out.src.rm.shows.heap (fun _ _ => rfl)) (by intro u hu; obtain ⟨x, _, rfl⟩ := List.mem_map.1 hu; rfl) (by unfold maxLen; omega) (by omega) ?_; intro xa xc xw r1 r2 r3; have hn1 := blk_after r2 HC1.out.blk rfl (by simp [Value.ownBlock]); have k2 := hn1.frozen 0; have k3 := hn1.cell 0 rfl)
    all_goals
      refine NoPanic.normal ?_
      go_wp2_with fail
      go_meet
      simp only [Nat.zero_add] at r1 r3
      try simp only [Nat.zero_add]
      obtain ⟨q1, q2⟩ := HC1.out.step (j := 0) (v' := .slice xa l.length xc) (by exact (Kept.refl (fun _ => False) _).same rfl rfl rfl rfl) r2 (by exact (Kept.refl (fun _ => False) _).same rfl rfl rfl rfl) hlt
      exact ⟨xa, xc, q1, mine_new (j := 0) (by exact (Kept.refl (fun _ => False) _).same rfl rfl rfl rfl) HC1.out.big.2.1 r1 r3 (by exact (Kept.refl (fun _ => False) _).same rfl rfl rfl rfl)⟩
  case rest =>
    clear HC1 n0 t0
    obtain ⟨a0, d0, C2, M0_1⟩ := hcut
    have n1 := C2.blk.cell 1 rfl
    have t1 := C2.src.blk.cell 1 rfl
    go_upto_region 3 with fail
    have HC2 := Lib.hid C2
    clear C2
    have HM0_1 := Lib.hid M0_1
    clear M0_1
    go_cut [] from 18 to 29 (fun wx => ∃ (a1 : Option Addr) (d1 : Nat), Cp w wx N b [.slice a0 l.length d0, .slice a1 l.length d1, .slice none 0 0, .slice none 0 0] (.slice am l.length cm) (.slice ao l.length co) (.slice aw l.length cw) (.slice as' l.length cs') l ∧ Mine wx N 22 (.slice a0 l.length d0) l.length (l.map f0) ∧ Mine wx N 22 (.slice a1 l.length d1) l.length (l.map f1) ∧ Ap (.slice a0 l.length d0) (.slice a1 l.length d1))
    case first =>
      refine wp_region_noPanic ?_
      go_region_law (refine step_append_any (by rfl) (.tmp 22) (.tmp 26) 28 (by rfl) 22 i0 (.int .u32 0) 1 4 Try.underlying28 hi hz0 hz1 hz2 (by rfl) (by decide) none 0 0 [] (by simp [Act.eval, Act.put]) (World.ownsRow_nil _ _ _ _) ao l.length co (l.map f1) (by simp [Act.eval, Act.put]) (HC2.out.src.ro.shows.heap (fun _ _ => rfl)) (by intro u hu; obtain ⟨x, _, rfl⟩ := List.mem_map.1 hu; rfl) (by unfold maxLen; omega) (by omega) ?_; intro xa xc xw r1 r2 r3; have hn1 := blk_after r2 HC2.out.blk rfl (by simp [Value.ownBlock]); have k2 := hn1.frozen 1; have k3 := hn1.cell 1 rfl)
      all_goals
        refine NoPanic.normal ?_
        go_wp2_with fail
        go_meet
        simp only [Nat.zero_add] at r1 r3
        try simp only [Nat.zero_add]
        obtain ⟨q1, q2⟩ := HC2.out.step (j := 1) (v' := .slice xa l.length xc) (by exact (Kept.refl (fun _ => False) _).same rfl rfl rfl rfl) r2 (by exact (Kept.refl (fun _ => False) _).same rfl rfl rfl rfl) hlt
        exact ⟨xa, xc, q1, q2 HM0_1.out, mine_new (j := 1) (by exact (Kept.refl (fun _ => False) _).same rfl rfl rfl rfl) HC2.out.big.2.1 r1 r3 (by exact (Kept.refl (fun _ => False) _).same rfl rfl rfl rfl), (fun g h1 h2 => by have := HM0_1.out.lt g h1; rcases r3 g h2 with h | h; cases h; exact Nat.lt_irrefl _ (Nat.lt_of_lt_of_le this h))⟩
    case rest =>
      clear HC2 n1 t1 HM0_1
      obtain ⟨a1, d1, C3, M0_2, M1_2, P0_1⟩ := hcut
      have n2 := C3.blk.cell 2 rfl
      have t2 := C3.src.blk.cell 2 rfl
      go_upto_region 4 with fail
      have HC3 := Lib.hid C3
      clear C3
      have HM0_2 := Lib.hid M0_2
      clear M0_2
      have HM1_2 := Lib.hid M1_2
      clear M1_2
      go_cut [] from 30 to 41 (fun wx => ∃ (a2 : Option Addr) (d2 : Nat), Cp w wx N b [.slice a0 l.length d0, .slice a1 l.length d1, .slice a2 l.length d2, .slice none 0 0] (.slice am l.length cm) (.slice ao l.length co) (.slice aw l.length cw) (.slice as' l.length cs') l ∧ Mine wx N 22 (.slice a0 l.length d0) l.length (l.map f0) ∧ Mine wx N 22 (.slice a1 l.length d1) l.length (l.map f1) ∧ Mine wx N 22 (.slice a2 l.length d2) l.length (l.map f2) ∧ Ap (.slice a0 l.length d0) (.slice a2 l.length d2) ∧ Ap (.slice a1 l.length d1) (.slice a2 l.length d2))
      case first =>
        refine wp_region_noPanic ?_
        go_region_law (refine step_append_any (by rfl) (.tmp 34) (.tmp 38) 28 (by rfl) 22 i0 (.int .u32 0) 1 4 Try.underlying28 hi hz0 hz1 hz2 (by rfl) (by decide) none 0 0 [] (by simp [Act.eval, Act.put]) (World.ownsRow_nil _ _ _ _) aw l.length cw (l.map f2) (by simp [Act.eval, Act.put]) (HC3.out.src.rw.shows.heap (fun _ _ => rfl)) (by intro u hu; obtain ⟨x, _, rfl⟩ := List.mem_map.1 hu; rfl) (by unfold maxLen; omega) (by omega) ?_; intro xa xc xw r1 r2 r3; have hn1 := blk_after r2 HC3.out.blk rfl (by simp [Value.ownBlock]); have k2 := hn1.frozen 2; have k3 := hn1.cell 2 rfl)
        all_goals
          refine NoPanic.normal ?_
          go_wp2_with fail
          go_meet
          simp only [Nat.zero_add] at r1 r3
          try simp only [Nat.zero_add]
          obtain ⟨q1, q2⟩ := HC3.out.step (j := 2) (v' := .slice xa l.length xc) (by exact (Kept.refl (fun _ => False) _).same rfl rfl rfl rfl) r2 (by exact (Kept.refl (fun _ => False) _).same rfl rfl rfl rfl) hlt
          exact ⟨xa, xc, q1, q2 HM0_2.out, q2 HM1_2.out, mine_new (j := 2) (by exact (Kept.refl (fun _ => False) _).same rfl rfl rfl rfl) HC3.out.big.2.1 r1 r3 (by exact (Kept.refl (fun _ => False) _).same rfl rfl rfl rfl), (fun g h1 h2 => by have := HM0_2.out.lt g h1; rcases r3 g h2 with h | h; cases h; exact Nat.lt_irrefl _ (Nat.lt_of_lt_of_le this h)), (fun g h1 h2 => by have := HM1_2.out.lt g h1; rcases r3 g h2 with h | h; cases h; exact Nat.lt_irrefl _ (Nat.lt_of_lt_of_le this h))⟩
      case rest =>
        clear HC3 n2 t2 HM0_2 HM1_2
        obtain ⟨a2, d2, C4, M0_3, M1_3, M2_3, P0_2, P1_2⟩ := hcut
        have n3 := C4.blk.cell 3 rfl
        have t3 := C4.src.blk.cell 3 rfl
        go_upto_region 5 with fail
        have HC4 := Lib.hid C4
        clear C4
        have HM0_3 := Lib.hid M0_3
        clear M0_3
        have HM1_3 := Lib.hid M1_3
        clear M1_3
        have HM2_3 := Lib.hid M2_3
        clear M2_3
        go_cut [] from 42 to 53 (fun wx => ∃ (a3 : Option Addr) (d3 : Nat), Cp w wx N b [.slice a0 l.length d0, .slice a1 l.length d1, .slice a2 l.length d2, .slice a3 l.length d3] (.slice am l.length cm) (.slice ao l.length co) (.slice aw l.length cw) (.slice as' l.length cs') l ∧ Mine wx N 22 (.slice a0 l.length d0) l.length (l.map f0) ∧ Mine wx N 22 (.slice a1 l.length d1) l.length (l.map f1) ∧ Mine wx N 22 (.slice a2 l.length d2) l.length (l.map f2) ∧ Mine wx N 4 (.slice a3 l.length d3) l.length (l.map f3) ∧ Ap (.slice a0 l.length d0) (.slice a3 l.length d3) ∧ Ap (.slice a1 l.length d1) (.slice a3 l.length d3) ∧ Ap (.slice a2 l.length d2) (.slice a3 l.length d3))
        case first =>
          refine wp_region_noPanic ?_
          go_region_law (refine step_append_any (by rfl) (.tmp 46) (.tmp 50) 64 (by rfl) 4 i1 (.bool false) 1 1 Try.underlying64 hi1 hy0 hy1 hy2 (by rfl) (by decide) none 0 0 [] (by simp [Act.eval, Act.put]) (World.ownsRow_nil _ _ _ _) as' l.length cs' (l.map f3) (by simp [Act.eval, Act.put]) (HC4.out.src.rs.shows.heap (fun _ _ => rfl)) (by intro u hu; obtain ⟨x, _, rfl⟩ := List.mem_map.1 hu; rfl) (by unfold maxLen; omega) (by omega) ?_; intro xa xc xw r1 r2 r3; have hn1 := blk_after r2 HC4.out.blk rfl (by simp [Value.ownBlock]); have k2 := hn1.frozen 3; have k3 := hn1.cell 3 rfl)
          all_goals
            refine NoPanic.normal ?_
            go_wp2_with fail
            go_meet
            simp only [Nat.zero_add] at r1 r3
            try simp only [Nat.zero_add]
            obtain ⟨q1, q2⟩ := HC4.out.step (j := 3) (v' := .slice xa l.length xc) (by exact (Kept.refl (fun _ => False) _).same rfl rfl rfl rfl) r2 (by exact (Kept.refl (fun _ => False) _).same rfl rfl rfl rfl) hlt
            exact ⟨xa, xc, q1, q2 HM0_3.out, q2 HM1_3.out, q2 HM2_3.out, mine_new (j := 3) (by exact (Kept.refl (fun _ => False) _).same rfl rfl rfl rfl) HC4.out.big.2.1 r1 r3 (by exact (Kept.refl (fun _ => False) _).same rfl rfl rfl rfl), (fun g h1 h2 => by have := HM0_3.out.lt g h1; rcases r3 g h2 with h | h; cases h; exact Nat.lt_irrefl _ (Nat.lt_of_lt_of_le this h)), (fun g h1 h2 => by have := HM1_3.out.lt g h1; rcases r3 g h2 with h | h; cases h; exact Nat.lt_irrefl _ (Nat.lt_of_lt_of_le this h)), (fun g h1 h2 => by have := HM2_3.out.lt g h1; rcases r3 g h2 with h | h; cases h; exact Nat.lt_irrefl _ (Nat.lt_of_lt_of_le this h))⟩
        case rest =>
          clear HC4 n3 t3 HM0_3 HM1_3 HM2_3
          obtain ⟨a3, d3, C5, M0_4, M1_4, M2_4, M3_4, P0_3, P1_3, P2_3⟩ := hcut
          have HC5 := Lib.hid C5
          clear C5
          go_wp2
          go_ret
          have C5 := HC5.out
          have eN := HN.out
          refine ⟨N, .slice a0 l.length d0, .slice a1 l.length d1, .slice a2 l.length d2, .slice a3 l.length d3, rfl, { blk := C5.blk, rm := M0_4.1, ro := M1_4.1, rw := M2_4.1, rs := M3_4.1, mo := P0_1, mw := P0_2, ms := P0_3, ow := P1_2, os := P1_3, ws := P2_3, bm := ?_, bo := ?_, bw := ?_, bs := ?_ }, ?_, C5.kept⟩
          · intro h; have := M0_4.2 _ h; omega
          · intro h; have := M1_4.2 _ h; omega
          · intro h; have := M2_4.2 _ h; omega
          · intro h; have := M3_4.2 _ h; omega
          · rintro i (h | h | h | h | h)
            · omega
            · have := M0_4.2 _ h; omega
            · have := M1_4.2 _ h; omega
            · have := M2_4.2 _ h; omega
            · have := M3_4.2 _ h; omega
end Go.Proofs.Ytmljnhhjjaibbaa.ER
