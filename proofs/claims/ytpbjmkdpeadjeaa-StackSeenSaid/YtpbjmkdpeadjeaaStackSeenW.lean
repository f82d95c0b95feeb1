/- R3, P14.5, the walk of StackSeen. -/
import Derived.Test.YtpbjmkdpeadjeaaSse
import Derived.Laws.ResultCell
namespace Go.Proofs.Ytpbjmkdpeadjeaa.stackSeenW
open Go.RowKit Go.Fr Go.Shelf Go.Proofs.Ytpbjmkdpeadjeaa.SI Go.Proofs.Ytpbjmkdpeadjeaa.RS Go.Proofs.Ytpbjmkdpeadjeaa.L
attribute [local go_sem] Oper.semAt_some

theorem results_cell {fn : Func} {p : Tmp} {ty : TypeId} (h : fn.results = #[.cell p ty]) (hu : Try.prog.underlying ty = some .bool) (tmps : Array Value) (w : World) {b : Nat} {v : Value} (hp : tmps.getD p undef = .pointer (some ⟨b, 0, none⟩)) (hc : w.cell? ⟨b, 0, none⟩ = some v) :
    (results fn tmps).run Try.prog w = .ok v w := by
  have hp' : tmps[p]?.getD undef = .pointer (some ⟨b, 0, none⟩) := by simpa using hp
  simp [results, h, hp', asAddr, loadVar, isAgg, run_underlying hu, hc, Result.andThen]

/-- what a box of a Bool holds -/
def bval (w : World) (x : Nat) : Bool := match w.cell? ⟨x, 0, none⟩ with | some (.bool q) => q | _ => false
theorem bval_of {w : World} {x : Nat} {q : Bool} (h : w.cell? ⟨x, 0, none⟩ = some (.bool q)) : w.cell? ⟨x, 0, none⟩ = some (.bool (bval w x)) := by
  unfold bval; rw [h]
theorem bval_drew {w : World} {x n : Nat} (h : w.cell? ⟨x, 0, none⟩ = some (.bool (bval w x))) : (w.drewN n).cell? ⟨x, 0, none⟩ = some (.bool (bval (w.drewN n) x)) := h

theorem prefix_at {l pre : List Int} (h : pre <+: l) {j : Nat} {z : Int} (hz : pre[j]? = some z) : l[j]? = some z := by
  obtain ⟨t, rfl⟩ := h
  rw [List.getElem?_append_left (List.getElem?_eq_some_iff.1 hz).1]
  exact hz

set_option maxRecDepth 100000 in
set_option maxHeartbeats 8000000 in
theorem walk (w : World) (a0 : Int) (w0 : (Lit.int .i64 a0).wf = true) (a1 : Option Addr) (cap1 : Nat) (l1 : List (Int × Int)) (hl1 : l1.length ≤ cap1) (hm1 : cap1 ≤ maxLen) (hc1 : CameL w 2 (encKK .i64 .i64) a1 l1)
    (hw1 : ∀ x ∈ l1, (Lit.int .i64 x.1).wf = true ∧ (Lit.int .i64 x.2).wf = true)
    (a2 : Option Addr) (cap2 : Nat) (l2 : List (Int × Int)) (hl2 : l2.length ≤ cap2) (hm2 : cap2 ≤ maxLen) (hc2 : CameL w 2 (encKK .i64 .i64) a2 l2)
    (hw2 : ∀ x ∈ l2, (Lit.int .i64 x.1).wf = true ∧ (Lit.int .i64 x.2).wf = true) (a3 : Int) (w3 : (Lit.int .i64 a3).wf = true) :
    Calls Try.prog 6 #[.int .i64 a0, .slice a1 l1.length cap1, .slice a2 l2.length cap2, .int .i64 a3] w fun e w' => e = .returned (.bool true) ∧ Below w.heap.size w w' := by
  unfold maxLen at hm1 hm2
  clear hw1 hw2 w0 w3
  have hnf := seq_nil
  have HC1 := Lib.hid hc1
  have HC2 := Lib.hid hc2
  clear hc1 hc2
  have hal : ∀ w : World, Calls Try.prog 13 #[] w fun e w' => e = .returned (.bool true) ∧ Kept (fun _ => False) w w' := fun w => SS.alive_law w
  refine callsIn_wide (n := 8) |>.1 ?_
  refine callsIn_of_wp_marks Try.func6 rfl trivial ?_ rfl
  simp only [Try.ntmps6, List.size_toArray, List.length_cons, List.length_nil, Nat.reduceAdd, Nat.reduceSub, Array.replicate_succ, Array.replicate_zero, List.push_toArray, List.append_toArray, List.nil_append, List.cons_append]
  refine wpIn_wide.2 ?_
  have b6 := ((Blk.new w [.slice a2 l2.length cap2] 26).alloc (.cells #[.int .i64 a3] 3)).alloc (.cells #[.bool false] 4)
  have b7 := (Blk.new (w.alloc (.cells #[.slice a2 l2.length cap2] 26)) [.int .i64 a3] 3).alloc (.cells #[.bool false] 4)
  have b8 := Blk.new ((w.alloc (.cells #[.slice a2 l2.length cap2] 26)).alloc (.cells #[.int .i64 a3] 3)) [.bool false] 4
  have k1 := (((Kept.refl (fun _ => False) w).alloc (.cells #[.slice a2 l2.length cap2] 26)).alloc (.cells #[.int .i64 a3] 3)).alloc (.cells #[.bool false] 4)
  have z1 : (((w.alloc (.cells #[.slice a2 l2.length cap2] 26)).alloc (.cells #[.int .i64 a3] 3)).alloc (.cells #[.bool false] 4)).heap.size = w.heap.size + 3 := by simp
  simp only [World.size_alloc] at b7 b8
  go_wp2_with fail
  obtain ⟨W1, hW1⟩ : ∃ W1, ((w.alloc (.cells #[.slice a2 l2.length cap2] 26)).alloc (.cells #[.int .i64 a3] 3)).alloc (.cells #[.bool false] 4) = W1 := ⟨_, rfl⟩
  rw [hW1] at b6 b7 b8 k1 z1 ⊢
  have B6 := Lib.hid b6
  have B7 := Lib.hid b7
  have B8 := Lib.hid b8
  have K1 := Lib.hid k1
  have Z1 := Lib.hid z1
  clear b6 b7 b8 k1 z1 hW1
  by_cases hbad : a0 < 0 ∨ 1024 < a0
  · refine (SI.new_no a0 _ hbad).mono ?_
    rintro e W2 ⟨rfl, rfl⟩
    go_wp2_with fail
    refine (RS.new_no a0 _ hbad).mono ?_
    rintro e W3 ⟨rfl, hr, k3, z3⟩
    have k2 := ((K1.out.alloc (.cells #[.pointer none] 51)).then k3 (fun _ h => h.elim)).alloc (.cells #[.pointer (some ⟨W1.heap.size + 1, 0, none⟩)] 32)
    have b9 := (((Blk.new W1 [.pointer none] 51).kept k3 (fun h => h)).alloc (.cells #[.pointer (some ⟨W1.heap.size + 1, 0, none⟩)] 32)).cell 0 rfl
    have b11 := (Blk.new W3 [.pointer (some ⟨W1.heap.size + 1, 0, none⟩)] 32).cell 0 rfl
    have hr2 := (hr.1.alloc (.cells #[.pointer (some ⟨W1.heap.size + 1, 0, none⟩)] 32))
    rw [World.size_alloc] at hr2
    have c0 := hr2.cell 0 rfl
    have b8 := (((B8.out.alloc (.cells #[.pointer none] 51)).kept k3 (fun h => h)).alloc (.cells #[.pointer (some ⟨W1.heap.size + 1, 0, none⟩)] 32))
    have zz := Z1.out
    have hlt : ¬ (W1.heap.size + 1 = w.heap.size + 2) := by omega
    have KK := Lib.hid k2
    have BB := Lib.hid b8
    have ZZ := Lib.hid k2.size
    clear hr hr2 k2 b8 zz
    go_wp2_with fail
    refine (hal _).mono ?_
    rintro e W4 ⟨rfl, k4⟩
    have b8 := BB.out.kept k4 (fun h => h)
    have d8 := b8.cell 0 rfl
    have e8 := b8.frozen 0
    go_wp2_with fail
    refine ⟨_, results_cell rfl Try.underlying4 _ _ rfl ((b8.set 0 (.bool true)).cell 0 rfl), rfl, ?_⟩
    exact (((KK.out.then k4 (fun _ h => h.elim)).mono (S' := fun i => w.heap.size ≤ i) (fun _ _ h => h.elim)).set (b := w.heap.size + 1 + 1) 0 (Or.inl (by omega)) _).below (Nat.le_refl _) (fun _ h => h)
  · obtain ⟨D, rfl⟩ := Int.eq_ofNat_of_zero_le (a := a0) (by omega)
    have hD : D ≤ 1024 := by omega
    clear hbad
    refine (SI.new_ok D _ (by omega) (by omega)).mono ?_
    rintro e W2 ⟨rfl, s2, k2, z2⟩
    go_wp2_with fail
    refine (RS.new_ok D _ (by omega) (by omega)).mono ?_
    rintro e W3 ⟨rfl, t3, k3, z3⟩
    go_upto_region 3 with fail
    -- the boxes of the two pointers
    have k9 := (Kept.refl (fun _ => False) W2).alloc (.cells #[.pointer (some ⟨W1.heap.size, 0, none⟩)] 51)
    have k11 := (Kept.refl (fun _ => False) W3).alloc (.cells #[.pointer (some ⟨W2.heap.size + 1, 0, none⟩)] 32)
    have b9 := ((Blk.new W2 [.pointer (some ⟨W1.heap.size, 0, none⟩)] 51).kept k3 (fun h => h)).kept k11 (fun h => h)
    have b11 := Blk.new W3 [.pointer (some ⟨W2.heap.size + 1, 0, none⟩)] 32
    have b6 := (((B6.out.kept k2 (fun h => h)).kept k9 (fun h => h)).kept k3 (fun h => h)).kept k11 (fun h => h)
    have b7 := (((B7.out.kept k2 (fun h => h)).kept k9 (fun h => h)).kept k3 (fun h => h)).kept k11 (fun h => h)
    have b8 := (((B8.out.kept k2 (fun h => h)).kept k9 (fun h => h)).kept k3 (fun h => h)).kept k11 (fun h => h)
    have hs2 := ((s2.kept k9 (fun _ _ h => h)).kept k3 (fun _ _ h => h)).kept k11 (fun _ _ h => h)
    have ht3 := t3.kept k11 (fun _ _ h => h)
    have kall := ((((K1.out.then k2 (fun _ h => h.elim)).then k9 (fun _ h => h.elim)).then k3 (fun _ h => h.elim)).then k11 (fun _ h => h.elim))
    have zz : W1.heap.size = w.heap.size + 3 := Z1.out
    have y2 : W1.heap.size < W2.heap.size := z2
    have y3 : W2.heap.size + 1 < W3.heap.size := by simpa using z3
    have y0 : (W3.alloc (.cells #[.pointer (some ⟨W2.heap.size + 1, 0, none⟩)] 32)).heap.size = W3.heap.size + 1 := by simp
    rw [World.size_alloc] at ht3
    obtain ⟨W0, hW0⟩ : ∃ W0, W3.alloc (.cells #[.pointer (some ⟨W2.heap.size + 1, 0, none⟩)] 32) = W0 := ⟨_, rfl⟩
    rw [hW0] at b6 b7 b8 b9 b11 hs2 ht3 kall y0 ⊢
    clear hW0 k9 k11 k3 k2 z2 z3 s2 t3 B6 B7 B8 K1 Z1
    generalize W1.heap.size = s, W2.heap.size = x9, W3.heap.size = x11 at *
    obtain ⟨b, hb⟩ : ∃ b, x9 + 1 = b := ⟨_, rfl⟩
    rw [hb] at b11 ht3 y3
    simp only [hb]
    have hS : SeAt w W0 W0 (fun i => i = w.heap.size ∨ i = w.heap.size + 1 ∨ i = w.heap.size + 1 + 1 ∨ i = x9 ∨ i = x11) (fun _ => False) s b D (.slice none 0 0) (.slice none 0 0) 0 [] := by
      have f : ∀ {b i : Nat}, foot b (.slice none 0 0) i → i = b := by rintro b i (h | h); exact h; simp [Value.ownBlock] at h
      refine ⟨⟨hs2, ht3, fun i e e' => by have := f e; have := f e'; omega, by simp, by simp, hD⟩, fun i hi => ?_, fun i hi e => ?_, fun _ _ h => h, fun i hi => ?_, fun _ _ => rfl, kall.below (Nat.le_refl _) (fun _ h => h.elim), Nat.le_refl _, kall.size⟩
      · rcases hi with hi | hi <;> (have := f hi; omega)
      · rcases hi with hi | hi <;> (have := f hi; omega)
      · rcases hi with hi | hi
        · omega
        · exact hi.elim
    have HS0 : Hid (Se w W0 W0 (fun i => i = w.heap.size ∨ i = w.heap.size + 1 ∨ i = w.heap.size + 1 + 1 ∨ i = x9 ∨ i = x11) (fun _ => False) s b D) := ⟨_, _, _, _, hS⟩
    have Y0 := Lib.hid y0
    have HB := Lib.hid hb
    have ZZ := Lib.hid zz
    have c9 := b9.cell 0 rfl
    have c11 := b11.cell 0 rfl
    have c0 := ht3.1.cell 0 rfl
    have HX6 := Lib.hid b6
    have HX7 := Lib.hid b7
    have HX8 := Lib.hid b8
    have HX9 := Lib.hid b9
    have HX11 := Lib.hid b11
    clear b6 b7 b8 b9 b11 hs2 ht3 kall y0 hb hS zz
    go_wp2_with fail
    clear c9 c11 c0
    obtain ⟨Bx, hBx⟩ : ∃ Bx, (fun i => i = w.heap.size ∨ i = w.heap.size + 1 ∨ i = w.heap.size + 1 + 1 ∨ i = x9 ∨ i = x11) = Bx := ⟨_, rfl⟩
    have q6 : Hid (Bx w.heap.size) := by rw [← hBx]; exact Or.inl rfl
    have q7 : Hid (Bx (w.heap.size + 1)) := by rw [← hBx]; exact Or.inr (Or.inl rfl)
    have q8 : Hid (Bx (w.heap.size + 1 + 1)) := by rw [← hBx]; exact Or.inr (Or.inr (Or.inl rfl))
    have q9 : Hid (Bx x9) := by rw [← hBx]; exact Or.inr (Or.inr (Or.inr (Or.inl rfl)))
    have q11 : Hid (Bx x11) := by rw [← hBx]; exact Or.inr (Or.inr (Or.inr (Or.inr rfl)))
    rw [hBx] at HS0
    have HBX := Lib.hid hBx
    clear hBx
    go_loopw [13] (fun i wr => ∃ k : Nat, k ≤ l1.length ∧ i = .int .i64 k ∧ Hid (Se w W0 wr Bx (fun _ => False) s b D)) (fun i _ => l1.length - (intOf i).toNat)
    case atStart => exact ⟨0, Nat.zero_le _, rfl, HS0⟩
    case round =>
      clear HS0
      obtain ⟨k, hk, rfl, hS⟩ := hrel
      obtain ⟨v, v', h, l, hS⟩ := hS.out
      have hk0 : (0 : Int) ≤ (k : Int) := Int.natCast_nonneg _
      by_cases hkl : k < l1.length
      · have hk1 : (k : Int) < (l1.length : Int) := by omega
        obtain ⟨x, y, hx⟩ := pair_at hkl
        obtain ⟨ab, off, rfl, hab, e1, e2⟩ := elem_pair HC1.out hS.below hx
        have c9 := (hS.blk q9.out HX9.out).cell 0 rfl
        have c11 := (hS.blk q11.out HX11.out).cell 0 rfl
        clear hx
        have hpl := (hS.kept ((Kept.refl (fun _ => False) wr).drewN 1)).play x y
        clear hS
        go_wp2_with fail
        go_still_tail 6, (by kernel_rfl)
        go_wp2_with fail
        refine hpl.mono ?_
        rintro e W4 ⟨rfl, u, u', h', l', hS4, _, _⟩
        have HS4 : Hid (Se w W0 W4 Bx (fun _ => False) s b D) := ⟨_, _, _, _, hS4⟩
        clear hS4 hpl
        go_wp2_with fail
        go_roundw
        case rel => exact ⟨k + 1, by omega, by go_num, HS4⟩
        case measure => simp [intOf]; omega
      · have hk1 : ¬ (k : Int) < (l1.length : Int) := by omega
        have c9 := (hS.blk q9.out HX9.out).cell 0 rfl
        have c11 := (hS.blk q11.out HX11.out).cell 0 rfl
        have HS := Lib.hid hS
        clear hS
        go_wp2_with fail
        refine (all_ok _ _).mono ?_
        rintro e W4 ⟨rfl, rfl⟩
        obtain ⟨M, hM⟩ : ∃ M, wr.heap.size = M := ⟨_, rfl⟩
        have ka := (Kept.refl (fun _ => False) wr).alloc (.cells #[.pointer (some ⟨s, 0, none⟩)] 51)
        have bM := Blk.new wr [.pointer (some ⟨s, 0, none⟩)] 51
        have S1 := HS.out.kept ka
        have d11 := (S1.blk q11.out HX11.out).cell 0 rfl
        have hdn := down_ok S1.both.hr
        clear c9 c11 S1
        have zM : (wr.alloc (.cells #[.pointer (some ⟨s, 0, none⟩)] 51)).heap.size = M + 1 := by simp [hM]
        rw [hM] at bM
        try simp only [hM]
        go_wp2_with fail
        refine hdn.mono ?_
        rintro e Wd ⟨ao, c, rfl, hrow, hfr, hkd⟩
        rw [zM] at hfr
        have kb := ((ka.then hkd (fun _ h => h.elim)).alloc (.cells #[.slice ao l.length c] 35)).alloc (.cells #[.int .i64 0] 3)
        have bM := ((bM.kept hkd (fun h => h)).alloc (.cells #[.slice ao l.length c] 35)).alloc (.cells #[.int .i64 0] 3)
        have bW := (Blk.new Wd [.slice ao l.length c] 35).alloc (.cells #[.int .i64 0] 3)
        have bN := Blk.new (Wd.alloc (.cells #[.slice ao l.length c] 35)) [.int .i64 0] 3
        have rW := row_alloc (row_alloc hrow (.cells #[.slice ao l.length c] 35)) (.cells #[.int .i64 0] 3)
        have zP : M + 1 ≤ Wd.heap.size := by have := hkd.size; omega
        have zW : ((Wd.alloc (.cells #[.slice ao l.length c] 35)).alloc (.cells #[.int .i64 0] 3)).heap.size = Wd.heap.size + 2 := by simp
        have hrlt : ∀ g, (Value.slice ao l.length c).ownBlock = some g → g < Wd.heap.size := fun g hg => row_lt hrow hg
        rw [World.size_alloc] at bN
        clear hkd d11 hdn hrow
        obtain ⟨P, hP⟩ : ∃ P, Wd.heap.size = P := ⟨_, rfl⟩
        rw [hP] at bW bN zP zW hrlt
        go_wp2_with fail
        try simp only [hP]
        obtain ⟨W2, hW2⟩ : ∃ W2, (Wd.alloc (.cells #[.slice ao l.length c] 35)).alloc (.cells #[.int .i64 0] 3) = W2 := ⟨_, rfl⟩
        rw [hW2] at kb bM bW bN zW rW ⊢
        obtain ⟨R, hR⟩ : ∃ R, l.reverse = R := ⟨_, rfl⟩
        have hRl : R.length = l.length := by rw [← hR]; simp
        rw [hR] at rW
        have hS2 := HS.out.again kb (Bx' := fun i => Bx i ∨ i = M ∨ i = P ∨ (Value.slice ao l.length c).ownBlock = some i) (Cx' := fun i => i = P + 1) hM
          (fun i hi => by
            have h1 := HS.out.sz
            rcases hi with e | e | e | e
            · have := HS.out.lt i (Or.inl e); exact ⟨Or.inl e, by omega⟩
            · exact ⟨Or.inr (by omega), by omega⟩
            · exact ⟨Or.inr (by omega), by omega⟩
            · have := hfr i e; have := hrlt i e; exact ⟨Or.inr (by omega), by omega⟩) (fun i hi => ⟨by omega, by omega⟩)
        have y6 := Lib.hid ((HS.out.blk q6.out HX6.out).kept kb (fun h => h))
        have y7 := Lib.hid ((HS.out.blk q7.out HX7.out).kept kb (fun h => h))
        have y8 := Lib.hid ((HS.out.blk q8.out HX8.out).kept kb (fun h => h))
        have y9 := Lib.hid ((HS.out.blk q9.out HX9.out).kept kb (fun h => h))
        have y11 := Lib.hid ((HS.out.blk q11.out HX11.out).kept kb (fun h => h))
        have HRl := Lib.hid hRl
        have HR := Lib.hid hR
        clear hW2 kb ka zM hP hRl
        have HSZ := Lib.hid (HS.out.sz)
        have HWM : Hid (w.heap.size ≤ M) := by
          have h1 := HS.out.sz
          have h2 := HS.out.z
          show _ ≤ _
          omega
        obtain ⟨Bx2, hBx2⟩ : ∃ B, (fun i => Bx i ∨ i = M ∨ i = P ∨ (Value.slice ao l.length c).ownBlock = some i) = B := ⟨_, rfl⟩
        obtain ⟨Cx2, hCx2⟩ : ∃ B, (fun i => i = P + 1) = B := ⟨_, rfl⟩
        rw [hBx2, hCx2] at hS2
        have p6 : Hid (Bx2 w.heap.size) := by rw [← hBx2]; exact Or.inl q6.out
        have p7 : Hid (Bx2 (w.heap.size + 1)) := by rw [← hBx2]; exact Or.inl q7.out
        have p8 : Hid (Bx2 (w.heap.size + 1 + 1)) := by rw [← hBx2]; exact Or.inl q8.out
        have p9 : Hid (Bx2 x9) := by rw [← hBx2]; exact Or.inl q9.out
        have p11 : Hid (Bx2 x11) := by rw [← hBx2]; exact Or.inl q11.out
        have pM : Hid (Bx2 M) := by rw [← hBx2]; exact Or.inr (Or.inl rfl)
        have pW : Hid (Bx2 P) := by rw [← hBx2]; exact Or.inr (Or.inr (Or.inl rfl))
        have pL : Hid (∀ g, (Value.slice ao l.length c).ownBlock = some g → Bx2 g) := by rw [← hBx2]; exact fun g hg => Or.inr (Or.inr (Or.inr hg))
        have pC : Hid (Cx2 (P + 1)) := by rw [← hCx2]; exact rfl
        have pN : Hid (¬ Bx2 (P + 1)) := by
          rw [← hBx2]
          rintro (h1 | h1 | h1 | h1)
          · have := HS.out.lt _ (Or.inl h1); have := HS.out.sz; omega
          · omega
          · omega
          · have := hrlt _ h1; omega
        have pCe : Hid (∀ i, Cx2 i → i = P + 1) := by rw [← hCx2]; exact fun i hi => hi
        have yL := Lib.hid rW
        have hlt2 := hS2.lts
        have hs2 := hlt2 s (Or.inl (Or.inl rfl))
        have hb2 := hlt2 b (Or.inr (Or.inl rfl))
        have HS2 := Lib.hid hS2
        have BM := Lib.hid bM
        have BW := Lib.hid bW
        have BN := Lib.hid bN
        have HM := Lib.hid hM
        have hll : l.length ≤ 65536 := by have := hS2.both.room; have := hS2.both.top; omega
        clear hS2 hBx2 hCx2 bM bW bN hM hS hlt2 HS rW hfr hrlt hR
        have hring := HS2.out.both.hs
        have hgs : Hangs (ftS s b Cx2) (fun i => i = s ∨ i = b) W2.heap.size := ftS_hangs hs2 hb2
        refine (wpIn_wide (n := 8)).1 ?_
        refine wpIn_rangeFunc_ownG rfl (by decide) (gf := 49) (lb := #[.pointer (some ⟨M, 0, none⟩)]) rfl trivial (enters_of Try.func49 (by kernel_rfl) rfl)
          (all_stops 7 M s _ D h l (ftS s b Cx2) W2 (by decide) ?hft (by omega) (BM.out.cell 0 rfl) hring) Keeps.trans ?hkb (Below.refl _ _) (fun _ => rfl)
          (fun pre W => (∃ v v' h l', SeAt w W2 W Bx2 Cx2 s b D v v' h l') ∧ Blk W (P + 1) [.int .i64 pre.length] 3)
          (fun cd pre W => match cd with
            | .ret => ∃ (j : Nat) (z : Int), pre[j]? = some z ∧ R[j]? ≠ some z
            | .exit i => i = 2 ∧ ((∃ v v' h l', SeAt w W2 W Bx2 Cx2 s b D v v' h l') ∧ Blk W (P + 1) [.int .i64 pre.length] 3) ∧ (pre.length : Int) = a3
            | _ => False) ?hI ?hIx ⟨⟨_, _, _, _, HS2.out⟩, BN.out⟩ ?a1 ?assign ?body ?done ?stop
        case hft =>
          intro W' hW' k hk
          have := hgs.dep W2 W' (fun b hb => hW'.block b (hgs.low b hb)) k hk
          rw [HS2.out.ft] at this
          rcases this with h1 | h1 | h1
          · exact HS2.out.lts k (Or.inl h1)
          · exact HS2.out.lts k (Or.inr h1)
          · exact HS2.out.lt k (Or.inr h1)
        case hkb => exact fun W l o o' hl ho hc _ => keeps_putObj hgs W l o o' hl ho hc
        case hI =>
          rintro pre W W' row ⟨⟨v, v', h, l', h1⟩, h2⟩ hg hr
          exact ⟨⟨v, v', h, l', h1.own hg hr⟩, h2.cells hg (fun r e => (hr r e).2)⟩
        case hIx =>
          rintro cd pre W W' row hI hg hr
          cases cd with
          | ret => exact hI
          | exit i =>
            obtain ⟨e, ⟨⟨v, v', h, l', h1⟩, h2⟩, h3⟩ := hI
            exact ⟨e, ⟨⟨v, v', h, l', h1.own hg hr⟩, h2.cells hg (fun r e => (hr r e).2)⟩, h3⟩
          | _ => exact hI
        case assign =>
          intro l x W K hK
          gi_wp2
          exact hK
        case body =>
          rintro lp pre x W ⟨⟨v1, v1', h1, l1', hS⟩, hN⟩ hlt
          have hlt0 : (0 : Int) ≤ (pre.length : Int) := Int.natCast_nonneg _
          have hlt1 : (pre.length : Int) < (l.length : Int) := by omega
          have hge : ¬ (l.length : Int) ≤ (pre.length : Int) := by omega
          obtain ⟨z, hz⟩ : ∃ z, R[pre.length]? = some z := ⟨_, List.getElem?_eq_getElem (by have := HRl.out; omega)⟩
          have hrow := row_heap yL.out (fun g hg => hS.fix g (pL.out g hg))
          have hcell : ∃ g, ao = some ⟨g, 0, none⟩ ∧ W.cell? ⟨g, pre.length, none⟩ = some (.int .i64 z) := by
            rcases row_forms hrow with ⟨_, h0⟩ | ⟨g, c', hv, _⟩
            · omega
            · cases hv
              exact ⟨g, rfl, row_cell hrow _ (by rw [List.getElem?_map, hz]; rfl)⟩
          obtain ⟨g, hao, hcell⟩ := hcell
          subst hao
          have n16 := hN.cell 0 rfl
          have w15 := (hS.blk pW.out BW.out).cell 0 rfl
          have Hz := Lib.hid hz
          have HS := Lib.hid hS
          have HN := Lib.hid hN
          clear hz hrow hS hN
          by_cases hxz : x = z
          · subst hxz
            gi_wp2
            have c6 := (HS.out.blk p6.out y6.out).cell 0 rfl
            by_cases hd : pre.length < l2.length
            · obtain ⟨kx, yx, hx2⟩ := pair_at hd
              obtain ⟨ab2, off2, rfl, hab2, e1, e2⟩ := elem_pair HC2.out HS.out.below hx2
              have c9 := (HS.out.blk p9.out y9.out).cell 0 rfl
              have c11 := (HS.out.blk p11.out y11.out).cell 0 rfl
              have hd1 : (pre.length : Int) < (l2.length : Int) := by omega
              have hd2 : decide ((pre.length : Int) < (l2.length : Int)) = true := by simpa using hd
              have hd3 : decide (pre.length < l2.length) = true := by simpa using hd
              have hpl := (HS.out.kept ((Kept.refl (fun _ => False) W).drewN 1)).play kx yx
              clear hx2
              refine wpIn_region_tail 11 (by kernel_rfl) (by kernel_rfl) (by kernel_rfl) ?_
              simp only [List.take_succ_cons, List.take_zero, List.drop_succ_cons, List.drop_zero]
              repeat still_step
              try refine wpStill_nil ?_
              go_wp2_with fail
              refine hpl.mono ?_
              rintro e WE ⟨rfl, u, u', h', l', hSE, hKE, hFE⟩
              have hKE' := hKE.undrew
              have SE := Lib.hid hSE
              have KE := Lib.hid (hKE'.mono (S' := fun i => (foot s v1 i ∨ foot b v1' i) ∨ Cx2 i) (fun i _ hi => Or.inl hi))
              have FE : Hid (∀ i, foot s u i ∨ foot b u' i → (foot s v1 i ∨ foot b v1' i) ∨ W.heap.size ≤ i) := hFE
              have NE := Lib.hid (HN.out.kept hKE' (fun e => HS.out.dis2 _ e pC.out))
              clear hSE hKE hFE hKE' hpl n16 w15 c6 c9 c11 e1 e2 hcell hd1 hd2 hd3
              go_wp2_with fail
              refine ⟨rfl, ?_⟩
              have b16 := NE.out.cell 0 rfl
              have f16 := NE.out.frozen 0
              have hadd : IntKind.i64.wrap ((pre.length : Int) + 1) = (pre.length : Int) + 1 := IntWalk.i64_in _ (by omega)
              have N5 := Lib.hid (NE.out.set 0 (.int .i64 ((pre.length : Int) + 1)))
              have k5 := (Kept.refl (fun i => i = P + 1) WE).setCell (p := ⟨P + 1, 0, none⟩) (Or.inl rfl) (.int .i64 ((pre.length : Int) + 1))
              have S5 := Lib.hid (SE.out.write pC.out pN.out (by have := HWM.out; omega) k5)
              have K5 := Lib.hid (KE.out.then k5 (fun i hi => Or.inl (Or.inr (by rw [hi]; exact pC.out))))
              have R5 := Lib.hid (fun NN => HS.out.round S5.out K5.out FE.out (fun i hi => by rw [pCe.out i hi]; exact HN.out.isCells) NN)
              have a7 := (S5.out.blk p7.out y7.out).cell 0 rfl
              have hlen : ((pre ++ [x]).length : Int) = (pre.length : Int) + 1 := by simp
              have HL := Lib.hid hlen
              clear hlen k5
              by_cases hlv : ((pre.length : Int) + 1) = a3
              · have hlvb : (((pre.length : Int) + 1) == a3) = true := by simpa using hlv
                have HLV := Lib.hid hlv
                clear hlv
                gi_wp2
                exact ⟨(R5.out _).1, rfl, ⟨⟨_, _, _, _, S5.out⟩, by rw [HL.out]; exact N5.out⟩, by rw [HL.out]; exact HLV.out⟩
              · have hlvb : (((pre.length : Int) + 1) == a3) = false := by simpa using hlv
                clear hlv
                gi_wp2
                exact ⟨(R5.out _).1, (R5.out 0).2, ⟨_, _, _, _, S5.out⟩, by rw [HL.out]; exact N5.out⟩
            · have hd2 : decide ((pre.length : Int) < (l2.length : Int)) = false := by simpa using hd
              have hd3 : decide (pre.length < l2.length) = false := by simpa using hd
              refine wpIn_region_reads (by kernel_rfl) (by kernel_rfl) (by kernel_rfl) ?_
              repeat (go_big_quiet_step (fail))
              refine wpQuiet_nil ?_
              rintro WE ⟨nq, rfl⟩
              have SE := Lib.hid (HS.out.kept ((Kept.refl (fun _ => False) W).drewN nq))
              have KE := Lib.hid ((Kept.refl (fun i => (foot s v1 i ∨ foot b v1' i) ∨ Cx2 i) W).drewN nq)
              have FE : Hid (∀ i, foot s v1 i ∨ foot b v1' i → (foot s v1 i ∨ foot b v1' i) ∨ W.heap.size ≤ i) := fun i hi => Or.inl hi
              have NE := Lib.hid (HN.out.drewN nq)
              obtain ⟨WE, hWE⟩ : ∃ WE, W.drewN nq = WE := ⟨_, rfl⟩
              rw [hWE] at SE KE NE ⊢
              clear hWE n16 w15 c6 hcell hd2 hd3
              have b16 := NE.out.cell 0 rfl
              have f16 := NE.out.frozen 0
              have hadd : IntKind.i64.wrap ((pre.length : Int) + 1) = (pre.length : Int) + 1 := IntWalk.i64_in _ (by omega)
              have N5 := Lib.hid (NE.out.set 0 (.int .i64 ((pre.length : Int) + 1)))
              have k5 := (Kept.refl (fun i => i = P + 1) WE).setCell (p := ⟨P + 1, 0, none⟩) (Or.inl rfl) (.int .i64 ((pre.length : Int) + 1))
              have S5 := Lib.hid (SE.out.write pC.out pN.out (by have := HWM.out; omega) k5)
              have K5 := Lib.hid (KE.out.then k5 (fun i hi => Or.inl (Or.inr (by rw [hi]; exact pC.out))))
              have R5 := Lib.hid (fun NN => HS.out.round S5.out K5.out FE.out (fun i hi => by rw [pCe.out i hi]; exact HN.out.isCells) NN)
              have a7 := (S5.out.blk p7.out y7.out).cell 0 rfl
              have hlen : ((pre ++ [x]).length : Int) = (pre.length : Int) + 1 := by simp
              have HL := Lib.hid hlen
              clear hlen k5
              by_cases hlv : ((pre.length : Int) + 1) = a3
              · have hlvb : (((pre.length : Int) + 1) == a3) = true := by simpa using hlv
                have HLV := Lib.hid hlv
                clear hlv
                gi_wp2
                exact ⟨(R5.out _).1, rfl, ⟨⟨_, _, _, _, S5.out⟩, by rw [HL.out]; exact N5.out⟩, by rw [HL.out]; exact HLV.out⟩
              · have hlvb : (((pre.length : Int) + 1) == a3) = false := by simpa using hlv
                clear hlv
                gi_wp2
                exact ⟨(R5.out _).1, (R5.out 0).2, ⟨_, _, _, _, S5.out⟩, by rw [HL.out]; exact N5.out⟩
          · have hxb : (x == z) = false := by simpa using hxz
            have hxn : (x != z) = true := by simpa using hxz
            have d8 := (HS.out.blk p8.out y8.out)
            have c8 := d8.cell 0 rfl
            have f8 := d8.frozen 0
            have HX := Lib.hid hxz
            clear hxz
            gi_wp2
            refine ⟨((Kept.refl (fun i => i = w.heap.size + 1 + 1) W).setCell (p := ⟨w.heap.size + 1 + 1, 0, none⟩) (Or.inl rfl) (.bool false)).others (fun i _ hi => by rw [hi]; exact d8.isCells) _, pre.length, x, by simp, ?_⟩
            rw [Hz.out]
            intro e
            exact HX.out (Option.some.inj e).symm
        case done =>
          rintro Df ys W hDf hys ⟨⟨v1, v1', h1, l1', hS⟩, hN⟩ hK
          rw [hys, List.length_reverse] at hN
          clear hys
          have HS := Lib.hid hS
          have HK := Lib.hid hK
          have n16 := hN.cell 0 rfl
          have c15 := (hS.blk pW.out BW.out).cell 0 rfl
          clear hS hK hN
          have c9 := (HS.out.blk p9.out y9.out).cell 0 rfl
          have c11 := (HS.out.blk p11.out y11.out).cell 0 rfl
          have hdn5 := down_ok HS.out.both.hr
          go_wp2_with fail
          refine hdn5.mono ?_
          rintro e Wd5 ⟨ao5, c5, rfl, hrow5, hfr5, hkd5⟩
          clear hdn5
          have bx18 := (Blk.new Wd5 [.int .i64 0] 3).alloc (.cells #[.slice ao5 l1'.length c5] 35)
          have bx19 := Blk.new (Wd5.alloc (.cells #[.int .i64 0] 3)) [.slice ao5 l1'.length c5] 35
          have k18 := (hkd5.alloc (.cells #[.int .i64 0] 3)).alloc (.cells #[.slice ao5 l1'.length c5] 35)
          have r5 := row_alloc (row_alloc hrow5 (.cells #[.int .i64 0] 3)) (.cells #[.slice ao5 l1'.length c5] 35)
          have z18 : ((Wd5.alloc (.cells #[.int .i64 0] 3)).alloc (.cells #[.slice ao5 l1'.length c5] 35)).heap.size = Wd5.heap.size + 2 := by simp
          have zd5 := hkd5.size
          have hrlt5 : ∀ g, (Value.slice ao5 l1'.length c5).ownBlock = some g → g < Wd5.heap.size := fun g hg => row_lt hrow5 hg
          rw [World.size_alloc] at bx19
          clear hkd5 hrow5 c9 c11
          go_wp2_with fail
          obtain ⟨x18, hx18⟩ : ∃ x, Wd5.heap.size = x := ⟨_, rfl⟩
          rw [hx18] at bx18 bx19 z18 hrlt5 zd5
          simp only [hx18]
          obtain ⟨W5, hW5⟩ : ∃ W5, (Wd5.alloc (.cells #[.int .i64 0] 3)).alloc (.cells #[.slice ao5 l1'.length c5] 35) = W5 := ⟨_, rfl⟩
          rw [hW5] at bx18 bx19 k18 z18 r5 ⊢
          obtain ⟨R5, hR5⟩ : ∃ R, l1'.reverse = R := ⟨_, rfl⟩
          have HRl5 : Hid (R5.length = l1'.length) := by show _ = _; rw [← hR5]; simp
          rw [hR5] at r5
          have HR5 := Lib.hid hR5
          have S5 := Lib.hid (HS.out.kept k18)
          have HK5 := Lib.hid ((k18.block Df (Array.getElem?_eq_some_iff.1 HK.out).1 (fun h => h)).trans HK.out)
          have W2x : W2.heap.size ≤ x18 := by have := HS.out.sz; omega
          have hMlt : M < x18 := by have := HS.out.lt M (Or.inl pM.out); omega
          have bM5 := S5.out.blk pM.out BM.out
          have hll5 : l1'.length ≤ 65536 := by have := S5.out.both.room; have := S5.out.both.top; omega
          have F18 : Hid (∀ i, foot s v1 i ∨ foot b v1' i → i < x18) := fun i hi => by have := HS.out.lts i hi; omega
          have FR : Hid (∀ g, (Value.slice ao5 l1'.length c5).ownBlock = some g → g < x18) := hrlt5
          have Z18 := Lib.hid z18
          have B18 := Lib.hid bx18
          have B19 := Lib.hid bx19
          have RW5 := Lib.hid r5
          have BM5 := Lib.hid bM5
          have DF5 : Hid (W2.heap.size ≤ Df ∧ Df < x18) := ⟨hDf, by have := (Array.getElem?_eq_some_iff.1 HK.out).1; omega⟩
          clear hx18 hW5 k18 z18 bx18 bx19 bM5 HK hR5 r5 hrlt5 hfr5 zd5
          have hring5 := S5.out.both.hs
          have hgs5 : Hangs (fun _ k => k = x18) (fun _ => False) W5.heap.size := ⟨fun _ _ _ _ h => h, fun _ h => h.elim⟩
          refine (wpIn_wide (n := 8)).1 ?_
          refine wpIn_rangeFunc_ownG rfl (by decide) (gf := 49) (lb := #[.pointer (some ⟨M, 0, none⟩)]) rfl trivial (enters_of Try.func49 (by kernel_rfl) rfl)
            (all_stops 7 M s _ D h1 l1' (fun _ k => k = x18) W5 (by decide) (fun W' _ k hk => by have := Z18.out; omega) (by have := Z18.out; omega) (BM5.out.cell 0 rfl) hring5) Keeps.trans ?hkbA (Below.refl _ _) (fun _ => rfl)
            (fun pre W => Kept (fun k => k = x18) W5 W ∧ Blk W x18 [.int .i64 pre.length] 3)
            (fun cd pre W => match cd with
              | .ret => ∃ (j : Nat) (z : Int), pre[j]? = some z ∧ R5[j]? ≠ some z
              | _ => False) ?hIA ?hIxA ⟨Kept.refl _ _, B18.out⟩ ?a1A ?assignA ?bodyA ?doneA ?stopA
          case hkbA => exact fun W l o o' hl ho hc _ => keeps_putObj hgs5 W l o o' hl ho hc
          case hIA =>
            rintro pre W W' row ⟨h1, h2⟩ hg hr
            exact ⟨h1.of_grown hg (n := W5.heap.size) (Nat.le_refl _) (fun r e => (hr r e).1), h2.cells hg (fun r e => (hr r e).2)⟩
          case hIxA =>
            rintro cd pre W W' row hI hg hr
            exact hI
          case assignA =>
            intro l x W K hK
            gi_wp2
            exact hK
          case bodyA =>
            rintro lp pre x W ⟨hKW, hNW⟩ hlt
            have hlt0 : (0 : Int) ≤ (pre.length : Int) := Int.natCast_nonneg _
            have hlt1 : (pre.length : Int) < (l1'.length : Int) := by omega
            have hge : ¬ (l1'.length : Int) ≤ (pre.length : Int) := by omega
            obtain ⟨z, hz⟩ : ∃ z, R5[pre.length]? = some z := ⟨_, List.getElem?_eq_getElem (by have := HRl5.out; omega)⟩
            have hcell : ∃ g, ao5 = some ⟨g, 0, none⟩ ∧ g ≠ x18 ∧ g < W5.heap.size ∧ W5.cell? ⟨g, pre.length, none⟩ = some (.int .i64 z) := by
              rcases row_forms RW5.out with ⟨_, h0⟩ | ⟨g, c', hv, _, _, hgl⟩
              · omega
              · have hv2 := hv
                cases hv
                exact ⟨g, rfl, by have := FR.out g rfl; omega, hgl, row_cell RW5.out _ (by rw [List.getElem?_map, hz]; rfl)⟩
            obtain ⟨g, rfl, hg18, hgl, hcell⟩ := hcell
            have n19 : ¬ x18 + 1 = x18 := by omega
            have c18 := hNW.cell 0 rfl
            have f18 := hNW.frozen 0
            have c19 := (B19.out.kept hKW n19).cell 0 rfl
            have ccl := (hKW.cell (p := ⟨g, pre.length, none⟩) hgl hg18).trans hcell
            have Hz := Lib.hid hz
            have HKW := Lib.hid hKW
            have HNW := Lib.hid hNW
            clear hz hcell hKW hNW
            by_cases hxz : x = z
            · subst hxz
              have hadd : IntKind.i64.wrap ((pre.length : Int) + 1) = (pre.length : Int) + 1 := IntWalk.i64_in _ (by omega)
              have k5 := (Kept.refl (fun i => i = x18) W).setCell (p := ⟨x18, 0, none⟩) (Or.inl rfl) (.int .i64 ((pre.length : Int) + 1))
              have K5 := Lib.hid (HKW.out.then k5 (fun i hi => Or.inl hi))
              have E5 := Lib.hid k5
              have N5 := Lib.hid (HNW.out.set 0 (.int .i64 ((pre.length : Int) + 1)))
              have hlen : ((pre ++ [x]).length : Int) = (pre.length : Int) + 1 := by simp
              have HL := Lib.hid hlen
              clear hlen k5
              gi_wp2
              exact ⟨E5.out.others (fun i _ hi => by rw [hi]; exact HNW.out.isCells) _, E5.out.keeps (fun _ h => h) (fun _ h => Or.inl h), K5.out, by rw [HL.out]; exact N5.out⟩
            · have hxb : (x == z) = false := by simpa using hxz
              have hxn : (x != z) = true := by simpa using hxz
              have n8 : ¬ (w.heap.size + 1 + 1 = x18) := by have := S5.out.lt _ (Or.inl p8.out); have := W2x; omega
              have d8 := ((S5.out.blk p8.out y8.out).kept HKW.out n8)
              have HX := Lib.hid hxz
              have c8 := d8.cell 0 rfl
              have f8 := d8.frozen 0
              clear hxz
              gi_wp2
              refine ⟨((Kept.refl (fun i => i = w.heap.size + 1 + 1) W).setCell (p := ⟨w.heap.size + 1 + 1, 0, none⟩) (Or.inl rfl) (.bool false)).others (fun i _ hi => by rw [hi]; exact d8.isCells) _, pre.length, x, by simp, ?_⟩
              rw [Hz.out]
              intro e
              exact HX.out (Option.some.inj e).symm
          case doneA =>
            rintro D2 ys W6 hD2 hys ⟨hKW, hNW⟩ hK2
            rw [hys, List.length_reverse] at hNW
            clear hys
            have n11 : ¬ x11 = x18 := by have := S5.out.lt x11 (Or.inl p11.out); have := W2x; omega
            have n9 : ¬ x9 = x18 := by have := S5.out.lt x9 (Or.inl p9.out); have := W2x; omega
            have n8 : ¬ (w.heap.size + 1 + 1 = x18) := by have := S5.out.lt _ (Or.inl p8.out); have := W2x; omega
            have n19 : ¬ x18 + 1 = x18 := by omega
            have hB6 := S5.out.both.kept hKW (fun i hi e => by have := F18.out i (Or.inl hi); omega) (fun i hi e => by have := F18.out i (Or.inr hi); omega)
            have c18 := hNW.cell 0 rfl
            have c19 := (B19.out.kept hKW n19).cell 0 rfl
            have c11 := ((S5.out.blk p11.out y11.out).kept hKW n11).cell 0 rfl
            have c9 := ((S5.out.blk p9.out y9.out).kept hKW n9).cell 0 rfl
            have b8 := ((S5.out.blk p8.out y8.out).kept hKW n8)
            have hD2lt : D2 < W6.heap.size := (Array.getElem?_eq_some_iff.1 hK2).1
            have hDflt : Df < W5.heap.size := (Array.getElem?_eq_some_iff.1 HK5.out).1
            have hbel6 := S5.out.below.trans (hKW.below (Nat.le_trans S5.out.z S5.out.sz) (fun i e => by have := HWM.out; have := hMlt; omega))
            have hDf6lt : Df < W6.heap.size := Nat.lt_of_lt_of_le hDflt hKW.size
            have hDf6 := (hKW.block Df hDflt (by have := DF5.out; omega)).trans HK5.out
            have z86 : w.heap.size ≤ W6.heap.size := hbel6.size
            have TL := Lib.hid (told_ok hB6)
            have B8' := Lib.hid b8
            have BL := Lib.hid hbel6
            have H6 := Lib.hid hDf6
            have K6 := Lib.hid hK2
            clear hB6 b8 hbel6 hDf6 hK2 hKW hNW
            go_wp2_with fail
            refine TL.out.mono ?_
            rintro e w4 ⟨rfl, k4⟩
            go_wp2_with fail
            refine (hal _).mono ?_
            rintro e w5 ⟨rfl, k5⟩
            have d8 := ((B8'.out.kept k4 (fun h => h)).kept k5 (fun h => h))
            have f8 := d8.frozen 0
            have c8 := d8.cell 0 rfl
            go_wp2_with fail
            have kz : Kept (fun i => i = w.heap.size + 1 + 1) W6 (w5.setCell ⟨w.heap.size + 1 + 1, 0, none⟩ (.bool true)) := (((k4.then k5 (fun _ h => h.elim)).mono (S' := fun i => i = w.heap.size + 1 + 1) (fun _ _ h => h.elim)).set (b := w.heap.size + 1 + 1) 0 (Or.inl rfl) _)
            have l8w : w.heap.size + 1 + 1 < W2.heap.size := S5.out.lt _ (Or.inl p8.out)
            have q1 := (kz.block D2 hD2lt (by have := DF5.out; have := Z18.out; have := W2x; omega)).trans K6.out
            refine ⟨by simp, .inl ⟨_, _, rfl, run_takeDeferred q1, ?_⟩⟩
            have hg1 := grownBy_putObj' (w5.setCell ⟨w.heap.size + 1 + 1, 0, none⟩ (.bool true)) D2 (.deferred none)
            have hne : Df ≠ D2 := by have := DF5.out; have := Z18.out; omega
            have q2 := (hg1.block Df (by have := kz.size; have := hDflt; have := hDf6lt; omega) (fun e => hne (by cases e; rfl))).trans ((kz.block Df hDf6lt (by have := DF5.out; omega)).trans H6.out)
            refine ⟨by simp, .inl ⟨_, _, rfl, run_takeDeferred q2, ?_⟩⟩
            have hg2 := grownBy_putObj' ((w5.setCell ⟨w.heap.size + 1 + 1, 0, none⟩ (.bool true)).putObj D2 (.deferred none)) Df (.deferred none)
            have hx8 := (((d8.set 0 (.bool true)).cells hg1 (fun r e => by cases e; exact ⟨_, q1, rfl⟩)).cells hg2 (fun r e => by cases e; exact ⟨_, q2, rfl⟩)).cell 0 rfl
            refine ⟨_, results_cell rfl Try.underlying4 _ _ rfl hx8, rfl, ?_⟩
            have kk1 : Kept (fun k => k = D2) _ _ := (Kept.refl _ (w5.setCell ⟨w.heap.size + 1 + 1, 0, none⟩ (.bool true))).grown hg1 (fun k e => Or.inl (by cases e; rfl))
            have kk2 : Kept (fun k => k = Df) _ _ := (Kept.refl _ ((w5.setCell ⟨w.heap.size + 1 + 1, 0, none⟩ (.bool true)).putObj D2 (.deferred none))).grown hg2 (fun k e => Or.inl (by cases e; rfl))
            have g1 := kz.size
            have g2 := kk1.size
            exact ((BL.out.trans (kz.below z86 (fun i e => by omega))).trans (kk1.below (by omega) (fun i e => by have := Z18.out; have := W2x; omega))).trans (kk2.below (by omega) (fun i e => by have := DF5.out; omega))
          case stopA =>
            rintro D2 cd pre W6 hD2 hpre hI hK2
            cases cd with
            | ret =>
              obtain ⟨j, z, h1, h2⟩ := hI
              rw [HR5.out] at hpre
              exact absurd (prefix_at hpre h1) h2
            | _ => exact hI.elim
        case stop =>
          rintro Df cd pre W hDf hpre hI hK
          rw [HR.out] at hpre
          cases cd with
          | ret =>
            obtain ⟨j, z, h1, h2⟩ := hI
            exact absurd (prefix_at hpre h1) h2
          | exit i =>
            obtain ⟨rfl, ⟨⟨v1, v1', h1, l1', hS⟩, hN⟩, hlv⟩ := hI
            have HS := Lib.hid hS
            have HK := Lib.hid hK
            have n16 := hN.cell 0 rfl
            have c15 := (hS.blk pW.out BW.out).cell 0 rfl
            have c7 := (hS.blk p7.out y7.out).cell 0 rfl
            clear hS hK hN
            refine wpIn_wide.2 ?_
            have hn2 : ((pre.length : Int) != a3) = false := by simp [hlv]
            have HLV := Lib.hid hlv
            clear hlv
            by_cases hpl : pre.length = l.length
            · have hn1 : ((pre.length : Int) != (l.length : Int)) = false := by simp [hpl]
              have HPL := Lib.hid hpl
              clear hpl
              have c9 := (HS.out.blk p9.out y9.out).cell 0 rfl
              have c11 := (HS.out.blk p11.out y11.out).cell 0 rfl
              have hdn5 := down_ok HS.out.both.hr
              go_wp2_with fail
              refine hdn5.mono ?_
              rintro e Wd5 ⟨ao5, c5, rfl, hrow5, hfr5, hkd5⟩
              clear hdn5
              have bx18 := (Blk.new Wd5 [.int .i64 0] 3).alloc (.cells #[.slice ao5 l1'.length c5] 35)
              have bx19 := Blk.new (Wd5.alloc (.cells #[.int .i64 0] 3)) [.slice ao5 l1'.length c5] 35
              have k18 := (hkd5.alloc (.cells #[.int .i64 0] 3)).alloc (.cells #[.slice ao5 l1'.length c5] 35)
              have r5 := row_alloc (row_alloc hrow5 (.cells #[.int .i64 0] 3)) (.cells #[.slice ao5 l1'.length c5] 35)
              have z18 : ((Wd5.alloc (.cells #[.int .i64 0] 3)).alloc (.cells #[.slice ao5 l1'.length c5] 35)).heap.size = Wd5.heap.size + 2 := by simp
              have zd5 := hkd5.size
              have hrlt5 : ∀ g, (Value.slice ao5 l1'.length c5).ownBlock = some g → g < Wd5.heap.size := fun g hg => row_lt hrow5 hg
              rw [World.size_alloc] at bx19
              clear hkd5 hrow5 c9 c11
              go_wp2_with fail
              obtain ⟨x18, hx18⟩ : ∃ x, Wd5.heap.size = x := ⟨_, rfl⟩
              rw [hx18] at bx18 bx19 z18 hrlt5 zd5
              simp only [hx18]
              obtain ⟨W5, hW5⟩ : ∃ W5, (Wd5.alloc (.cells #[.int .i64 0] 3)).alloc (.cells #[.slice ao5 l1'.length c5] 35) = W5 := ⟨_, rfl⟩
              rw [hW5] at bx18 bx19 k18 z18 r5 ⊢
              obtain ⟨R5, hR5⟩ : ∃ R, l1'.reverse = R := ⟨_, rfl⟩
              have HRl5 : Hid (R5.length = l1'.length) := by show _ = _; rw [← hR5]; simp
              rw [hR5] at r5
              have HR5 := Lib.hid hR5
              have S5 := Lib.hid (HS.out.kept k18)
              have HK5 := Lib.hid ((k18.block Df (Array.getElem?_eq_some_iff.1 HK.out).1 (fun h => h)).trans HK.out)
              have W2x : W2.heap.size ≤ x18 := by have := HS.out.sz; omega
              have hMlt : M < x18 := by have := HS.out.lt M (Or.inl pM.out); omega
              have bM5 := S5.out.blk pM.out BM.out
              have hll5 : l1'.length ≤ 65536 := by have := S5.out.both.room; have := S5.out.both.top; omega
              have F18 : Hid (∀ i, foot s v1 i ∨ foot b v1' i → i < x18) := fun i hi => by have := HS.out.lts i hi; omega
              have FR : Hid (∀ g, (Value.slice ao5 l1'.length c5).ownBlock = some g → g < x18) := hrlt5
              have Z18 := Lib.hid z18
              have B18 := Lib.hid bx18
              have B19 := Lib.hid bx19
              have RW5 := Lib.hid r5
              have BM5 := Lib.hid bM5
              have DF5 : Hid (W2.heap.size ≤ Df ∧ Df < x18) := ⟨hDf, by have := (Array.getElem?_eq_some_iff.1 HK.out).1; omega⟩
              clear hx18 hW5 k18 z18 bx18 bx19 bM5 HK hR5 r5 hrlt5 hfr5 zd5
              have hring5 := S5.out.both.hs
              have hgs5 : Hangs (fun _ k => k = x18) (fun _ => False) W5.heap.size := ⟨fun _ _ _ _ h => h, fun _ h => h.elim⟩
              refine (wpIn_wide (n := 8)).1 ?_
              refine wpIn_rangeFunc_ownG rfl (by decide) (gf := 49) (lb := #[.pointer (some ⟨M, 0, none⟩)]) rfl trivial (enters_of Try.func49 (by kernel_rfl) rfl)
                (all_stops 7 M s _ D h1 l1' (fun _ k => k = x18) W5 (by decide) (fun W' _ k hk => by have := Z18.out; omega) (by have := Z18.out; omega) (BM5.out.cell 0 rfl) hring5) Keeps.trans ?hkbB (Below.refl _ _) (fun _ => rfl)
                (fun pre W => Kept (fun k => k = x18) W5 W ∧ Blk W x18 [.int .i64 pre.length] 3)
                (fun cd pre W => match cd with
                  | .ret => ∃ (j : Nat) (z : Int), pre[j]? = some z ∧ R5[j]? ≠ some z
                  | _ => False) ?hIB ?hIxB ⟨Kept.refl _ _, B18.out⟩ ?a1B ?assignB ?bodyB ?doneB ?stopB
              case hkbB => exact fun W l o o' hl ho hc _ => keeps_putObj hgs5 W l o o' hl ho hc
              case hIB =>
                rintro pre W W' row ⟨h1, h2⟩ hg hr
                exact ⟨h1.of_grown hg (n := W5.heap.size) (Nat.le_refl _) (fun r e => (hr r e).1), h2.cells hg (fun r e => (hr r e).2)⟩
              case hIxB =>
                rintro cd pre W W' row hI hg hr
                exact hI
              case assignB =>
                intro l x W K hK
                gi_wp2
                exact hK
              case bodyB =>
                rintro lp pre x W ⟨hKW, hNW⟩ hlt
                have hlt0 : (0 : Int) ≤ (pre.length : Int) := Int.natCast_nonneg _
                have hlt1 : (pre.length : Int) < (l1'.length : Int) := by omega
                have hge : ¬ (l1'.length : Int) ≤ (pre.length : Int) := by omega
                obtain ⟨z, hz⟩ : ∃ z, R5[pre.length]? = some z := ⟨_, List.getElem?_eq_getElem (by have := HRl5.out; omega)⟩
                have hcell : ∃ g, ao5 = some ⟨g, 0, none⟩ ∧ g ≠ x18 ∧ g < W5.heap.size ∧ W5.cell? ⟨g, pre.length, none⟩ = some (.int .i64 z) := by
                  rcases row_forms RW5.out with ⟨_, h0⟩ | ⟨g, c', hv, _, _, hgl⟩
                  · omega
                  · have hv2 := hv
                    cases hv
                    exact ⟨g, rfl, by have := FR.out g rfl; omega, hgl, row_cell RW5.out _ (by rw [List.getElem?_map, hz]; rfl)⟩
                obtain ⟨g, rfl, hg18, hgl, hcell⟩ := hcell
                have n19 : ¬ x18 + 1 = x18 := by omega
                have c18 := hNW.cell 0 rfl
                have f18 := hNW.frozen 0
                have c19 := (B19.out.kept hKW n19).cell 0 rfl
                have ccl := (hKW.cell (p := ⟨g, pre.length, none⟩) hgl hg18).trans hcell
                have Hz := Lib.hid hz
                have HKW := Lib.hid hKW
                have HNW := Lib.hid hNW
                clear hz hcell hKW hNW
                by_cases hxz : x = z
                · subst hxz
                  have hadd : IntKind.i64.wrap ((pre.length : Int) + 1) = (pre.length : Int) + 1 := IntWalk.i64_in _ (by omega)
                  have k5 := (Kept.refl (fun i => i = x18) W).setCell (p := ⟨x18, 0, none⟩) (Or.inl rfl) (.int .i64 ((pre.length : Int) + 1))
                  have K5 := Lib.hid (HKW.out.then k5 (fun i hi => Or.inl hi))
                  have E5 := Lib.hid k5
                  have N5 := Lib.hid (HNW.out.set 0 (.int .i64 ((pre.length : Int) + 1)))
                  have hlen : ((pre ++ [x]).length : Int) = (pre.length : Int) + 1 := by simp
                  have HL := Lib.hid hlen
                  clear hlen k5
                  gi_wp2
                  exact ⟨E5.out.others (fun i _ hi => by rw [hi]; exact HNW.out.isCells) _, E5.out.keeps (fun _ h => h) (fun _ h => Or.inl h), K5.out, by rw [HL.out]; exact N5.out⟩
                · have hxb : (x == z) = false := by simpa using hxz
                  have hxn : (x != z) = true := by simpa using hxz
                  have n8 : ¬ (w.heap.size + 1 + 1 = x18) := by have := S5.out.lt _ (Or.inl p8.out); have := W2x; omega
                  have d8 := ((S5.out.blk p8.out y8.out).kept HKW.out n8)
                  have HX := Lib.hid hxz
                  have c8 := d8.cell 0 rfl
                  have f8 := d8.frozen 0
                  clear hxz
                  gi_wp2
                  refine ⟨((Kept.refl (fun i => i = w.heap.size + 1 + 1) W).setCell (p := ⟨w.heap.size + 1 + 1, 0, none⟩) (Or.inl rfl) (.bool false)).others (fun i _ hi => by rw [hi]; exact d8.isCells) _, pre.length, x, by simp, ?_⟩
                  rw [Hz.out]
                  intro e
                  exact HX.out (Option.some.inj e).symm
              case doneB =>
                rintro D2 ys W6 hD2 hys ⟨hKW, hNW⟩ hK2
                rw [hys, List.length_reverse] at hNW
                clear hys
                have n11 : ¬ x11 = x18 := by have := S5.out.lt x11 (Or.inl p11.out); have := W2x; omega
                have n9 : ¬ x9 = x18 := by have := S5.out.lt x9 (Or.inl p9.out); have := W2x; omega
                have n8 : ¬ (w.heap.size + 1 + 1 = x18) := by have := S5.out.lt _ (Or.inl p8.out); have := W2x; omega
                have n19 : ¬ x18 + 1 = x18 := by omega
                have hB6 := S5.out.both.kept hKW (fun i hi e => by have := F18.out i (Or.inl hi); omega) (fun i hi e => by have := F18.out i (Or.inr hi); omega)
                have c18 := hNW.cell 0 rfl
                have c19 := (B19.out.kept hKW n19).cell 0 rfl
                have c11 := ((S5.out.blk p11.out y11.out).kept hKW n11).cell 0 rfl
                have c9 := ((S5.out.blk p9.out y9.out).kept hKW n9).cell 0 rfl
                have b8 := ((S5.out.blk p8.out y8.out).kept hKW n8)
                have hD2lt : D2 < W6.heap.size := (Array.getElem?_eq_some_iff.1 hK2).1
                have hDflt : Df < W5.heap.size := (Array.getElem?_eq_some_iff.1 HK5.out).1
                have hbel6 := S5.out.below.trans (hKW.below (Nat.le_trans S5.out.z S5.out.sz) (fun i e => by have := HWM.out; have := hMlt; omega))
                have hDf6lt : Df < W6.heap.size := Nat.lt_of_lt_of_le hDflt hKW.size
                have hDf6 := (hKW.block Df hDflt (by have := DF5.out; omega)).trans HK5.out
                have z86 : w.heap.size ≤ W6.heap.size := hbel6.size
                have TL := Lib.hid (told_ok hB6)
                have B8' := Lib.hid b8
                have BL := Lib.hid hbel6
                have H6 := Lib.hid hDf6
                have K6 := Lib.hid hK2
                clear hB6 b8 hbel6 hDf6 hK2 hKW hNW
                go_wp2_with fail
                refine TL.out.mono ?_
                rintro e w4 ⟨rfl, k4⟩
                go_wp2_with fail
                refine (hal _).mono ?_
                rintro e w5 ⟨rfl, k5⟩
                have d8 := ((B8'.out.kept k4 (fun h => h)).kept k5 (fun h => h))
                have f8 := d8.frozen 0
                have c8 := d8.cell 0 rfl
                go_wp2_with fail
                have kz : Kept (fun i => i = w.heap.size + 1 + 1) W6 (w5.setCell ⟨w.heap.size + 1 + 1, 0, none⟩ (.bool true)) := (((k4.then k5 (fun _ h => h.elim)).mono (S' := fun i => i = w.heap.size + 1 + 1) (fun _ _ h => h.elim)).set (b := w.heap.size + 1 + 1) 0 (Or.inl rfl) _)
                have l8w : w.heap.size + 1 + 1 < W2.heap.size := S5.out.lt _ (Or.inl p8.out)
                have q1 := (kz.block D2 hD2lt (by have := DF5.out; have := Z18.out; have := W2x; omega)).trans K6.out
                refine ⟨by simp, .inl ⟨_, _, rfl, run_takeDeferred q1, ?_⟩⟩
                have hg1 := grownBy_putObj' (w5.setCell ⟨w.heap.size + 1 + 1, 0, none⟩ (.bool true)) D2 (.deferred none)
                have hne : Df ≠ D2 := by have := DF5.out; have := Z18.out; omega
                have q2 := (hg1.block Df (by have := kz.size; have := hDflt; have := hDf6lt; omega) (fun e => hne (by cases e; rfl))).trans ((kz.block Df hDf6lt (by have := DF5.out; omega)).trans H6.out)
                refine ⟨by simp, .inl ⟨_, _, rfl, run_takeDeferred q2, ?_⟩⟩
                have hg2 := grownBy_putObj' ((w5.setCell ⟨w.heap.size + 1 + 1, 0, none⟩ (.bool true)).putObj D2 (.deferred none)) Df (.deferred none)
                have hx8 := (((d8.set 0 (.bool true)).cells hg1 (fun r e => by cases e; exact ⟨_, q1, rfl⟩)).cells hg2 (fun r e => by cases e; exact ⟨_, q2, rfl⟩)).cell 0 rfl
                refine ⟨_, results_cell rfl Try.underlying4 _ _ rfl hx8, rfl, ?_⟩
                have kk1 : Kept (fun k => k = D2) _ _ := (Kept.refl _ (w5.setCell ⟨w.heap.size + 1 + 1, 0, none⟩ (.bool true))).grown hg1 (fun k e => Or.inl (by cases e; rfl))
                have kk2 : Kept (fun k => k = Df) _ _ := (Kept.refl _ ((w5.setCell ⟨w.heap.size + 1 + 1, 0, none⟩ (.bool true)).putObj D2 (.deferred none))).grown hg2 (fun k e => Or.inl (by cases e; rfl))
                have g1 := kz.size
                have g2 := kk1.size
                exact ((BL.out.trans (kz.below z86 (fun i e => by omega))).trans (kk1.below (by omega) (fun i e => by have := Z18.out; have := W2x; omega))).trans (kk2.below (by omega) (fun i e => by have := DF5.out; omega))
              case stopB =>
                rintro D2 cd pre W6 hD2 hpre hI hK2
                cases cd with
                | ret =>
                  obtain ⟨j, z, h1, h2⟩ := hI
                  rw [HR5.out] at hpre
                  exact absurd (prefix_at hpre h1) h2
                | _ => exact hI.elim
            · have hn1 : ((pre.length : Int) != (l.length : Int)) = true := by simp; omega
              clear hpl
              have c9 := (HS.out.blk p9.out y9.out).cell 0 rfl
              have c11 := (HS.out.blk p11.out y11.out).cell 0 rfl
              have hdn5 := down_ok HS.out.both.hr
              go_wp2_with fail
              refine hdn5.mono ?_
              rintro e Wd5 ⟨ao5, c5, rfl, hrow5, hfr5, hkd5⟩
              clear hdn5
              have bx18 := (Blk.new Wd5 [.int .i64 0] 3).alloc (.cells #[.slice ao5 l1'.length c5] 35)
              have bx19 := Blk.new (Wd5.alloc (.cells #[.int .i64 0] 3)) [.slice ao5 l1'.length c5] 35
              have k18 := (hkd5.alloc (.cells #[.int .i64 0] 3)).alloc (.cells #[.slice ao5 l1'.length c5] 35)
              have r5 := row_alloc (row_alloc hrow5 (.cells #[.int .i64 0] 3)) (.cells #[.slice ao5 l1'.length c5] 35)
              have z18 : ((Wd5.alloc (.cells #[.int .i64 0] 3)).alloc (.cells #[.slice ao5 l1'.length c5] 35)).heap.size = Wd5.heap.size + 2 := by simp
              have zd5 := hkd5.size
              have hrlt5 : ∀ g, (Value.slice ao5 l1'.length c5).ownBlock = some g → g < Wd5.heap.size := fun g hg => row_lt hrow5 hg
              rw [World.size_alloc] at bx19
              clear hkd5 hrow5 c9 c11
              go_wp2_with fail
              obtain ⟨x18, hx18⟩ : ∃ x, Wd5.heap.size = x := ⟨_, rfl⟩
              rw [hx18] at bx18 bx19 z18 hrlt5 zd5
              simp only [hx18]
              obtain ⟨W5, hW5⟩ : ∃ W5, (Wd5.alloc (.cells #[.int .i64 0] 3)).alloc (.cells #[.slice ao5 l1'.length c5] 35) = W5 := ⟨_, rfl⟩
              rw [hW5] at bx18 bx19 k18 z18 r5 ⊢
              obtain ⟨R5, hR5⟩ : ∃ R, l1'.reverse = R := ⟨_, rfl⟩
              have HRl5 : Hid (R5.length = l1'.length) := by show _ = _; rw [← hR5]; simp
              rw [hR5] at r5
              have HR5 := Lib.hid hR5
              have S5 := Lib.hid (HS.out.kept k18)
              have HK5 := Lib.hid ((k18.block Df (Array.getElem?_eq_some_iff.1 HK.out).1 (fun h => h)).trans HK.out)
              have W2x : W2.heap.size ≤ x18 := by have := HS.out.sz; omega
              have hMlt : M < x18 := by have := HS.out.lt M (Or.inl pM.out); omega
              have bM5 := S5.out.blk pM.out BM.out
              have hll5 : l1'.length ≤ 65536 := by have := S5.out.both.room; have := S5.out.both.top; omega
              have F18 : Hid (∀ i, foot s v1 i ∨ foot b v1' i → i < x18) := fun i hi => by have := HS.out.lts i hi; omega
              have FR : Hid (∀ g, (Value.slice ao5 l1'.length c5).ownBlock = some g → g < x18) := hrlt5
              have Z18 := Lib.hid z18
              have B18 := Lib.hid bx18
              have B19 := Lib.hid bx19
              have RW5 := Lib.hid r5
              have BM5 := Lib.hid bM5
              have DF5 : Hid (W2.heap.size ≤ Df ∧ Df < x18) := ⟨hDf, by have := (Array.getElem?_eq_some_iff.1 HK.out).1; omega⟩
              clear hx18 hW5 k18 z18 bx18 bx19 bM5 HK hR5 r5 hrlt5 hfr5 zd5
              have hring5 := S5.out.both.hs
              have hgs5 : Hangs (fun _ k => k = x18) (fun _ => False) W5.heap.size := ⟨fun _ _ _ _ h => h, fun _ h => h.elim⟩
              refine (wpIn_wide (n := 8)).1 ?_
              refine wpIn_rangeFunc_ownG rfl (by decide) (gf := 49) (lb := #[.pointer (some ⟨M, 0, none⟩)]) rfl trivial (enters_of Try.func49 (by kernel_rfl) rfl)
                (all_stops 7 M s _ D h1 l1' (fun _ k => k = x18) W5 (by decide) (fun W' _ k hk => by have := Z18.out; omega) (by have := Z18.out; omega) (BM5.out.cell 0 rfl) hring5) Keeps.trans ?hkbC (Below.refl _ _) (fun _ => rfl)
                (fun pre W => Kept (fun k => k = x18) W5 W ∧ Blk W x18 [.int .i64 pre.length] 3)
                (fun cd pre W => match cd with
                  | .ret => ∃ (j : Nat) (z : Int), pre[j]? = some z ∧ R5[j]? ≠ some z
                  | _ => False) ?hIC ?hIxC ⟨Kept.refl _ _, B18.out⟩ ?a1C ?assignC ?bodyC ?doneC ?stopC
              case hkbC => exact fun W l o o' hl ho hc _ => keeps_putObj hgs5 W l o o' hl ho hc
              case hIC =>
                rintro pre W W' row ⟨h1, h2⟩ hg hr
                exact ⟨h1.of_grown hg (n := W5.heap.size) (Nat.le_refl _) (fun r e => (hr r e).1), h2.cells hg (fun r e => (hr r e).2)⟩
              case hIxC =>
                rintro cd pre W W' row hI hg hr
                exact hI
              case assignC =>
                intro l x W K hK
                gi_wp2
                exact hK
              case bodyC =>
                rintro lp pre x W ⟨hKW, hNW⟩ hlt
                have hlt0 : (0 : Int) ≤ (pre.length : Int) := Int.natCast_nonneg _
                have hlt1 : (pre.length : Int) < (l1'.length : Int) := by omega
                have hge : ¬ (l1'.length : Int) ≤ (pre.length : Int) := by omega
                obtain ⟨z, hz⟩ : ∃ z, R5[pre.length]? = some z := ⟨_, List.getElem?_eq_getElem (by have := HRl5.out; omega)⟩
                have hcell : ∃ g, ao5 = some ⟨g, 0, none⟩ ∧ g ≠ x18 ∧ g < W5.heap.size ∧ W5.cell? ⟨g, pre.length, none⟩ = some (.int .i64 z) := by
                  rcases row_forms RW5.out with ⟨_, h0⟩ | ⟨g, c', hv, _, _, hgl⟩
                  · omega
                  · have hv2 := hv
                    cases hv
                    exact ⟨g, rfl, by have := FR.out g rfl; omega, hgl, row_cell RW5.out _ (by rw [List.getElem?_map, hz]; rfl)⟩
                obtain ⟨g, rfl, hg18, hgl, hcell⟩ := hcell
                have n19 : ¬ x18 + 1 = x18 := by omega
                have c18 := hNW.cell 0 rfl
                have f18 := hNW.frozen 0
                have c19 := (B19.out.kept hKW n19).cell 0 rfl
                have ccl := (hKW.cell (p := ⟨g, pre.length, none⟩) hgl hg18).trans hcell
                have Hz := Lib.hid hz
                have HKW := Lib.hid hKW
                have HNW := Lib.hid hNW
                clear hz hcell hKW hNW
                by_cases hxz : x = z
                · subst hxz
                  have hadd : IntKind.i64.wrap ((pre.length : Int) + 1) = (pre.length : Int) + 1 := IntWalk.i64_in _ (by omega)
                  have k5 := (Kept.refl (fun i => i = x18) W).setCell (p := ⟨x18, 0, none⟩) (Or.inl rfl) (.int .i64 ((pre.length : Int) + 1))
                  have K5 := Lib.hid (HKW.out.then k5 (fun i hi => Or.inl hi))
                  have E5 := Lib.hid k5
                  have N5 := Lib.hid (HNW.out.set 0 (.int .i64 ((pre.length : Int) + 1)))
                  have hlen : ((pre ++ [x]).length : Int) = (pre.length : Int) + 1 := by simp
                  have HL := Lib.hid hlen
                  clear hlen k5
                  gi_wp2
                  exact ⟨E5.out.others (fun i _ hi => by rw [hi]; exact HNW.out.isCells) _, E5.out.keeps (fun _ h => h) (fun _ h => Or.inl h), K5.out, by rw [HL.out]; exact N5.out⟩
                · have hxb : (x == z) = false := by simpa using hxz
                  have hxn : (x != z) = true := by simpa using hxz
                  have n8 : ¬ (w.heap.size + 1 + 1 = x18) := by have := S5.out.lt _ (Or.inl p8.out); have := W2x; omega
                  have d8 := ((S5.out.blk p8.out y8.out).kept HKW.out n8)
                  have HX := Lib.hid hxz
                  have c8 := d8.cell 0 rfl
                  have f8 := d8.frozen 0
                  clear hxz
                  gi_wp2
                  refine ⟨((Kept.refl (fun i => i = w.heap.size + 1 + 1) W).setCell (p := ⟨w.heap.size + 1 + 1, 0, none⟩) (Or.inl rfl) (.bool false)).others (fun i _ hi => by rw [hi]; exact d8.isCells) _, pre.length, x, by simp, ?_⟩
                  rw [Hz.out]
                  intro e
                  exact HX.out (Option.some.inj e).symm
              case doneC =>
                rintro D2 ys W6 hD2 hys ⟨hKW, hNW⟩ hK2
                rw [hys, List.length_reverse] at hNW
                clear hys
                have n11 : ¬ x11 = x18 := by have := S5.out.lt x11 (Or.inl p11.out); have := W2x; omega
                have n9 : ¬ x9 = x18 := by have := S5.out.lt x9 (Or.inl p9.out); have := W2x; omega
                have n8 : ¬ (w.heap.size + 1 + 1 = x18) := by have := S5.out.lt _ (Or.inl p8.out); have := W2x; omega
                have n19 : ¬ x18 + 1 = x18 := by omega
                have hB6 := S5.out.both.kept hKW (fun i hi e => by have := F18.out i (Or.inl hi); omega) (fun i hi e => by have := F18.out i (Or.inr hi); omega)
                have c18 := hNW.cell 0 rfl
                have c19 := (B19.out.kept hKW n19).cell 0 rfl
                have c11 := ((S5.out.blk p11.out y11.out).kept hKW n11).cell 0 rfl
                have c9 := ((S5.out.blk p9.out y9.out).kept hKW n9).cell 0 rfl
                have b8 := ((S5.out.blk p8.out y8.out).kept hKW n8)
                have hD2lt : D2 < W6.heap.size := (Array.getElem?_eq_some_iff.1 hK2).1
                have hDflt : Df < W5.heap.size := (Array.getElem?_eq_some_iff.1 HK5.out).1
                have hbel6 := S5.out.below.trans (hKW.below (Nat.le_trans S5.out.z S5.out.sz) (fun i e => by have := HWM.out; have := hMlt; omega))
                have hDf6lt : Df < W6.heap.size := Nat.lt_of_lt_of_le hDflt hKW.size
                have hDf6 := (hKW.block Df hDflt (by have := DF5.out; omega)).trans HK5.out
                have z86 : w.heap.size ≤ W6.heap.size := hbel6.size
                have TL := Lib.hid (told_ok hB6)
                have B8' := Lib.hid b8
                have BL := Lib.hid hbel6
                have H6 := Lib.hid hDf6
                have K6 := Lib.hid hK2
                clear hB6 b8 hbel6 hDf6 hK2 hKW hNW
                go_wp2_with fail
                refine TL.out.mono ?_
                rintro e w4 ⟨rfl, k4⟩
                go_wp2_with fail
                refine (hal _).mono ?_
                rintro e w5 ⟨rfl, k5⟩
                have d8 := ((B8'.out.kept k4 (fun h => h)).kept k5 (fun h => h))
                have f8 := d8.frozen 0
                have c8 := d8.cell 0 rfl
                go_wp2_with fail
                have kz : Kept (fun i => i = w.heap.size + 1 + 1) W6 (w5.setCell ⟨w.heap.size + 1 + 1, 0, none⟩ (.bool true)) := (((k4.then k5 (fun _ h => h.elim)).mono (S' := fun i => i = w.heap.size + 1 + 1) (fun _ _ h => h.elim)).set (b := w.heap.size + 1 + 1) 0 (Or.inl rfl) _)
                have l8w : w.heap.size + 1 + 1 < W2.heap.size := S5.out.lt _ (Or.inl p8.out)
                have q1 := (kz.block D2 hD2lt (by have := DF5.out; have := Z18.out; have := W2x; omega)).trans K6.out
                refine ⟨by simp, .inl ⟨_, _, rfl, run_takeDeferred q1, ?_⟩⟩
                have hg1 := grownBy_putObj' (w5.setCell ⟨w.heap.size + 1 + 1, 0, none⟩ (.bool true)) D2 (.deferred none)
                have hne : Df ≠ D2 := by have := DF5.out; have := Z18.out; omega
                have q2 := (hg1.block Df (by have := kz.size; have := hDflt; have := hDf6lt; omega) (fun e => hne (by cases e; rfl))).trans ((kz.block Df hDf6lt (by have := DF5.out; omega)).trans H6.out)
                refine ⟨by simp, .inl ⟨_, _, rfl, run_takeDeferred q2, ?_⟩⟩
                have hg2 := grownBy_putObj' ((w5.setCell ⟨w.heap.size + 1 + 1, 0, none⟩ (.bool true)).putObj D2 (.deferred none)) Df (.deferred none)
                have hx8 := (((d8.set 0 (.bool true)).cells hg1 (fun r e => by cases e; exact ⟨_, q1, rfl⟩)).cells hg2 (fun r e => by cases e; exact ⟨_, q2, rfl⟩)).cell 0 rfl
                refine ⟨_, results_cell rfl Try.underlying4 _ _ rfl hx8, rfl, ?_⟩
                have kk1 : Kept (fun k => k = D2) _ _ := (Kept.refl _ (w5.setCell ⟨w.heap.size + 1 + 1, 0, none⟩ (.bool true))).grown hg1 (fun k e => Or.inl (by cases e; rfl))
                have kk2 : Kept (fun k => k = Df) _ _ := (Kept.refl _ ((w5.setCell ⟨w.heap.size + 1 + 1, 0, none⟩ (.bool true)).putObj D2 (.deferred none))).grown hg2 (fun k e => Or.inl (by cases e; rfl))
                have g1 := kz.size
                have g2 := kk1.size
                exact ((BL.out.trans (kz.below z86 (fun i e => by omega))).trans (kk1.below (by omega) (fun i e => by have := Z18.out; have := W2x; omega))).trans (kk2.below (by omega) (fun i e => by have := DF5.out; omega))
              case stopC =>
                rintro D2 cd pre W6 hD2 hpre hI hK2
                cases cd with
                | ret =>
                  obtain ⟨j, z, h1, h2⟩ := hI
                  rw [HR5.out] at hpre
                  exact absurd (prefix_at hpre h1) h2
                | _ => exact hI.elim
          | _ => exact hI.elim
end Go.Proofs.Ytpbjmkdpeadjeaa.stackSeenW
