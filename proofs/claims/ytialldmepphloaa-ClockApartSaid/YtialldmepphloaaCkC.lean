/- tappetlaw16: play's Coming; play whole. -/
import Derived.Test.YtialldmepphloaaCkU
namespace Go.Proofs.Ytialldmepphloaa.L
open Go.RowKit Go.Fr Go.Proofs.Ytialldmepphloaa.CK

/-- the two answers, the first being written over -/
structure Ox (w wx : World) (va vb : Value) (D : List (Nat × Nat)) (k : Nat) : Prop where
  ra : Row wx 53 2 va D.length ((List.replicate k (0, 0) ++ D.drop k).flatMap encX)
  rb : Row wx 53 2 vb D.length (D.flatMap encX)
  ap : ∀ g, va.ownBlock = some g → vb.ownBlock ≠ some g
  fa : ∀ g, va.ownBlock = some g → w.heap.size ≤ g
  kept : Kept (fun _ => False) w wx

theorem Ox.same {w wx wy : World} {va vb : Value} {D : List (Nat × Nat)} {k : Nat} (h : Ox w wx va vb D k) (kk : Kept (fun _ => False) wx wy) : Ox w wy va vb D k :=
  ⟨row_kept h.ra kk (fun _ _ h => h), row_kept h.rb kk (fun _ _ h => h), h.ap, h.fa, h.kept.then kk (fun _ h => False.elim h)⟩
theorem over_at {D : List (Nat × Nat)} {k : Nat} {p : Nat × Nat} (h : D[k]? = some p) : (List.replicate k ((0, 0) : Nat × Nat) ++ D.drop k)[k]? = some p := by
  rw [List.getElem?_append_right (by simp), List.length_replicate, Nat.sub_self, List.getElem?_drop, Nat.add_zero, h]
theorem over_set {D : List (Nat × Nat)} {k : Nat} (hk : k < D.length) : (List.replicate k ((0, 0) : Nat × Nat) ++ D.drop k).set k (0, 0) = List.replicate (k + 1) (0, 0) ++ D.drop (k + 1) := by
  have hd : D.drop k = D[k] :: D.drop (k + 1) := List.drop_eq_getElem_cons hk
  have hl : (List.replicate k ((0, 0) : Nat × Nat)).length = k := List.length_replicate
  rw [hd, List.set_append_right _ _ (by omega), hl, Nat.sub_self, List.set_cons_zero, List.replicate_succ', List.append_assoc]
  rfl
theorem Ox.step {w wx : World} {g c N : Nat} {vb : Value} {D : List (Nat × Nat)} {k : Nat} (hN : N = D.length) (h : Ox w wx (.slice (some ⟨g, 0, none⟩) N c) vb D k) (hk : k < D.length) : Ox w ((wx.setCell ⟨g, k * 2, none⟩ (.int .u64 0)).setCell ⟨g, k * 2 + 1, none⟩ (.int .i64 0)) (.slice (some ⟨g, 0, none⟩) N c) vb D (k + 1) := by
  subst hN
  have o : (Value.slice (some ⟨g, 0, none⟩) D.length c).ownBlock = some g := rfl
  have hkl : k < (List.replicate k ((0, 0) : Nat × Nat) ++ D.drop k).length := by simp; omega
  have hx := over_at (List.getElem?_eq_getElem hk)
  have r1 := rows_set (k := k) (i := 0) encX_len h.ra (0, D[k].2) (u := .int .u64 0) hx (by decide) rfl
  have r2 := rows_set (k := k) (i := 1) (x := (0, D[k].2)) encX_len r1 (0, 0) (u := .int .i64 0) (by rw [List.getElem?_set_self hkl]) (by decide) rfl
  rw [List.set_set, over_set hk] at r2
  exact ⟨r2, row_setCell_other (row_setCell_other h.rb (a := ⟨g, k * 2, none⟩) (h.ap g o) _) (a := ⟨g, k * 2 + 1, none⟩) (h.ap g o) _, h.ap, h.fa, (h.kept.setCell (p := ⟨g, k * 2, none⟩) (Or.inr (h.fa g o)) _).setCell (p := ⟨g, k * 2 + 1, none⟩) (Or.inr (h.fa g o)) _⟩
theorem Ox.cells {w wx : World} {ao bo : Option Addr} {N ca cb : Nat} {D : List (Nat × Nat)} {k : Nat} {p q : Nat} (hN : N = D.length) (h : Ox w wx (.slice ao N ca) (.slice bo N cb) D k) (hx : D[k]? = some (p, q)) : ∃ ga gb, ao = some ⟨ga, 0, none⟩ ∧ bo = some ⟨gb, 0, none⟩ ∧
    wx.cell? ⟨ga, k * 2, none⟩ = some (.int .u64 p) ∧ wx.cell? ⟨ga, k * 2 + 1, none⟩ = some (.int .i64 q) ∧ wx.cell? ⟨gb, k * 2, none⟩ = some (.int .u64 p) ∧ wx.cell? ⟨gb, k * 2 + 1, none⟩ = some (.int .i64 q) ∧
    wx.frozen? ⟨ga, k * 2, none⟩ = false ∧ wx.frozen? ⟨ga, k * 2 + 1, none⟩ = false := by
  subst hN
  have hk := (List.getElem?_eq_some_iff.1 hx).1
  have ha := h.ra
  have hb := h.rb
  rcases row_forms ha with ⟨_, h0⟩ | ⟨ga, c1, hv, _⟩
  · omega
  rcases row_forms hb with ⟨_, h0⟩ | ⟨gb, c2, hv2, _⟩
  · omega
  simp only [Value.slice.injEq] at hv hv2
  obtain ⟨rfl, _, rfl⟩ := hv
  obtain ⟨rfl, _, rfl⟩ := hv2
  exact ⟨ga, gb, rfl, rfl, rows_cell (i := 0) encX_len ha (over_at hx) rfl, rows_cell (i := 1) encX_len ha (over_at hx) rfl, rows_cell (i := 0) encX_len hb hx rfl, rows_cell (i := 1) encX_len hb hx rfl, row_frozen ha _, row_frozen ha _⟩

section
variable {w : World} {s b : Nat} {v u : Value} {nm : ByteArray} {bs m n x : Nat} {l : List (Bool × Nat × Nat)}

set_option maxRecDepth 100000 in
set_option maxHeartbeats 4000000 in
theorem play_coming (i : Int) (t cy : Nat) (hi : (Lit.int .i64 i).wf = true) (hB : Both w s b v u nm bs m n x l) :
    Calls Try.prog 31 #[.pointer (some ⟨s, 0, none⟩), .pointer (some ⟨b, 0, none⟩), .agg #[.int .i64 6, .int .i64 i, .int .u32 t, .int .u32 cy]] w fun e w' => e = .returned (.bool true) ∧ Played w s b v u w' := by
  have k0 := (Kept.refl (fun _ => False) w).alloc (.cells #[.int .i64 6, .int .i64 i, .int .u32 t, .int .u32 cy] 47)
  have hbx := boxed w 6 i t cy
  have c0 := hbx.cell 0 rfl
  have c1 := hbx.cell 1 rfl
  have hbl := hbx.lt
  have hB0 := hB.kept k0 (fun _ _ h => h)
  have hfn := hB.hs.2.2.2
  have hI := fun (w1 : World) (hs : IsClk w1 s v m n x l) => coming_ok hs i hi
  have hR := fun (w1 : World) (hr : CR.IsRef w1 b u nm bs m n x l) => CR.coming_ok hr hfn i hi
  have hD : Com.refRun (min i 65536).toNat (l.map (Com.absA 0)) = (Com.comingL (min i 65536).toNat l 0).take (min i 65536).toNat := Com.coming_ref _ _ l 0 (Nat.le_refl _) hfn.hset
  simp only [hD] at hR
  have hDl : ((Com.comingL (min i 65536).toNat l 0).take (min i 65536).toNat).length ≤ 65536 := by rw [List.length_take]; omega
  obtain ⟨D, hDD⟩ : ∃ D, (Com.comingL (min i 65536).toNat l 0).take (min i 65536).toNat = D := ⟨_, rfl⟩
  simp only [hDD] at hI hR hDl
  clear hD hDD hfn hi
  have HI := Lib.hid hI
  have HR := Lib.hid hR
  have HB := Lib.hid hB
  have HB0 := Lib.hid hB0
  clear hB hB0 hI hR
  go_enter Try.func31, Try.ntmps31
  go_upto_region 23 with fail
  obtain ⟨w0, hw0⟩ : ∃ w0, w.alloc (.cells #[.int .i64 6, .int .i64 i, .int .u32 t, .int .u32 cy] 47) = w0 := ⟨_, rfl⟩
  have hb0 := HB0.out
  rw [hw0] at c1 k0 hb0 hbl ⊢
  clear hw0 HB0 c0 hbx
  obtain ⟨S, hS⟩ : ∃ S, w.heap.size = S := ⟨_, rfl⟩
  have HS := Lib.hid hS
  simp only [hS] at c1 hbl ⊢
  clear hS
  refine wp_region_noPanic ?_
  go_region_held3 (fun w' => w'.cell? ⟨S, 1, none⟩ = some (.int .i64 i))
    (first
      | (simp [*]; done)
      | exact (k2.cell (p := ⟨S, 1, none⟩) (Nat.lt_of_lt_of_le hbl k1.undrew.size) (fun h => h)).trans ((k1.cell (p := ⟨S, 1, none⟩) hbl (fun h => h)).trans c1)
      | exact (k1.cell (p := ⟨S, 1, none⟩) hbl (fun h => h)).trans c1
      | fail)
    (first
      | (go_at_call 26; refine (HI.out _ (hb0.drewN _).hs).mono ?_; rintro e w1 ⟨a1, d1, rfl, r1, k1, o1⟩)
      | (go_at_call 52; refine (HR.out _ (hb0.hr.kept k1.undrew (fun _ _ h => h))).mono ?_; rintro e w2 ⟨a2, d2, rfl, r2, k2, o2⟩))
  refine NoPanic.normal ?_
  have z0 := k0.size
  have z1 := k1.undrew.size
  have hO : Ox w w2 (.slice a1 D.length d1) (.slice a2 D.length d2) D 0 :=
    { ra := by simpa using row_kept r1 k2 (fun _ _ h => h), rb := r2, ap := fun g h1 h2 => by have := row_lt r1 h1; have := o2 g h2; omega, fa := fun g hg => by have := o1 g hg; have : w0.heap.size ≤ g := this; omega, kept := (k0.then k1.undrew (fun _ h => False.elim h)).then k2 (fun _ h => False.elim h) }
  have HO := Lib.hid hO
  clear r1 r2 k1 k2 o1 o2 hO hb0 c1 z0 z1 k0 hbl
  obtain ⟨N, hN⟩ : ∃ N, D.length = N := ⟨_, rfl⟩
  have HN := Lib.hid hN.symm
  rw [hN] at HO hDl
  simp only [hN]
  clear hN
  go_wp2_with fail
  go_loopg [13] N (fun gh j wx => ∃ k : Nat, gh = N - k ∧ k ≤ N ∧ j = .int .i64 k ∧ Hid (Ox w wx (.slice a1 N d1) (.slice a2 N d2) D k))
  case atStart => exact ⟨0, rfl, Nat.zero_le _, rfl, HO⟩
  case round =>
    clear HO
    obtain ⟨k, rfl, hk, rfl, hO⟩ := hrel
    by_cases hkl : k < N
    · obtain ⟨⟨p, q⟩, hx⟩ : ∃ p, D[k]? = some p := ⟨_, List.getElem?_eq_getElem (by have := HN.out; omega)⟩
      have hk0 : (0 : Int) ≤ (k : Int) := by omega
      have hk1 : (k : Int) < (N : Int) := by omega
      obtain ⟨ga, gb, rfl, rfl, y0, y1, y2, y3, f0, f1⟩ := hO.out.cells HN.out hx
      have p1 : ((p : Int) == (p : Int)) = true := by simp
      have p2 : ((q : Int) == (q : Int)) = true := by simp
      have HQ := Lib.hid (fun n => (hO.out.same ((Kept.refl (fun _ => False) wr).drewN n)).step HN.out (by have := HN.out; omega))
      clear hO hx
      go_upto_region 29 with fail
      go_quiet (fail)
      go_wp2
      go_roundg (N - (k + 1))
      case measure => omega
      case rel => exact ⟨k + 1, rfl, by omega, by go_num, HQ.out _⟩
    · have K := Lib.hid hO.out.kept
      clear hO
      go_wp2
      go_ret
      exact ⟨rfl, HB.out.played K.out⟩

theorem play_ok (k i : Int) (t cy : Nat) (hi : (Lit.int .i64 i).wf = true) (ht : t ≤ 4294967295) (hcy : cy ≤ 4294967295) (hB : Both w s b v u nm bs m n x l) :
    Calls Try.prog 31 #[.pointer (some ⟨s, 0, none⟩), .pointer (some ⟨b, 0, none⟩), .agg #[.int .i64 k, .int .i64 i, .int .u32 t, .int .u32 cy]] w fun e w' => e = .returned (.bool true) ∧ Played w s b v u w' := by
  by_cases h1 : k = 1
  · subst h1; exact play_rel i t cy hi ht hcy hB
  by_cases h2 : k = 2
  · subst h2; exact play_abs i t cy hi ht hcy hB
  by_cases h3 : k = 3
  · subst h3; exact play_set i t cy hi ht hcy hB
  by_cases h4 : k = 4
  · subst h4; exact play_cancel i t cy hi ht hcy hB
  by_cases h5 : k = 5
  · subst h5; exact play_tick i t cy hB
  by_cases h6 : k = 6
  · subst h6; exact play_coming i t cy hi hB
  by_cases h7 : k = 7
  · subst h7; exact play_reset i t cy hi ht hcy hB
  exact play_other k i t cy hB h1 h2 h3 h4 h5 h6 h7
end
end Go.Proofs.Ytialldmepphloaa.L
