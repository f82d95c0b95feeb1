/- P18.1 to P18.6, the walk. -/
import Derived.Test.YtallbbjmfcohfaaTskG
namespace Go.Proofs.Ytallbbjmfcohfaa.taskPlaysW
open Go.RowKit Go.Fr Go.Proofs.Ytallbbjmfcohfaa.TK Go.Proofs.Ytallbbjmfcohfaa.L

theorem shows_kb {w : World} {ao : Option Addr} {l : List (Int × Bool)} (hc : CameL w 2 (encKB .i64) ao l) : Shows w 2 ao l.length (l.flatMap (encKB .i64)) := by
  refine ⟨flat_length (sz := 2) (fun _ => rfl) l, ?_, ?_⟩
  · intro h
    cases l with
    | nil => rfl
    | cons a l => obtain ⟨g, off, e, _⟩ := hc (by simp); rw [h] at e; cases e
  · intro ad ha j u hu
    have hj := (List.getElem?_eq_some_iff.1 hu).1
    rw [flat_length (sz := 2) (fun _ => rfl) l] at hj
    have hne : l ≠ [] := by rintro rfl; simp at hj
    obtain ⟨g, off, e, hg, hcc⟩ := hc hne
    rw [ha] at e
    cases e
    obtain ⟨x, hx⟩ : ∃ x, l[j / 2]? = some x := ⟨_, List.getElem?_eq_getElem (by omega)⟩
    have h2 := flat_get (enc := encKB .i64) (sz := 2) (fun _ => rfl) l (j / 2) (j % 2) x hx (by omega)
    rw [show j / 2 * 2 + j % 2 = j by omega, hu] at h2
    have := hcc (j / 2) x hx (j % 2) u h2.symm
    rw [Addr.add_lit]
    rwa [show off + j / 2 * 2 + j % 2 = off + j by omega] at this
theorem row_kb {w : World} {e : TypeId} {ao : Option Addr} {c : Nat} {l : List (Int × Bool)} (h : Row w e 2 (.slice ao l.length c) l.length (l.flatMap (encKB .i64))) : CameL w 2 (encKB .i64) ao l := by
  intro hne
  have hl : 0 < l.length := List.length_pos_iff.2 hne
  rcases row_forms h with ⟨_, h0⟩ | ⟨g, c', hv, _, _, hg⟩
  · omega
  · cases hv
    refine ⟨g, 0, rfl, hg, fun k x hx j u hu => ?_⟩
    rw [Nat.zero_add]
    exact rows_cell (enc := encKB .i64) (fun _ => rfl) h hx hu

/-- the rows that New was given, being written over -/
def ovl (l : List (Int × Bool)) (k : Nat) : List (Int × Bool) := List.replicate k (77, false) ++ l.drop k
theorem ovl_at {l : List (Int × Bool)} {k : Nat} {x : Int × Bool} (h : l[k]? = some x) : (ovl l k)[k]? = some x := by
  rw [ovl, List.getElem?_append_right (by simp), List.length_replicate, Nat.sub_self, List.getElem?_drop, Nat.add_zero, h]
theorem ovl_set {l : List (Int × Bool)} {k : Nat} (h : k < l.length) : (ovl l k).set k (77, false) = ovl l (k + 1) := by
  have hd : l.drop k = l[k] :: l.drop (k + 1) := List.drop_eq_getElem_cons h
  have hl : (List.replicate k ((77, false) : Int × Bool)).length = k := List.length_replicate
  rw [ovl, ovl, hd, List.set_append_right _ _ (by omega), hl, Nat.sub_self, List.set_cons_zero, List.replicate_succ', List.append_assoc]
  rfl
structure Rw (w3 wr : World) (v : Value) (l : List (Int × Bool)) (k : Nat) : Prop where
  row : Row wr 29 2 v l.length ((ovl l k).flatMap (encKB .i64))
  kept : Kept (fun i => v.ownBlock = some i) w3 wr
theorem Rw.drewN {w3 wr : World} {v : Value} {l : List (Int × Bool)} {k : Nat} (h : Rw w3 wr v l k) (n : Nat) : Rw w3 (wr.drewN n) v l k := ⟨row_drewN h.row n, h.kept.drewN n⟩
theorem Rw.cells {w3 wr : World} {v : Value} {l : List (Int × Bool)} {k : Nat} {lm : Int} {ex : Bool} (h : Rw w3 wr v l k) (hx : l[k]? = some (lm, ex)) : ∃ g c, v = .slice (some ⟨g, 0, none⟩) l.length c ∧
    wr.cell? ⟨g, k * 2, none⟩ = some (.int .i64 lm) ∧ wr.cell? ⟨g, k * 2 + 1, none⟩ = some (.bool ex) ∧ wr.frozen? ⟨g, k * 2, none⟩ = false ∧ wr.frozen? ⟨g, k * 2 + 1, none⟩ = false := by
  have hk := (List.getElem?_eq_some_iff.1 hx).1
  have hr := h.row
  obtain ⟨g, c, rfl⟩ := TR.rowv hr (by omega)
  exact ⟨g, c, rfl, rows_cell (i := 0) (enc := encKB .i64) (fun _ => rfl) hr (ovl_at hx) rfl, rows_cell (i := 1) (enc := encKB .i64) (fun _ => rfl) hr (ovl_at hx) rfl, row_frozen hr _, row_frozen hr _⟩
theorem Rw.step {w3 wr : World} {g c n : Nat} {l : List (Int × Bool)} {k : Nat} (h : Rw w3 wr (.slice (some ⟨g, 0, none⟩) n c) l k) (hk : k < l.length) :
    Rw w3 ((wr.setCell ⟨g, k * 2, none⟩ (.int .i64 77)).setCell ⟨g, k * 2 + 1, none⟩ (.bool false)) (.slice (some ⟨g, 0, none⟩) n c) l (k + 1) := by
  obtain ⟨⟨lm, ex⟩, hx⟩ : ∃ r, l[k]? = some r := ⟨_, List.getElem?_eq_getElem hk⟩
  have hxk := ovl_at hx
  have hko := (List.getElem?_eq_some_iff.1 hxk).1
  have hn : n = l.length := by
    rcases row_forms h.row with ⟨_, h0⟩ | ⟨g', c', hv, _⟩
    · omega
    · cases hv; rfl
  subst hn
  refine ⟨?_, (h.kept.setCell (p := ⟨g, k * 2, none⟩) (Or.inl rfl) _).setCell (p := ⟨g, k * 2 + 1, none⟩) (Or.inl rfl) _⟩
  have r1 := rows_set (i := 0) (enc := encKB .i64) (fun _ => rfl) h.row (77, ex) (u := .int .i64 77) hxk (by decide) rfl
  have r2 := rows_set (i := 1) (enc := encKB .i64) (k := k) (x := (77, ex)) (fun _ => rfl) r1 (77, false) (u := .bool false) (by rw [List.getElem?_set_self hko]) (by decide) rfl
  rw [List.set_set, ovl_set hk] at r2
  exact r2

set_option maxRecDepth 100000 in
set_option maxHeartbeats 8000000 in
theorem walk (w : World) (a0 : Option Addr) (cap0 : Nat) (l0 : List (Int × Bool)) (hl0 : l0.length ≤ cap0) (hm0 : cap0 ≤ maxLen) (hc0 : CameL w 2 (encKB .i64) a0 l0)
    (hw0 : ∀ x ∈ l0, (Lit.int .i64 x.1).wf = true) (hr0 : l0.length * 16 ≤ 140737488351232) (a1 : Option Addr) (cap1 : Nat) (l1 : List (Int × Int)) (hl1 : l1.length ≤ cap1) (hm1 : cap1 ≤ maxLen) (hc1 : CameL w 2 (encKK .i64 .i64) a1 l1)
    (hw1 : ∀ x ∈ l1, (Lit.int .i64 x.1).wf = true ∧ (Lit.int .i64 x.2).wf = true) (hr1 : l1.length * 16 ≤ 140737488351232) :
    Calls Try.prog 6 #[.slice a0 l0.length cap0, .slice a1 l1.length cap1] w fun e w' => e = .returned (.bool true) ∧ Below w.heap.size w w' := by
  obtain ⟨i0, hi, hz0, hz1, hz2⟩ := info_parts TR.info_r
  have hmx : l0.length ≤ maxLen := Nat.le_trans hl0 hm0
  unfold maxLen at hm0 hm1
  clear hw0 hw1
  have hal : ∀ w : World, Calls Try.prog 11 #[] w fun e w' => e = .returned (.bool true) ∧ Kept (fun _ => False) w w' := fun w => alive_law w
  have HC0 := Lib.hid hc0
  have HC1 := Lib.hid hc1
  have SA := Lib.hid (shows_kb hc0)
  clear hc0 hc1
  go_enter Try.func6, Try.ntmps6
  go_wp2_with ((at_builtin; refine wpList_append_any rfl (.const (.slice none 0 0)) (.tmp 13) 30 rfl 29 i0 (.agg #[.int .i64 0, .bool false]) 2 16 Try.underlying30 hi hz0 hz1 hz2 rfl (by decide) none 0 0 [] rfl (World.ownsRow_nil _ _ _ _) a0 l0.length cap0 (l0.flatMap (encKB .i64)) rfl SA.out ?h1 ?h2 ?h3 ?_))
  case h1 =>
    intro u hu
    obtain ⟨x, _, hx⟩ := List.mem_flatMap.1 hu
    simp only [encKB, List.mem_cons, List.not_mem_nil, or_false] at hx
    rcases hx with rfl | rfl <;> rfl
  case h2 => rw [Nat.zero_add]; exact hmx
  case h3 => omega
  intro ao c w1 r1 r2 r3
  try simp only [Nat.zero_add] at r1 r3
  try simp only [List.nil_append] at r1
  have hge : ∀ g, (Value.slice ao l0.length c).ownBlock = some g → w.heap.size ≤ g := fun g hg => (r3 g hg).elim (fun e => by cases e) (fun h => h)
  have k1 : Kept (fun _ => False) w w1 := (Kept.refl _ w).grown r2 (fun k hk => by cases hk)
  have hcI := row_kb r1
  have hlt1 : ∀ g, (Value.slice ao l0.length c).ownBlock = some g → g < w1.heap.size := fun g hg => row_lt r1 hg
  have R1 := Lib.hid r1
  have HGE := Lib.hid hge
  have HLT := Lib.hid hlt1
  have HI := Lib.hid hcI
  have K1 := Lib.hid k1
  clear r1 r2 r3 hge k1 hcI hlt1 SA
  try rw [Nat.zero_add]
  have hb0 : ∀ {w2 : World}, Kept (fun _ => False) w w2 → CameL w2 2 (encKB .i64) a0 l0 := fun k => HC0.out.below (k.below (Nat.le_refl _) (fun _ h => h.elim)) (Nat.le_refl _)
  rcases new_cases l0 with hbad | ⟨h256, hgd⟩
  · go_wp2_with fail
    refine (new_fails (ao := ao) (c := c) hbad w1 HI.out).mono ?_
    rintro e w2 ⟨rfl, k2⟩
    have K2 := K1.out.then k2 (fun _ h => h.elim)
    go_wp2_with fail
    refine (TR.new_fails (ao := a0) (c := cap0) hbad w2 (hb0 K2)).mono ?_
    rintro e w3 ⟨b3, rfl, h3, z3, k3⟩
    have BEL := Lib.hid ((K2.then k3 (fun _ h => h.elim)).below (Nat.le_refl _) (fun _ h => False.elim h))
    have R3 : Hid (Rw w3 w3 (.slice ao l0.length c) l0 0) := ⟨row_kept (row_kept R1.out k2 (fun _ _ h => h)) k3 (fun _ _ h => h), Kept.refl _ _⟩
    have c0 := h3.blk.cell 0 rfl
    have HB := Lib.hid h3.blk
    have Z : Hid (w1.heap.size ≤ b3) := by have := k2.size; exact Nat.le_trans this z3
    clear k2 k3 K2 hb0 h3 z3 R1 K1 HI hbad
    go_wp2_with (go_at_call 9; refine (num_ok _ _).mono ?_; rintro e w' ⟨rfl, rfl⟩)
    clear c0
    -- the rows are compared and written over
    go_loopw [10] (fun i wr => ∃ k : Nat, k ≤ l0.length ∧ i = .int .i64 k ∧ Hid (Rw w3 wr (.slice ao l0.length c) l0 k)) (fun i _ => l0.length - (intOf i).toNat)
    case atStart => exact ⟨0, Nat.zero_le _, rfl, R3⟩
    case round =>
      clear R3
      obtain ⟨k, hk, rfl, hR⟩ := hrel
      by_cases hlt : k < l0.length
      · obtain ⟨⟨lm, ex⟩, hx⟩ : ∃ r, l0[k]? = some r := ⟨_, List.getElem?_eq_getElem hlt⟩
        obtain ⟨sb, so, rfl, hsb, hcc⟩ := HC0.out (by rintro rfl; simp at hx)
        have hc0 : ∀ (j : Nat) (u : Value), (encKB .i64 (lm, ex))[j]? = some u → wr.cell? ⟨sb, so + k * 2 + j, none⟩ = some u := fun j u hu => by
          rw [hR.out.kept.cell (p := ⟨sb, so + k * 2 + j, none⟩) (Nat.lt_of_lt_of_le hsb BEL.out.size) (fun e => by have := HGE.out _ e; exact Nat.lt_irrefl _ (Nat.lt_of_lt_of_le hsb this)), BEL.out.cell (p := ⟨sb, so + k * 2 + j, none⟩) hsb]
          exact hcc k _ hx j u hu
        have q0 : wr.cell? ⟨sb, so + k * 2, none⟩ = some (.int .i64 lm) := hc0 0 _ rfl
        have q1 : wr.cell? ⟨sb, so + k * 2 + 1, none⟩ = some (.bool ex) := hc0 1 _ rfl
        have hk0 : (0 : Int) ≤ (k : Int) := by omega
        have hk1 : (k : Int) < (l0.length : Int) := by omega
        obtain ⟨g, c', hv, z0, z1, z2, z3⟩ := hR.out.cells hx
        cases hv
        have s1 : (lm == lm) = true := by simp
        have s2 : (ex == ex) = true := by simp
        clear hcc hc0 hx
        go_upto_region 9 with fail
        go_quiet (fail)
        have Q := Lib.hid (fun n => (hR.out.drewN n).step hlt)
        clear hR
        go_wp2
        go_roundw
        case rel => exact ⟨k + 1, by omega, by go_num, Q.out _⟩
        case measure => simp [intOf]; omega
      · obtain rfl : k = l0.length := by omega
        have KR := Lib.hid hR.out.kept
        clear hR
        have c0 := (HB.out.kept KR.out (fun e => by have := HLT.out _ e; have := Z.out; omega)).cell 0 rfl
        go_wp2_with fail
        refine (hal _).mono ?_
        rintro e w9 ⟨rfl, k9⟩
        go_wp2
        go_ret
        exact ⟨rfl, BEL.out.trans ((KR.out.then k9 (fun _ h => h.elim)).below BEL.out.size (fun i e => HGE.out i e))⟩
  · have ho := Ok.new l0 hgd
    go_wp2_with fail
    refine (new_ok ao c l0 w1 h256 HI.out hgd).mono ?_
    rintro e w2 ⟨b1, v1, rfl, h1, f1, k2⟩
    have K2 := K1.out.then k2 (fun _ h => h.elim)
    go_wp2_with fail
    refine (TR.new_ok a0 cap0 l0 w2 h256 (hb0 K2) hgd).mono ?_
    rintro e w3 ⟨b2, vr, vs, vn, rfl, h2, f2, k3⟩
    have BEL := Lib.hid ((K2.then k3 (fun _ h => h.elim)).below (Nat.le_refl _) (fun _ h => False.elim h))
    have R3 : Hid (Rw w3 w3 (.slice ao l0.length c) l0 0) := ⟨row_kept (row_kept R1.out k2 (fun _ _ h => h)) k3 (fun _ _ h => h), Kept.refl _ _⟩
    have c0 := h2.blk.cell 0 rfl
    have z1 := K1.out.size
    have z2 := k2.size
    have HG : Hid (GotAt w.heap.size w w3 b1 b2 v1 vr vs vn (-1) (l0.map mkT)) := got_new (h1.kept k3 (fun _ _ h => h)) h2 ho (fun i hi => by have := f1 i hi; omega) (fun i hi => by have := f2 i hi; omega) (fun i hi e => by have := h1.lt i hi; have := f2 i e; omega) BEL.out
    have HF : Hid (∀ i, feet b1 b2 v1 vr vs vn i → w1.heap.size ≤ i) := fun i hi => hi.elim (f1 i) (fun h => by have := f2 i h; omega)
    clear h1 f1 k2 h2 f2 k3 K2 hb0 R1 K1 HI z1 z2 ho
    go_wp2_with (go_at_call 9; refine (num_ok _ _).mono ?_; rintro e w' ⟨rfl, rfl⟩)
    clear c0
    -- the rows are compared and written over
    go_loopw [10] (fun i wr => ∃ k : Nat, k ≤ l0.length ∧ i = .int .i64 k ∧ Hid (Rw w3 wr (.slice ao l0.length c) l0 k)) (fun i _ => l0.length - (intOf i).toNat)
    case atStart => exact ⟨0, Nat.zero_le _, rfl, R3⟩
    case round =>
      clear R3
      obtain ⟨k, hk, rfl, hR⟩ := hrel
      by_cases hlt : k < l0.length
      · obtain ⟨⟨lm, ex⟩, hx⟩ : ∃ r, l0[k]? = some r := ⟨_, List.getElem?_eq_getElem hlt⟩
        obtain ⟨sb, so, rfl, hsb, hcc⟩ := HC0.out (by rintro rfl; simp at hx)
        have hc0 : ∀ (j : Nat) (u : Value), (encKB .i64 (lm, ex))[j]? = some u → wr.cell? ⟨sb, so + k * 2 + j, none⟩ = some u := fun j u hu => by
          rw [hR.out.kept.cell (p := ⟨sb, so + k * 2 + j, none⟩) (Nat.lt_of_lt_of_le hsb BEL.out.size) (fun e => by have := HGE.out _ e; exact Nat.lt_irrefl _ (Nat.lt_of_lt_of_le hsb this)), BEL.out.cell (p := ⟨sb, so + k * 2 + j, none⟩) hsb]
          exact hcc k _ hx j u hu
        have q0 : wr.cell? ⟨sb, so + k * 2, none⟩ = some (.int .i64 lm) := hc0 0 _ rfl
        have q1 : wr.cell? ⟨sb, so + k * 2 + 1, none⟩ = some (.bool ex) := hc0 1 _ rfl
        have hk0 : (0 : Int) ≤ (k : Int) := by omega
        have hk1 : (k : Int) < (l0.length : Int) := by omega
        obtain ⟨g, c', hv, z0, z1, z2, z3⟩ := hR.out.cells hx
        cases hv
        have s1 : (lm == lm) = true := by simp
        have s2 : (ex == ex) = true := by simp
        clear hcc hc0 hx
        go_upto_region 9 with fail
        go_quiet (fail)
        have Q := Lib.hid (fun n => (hR.out.drewN n).step hlt)
        clear hR
        go_wp2
        go_roundw
        case rel => exact ⟨k + 1, by omega, by go_num, Q.out _⟩
        case measure => simp [intOf]; omega
      · obtain rfl : k = l0.length := by omega
        have KR := Lib.hid hR.out.kept
        clear hR
        have c0 := ((HG.out.kept KR.out (fun i e => HGE.out i e) (fun i hi e => by have := HLT.out i e; have := HF.out i hi; omega)).both.hr.blk).cell 0 rfl
        have HG4 : Hid (Got w.heap.size w wr b1 b2) := ⟨_, _, _, _, _, _, HG.out.kept KR.out (fun i e => HGE.out i e) (fun i hi e => by have := HLT.out i e; have := HF.out i hi; omega)⟩
        clear HG HF KR BEL HLT HGE HC0
        go_wp2_with fail
        refine (got_told HG4.out).mono ?_
        rintro e w4 ⟨rfl, hG4⟩
        have hG4 := Lib.hid hG4
        clear HG4 c0
        go_wp2
        go_loopw [6, 8, 11] (fun p q i wr => ∃ k s b : Nat, k ≤ l1.length ∧ i = .int .i64 k ∧ p = .pointer (some ⟨s, 0, none⟩) ∧ q = .pointer (some ⟨b, 0, none⟩) ∧ Hid (Got w.heap.size w wr s b)) (fun _ _ i _ => l1.length - (intOf i).toNat)
        case atStart => exact ⟨0, _, _, Nat.zero_le _, rfl, rfl, rfl, hG4⟩
        case round =>
          clear hG4
          obtain ⟨k, s, b, hk, rfl, rfl, rfl, hG⟩ := hrel
          by_cases hlt : k < l1.length
          · obtain ⟨x, y, hx⟩ := pair_at hlt
            obtain ⟨ab, off, rfl, hab, e1, e2⟩ := elem_pair HC1.out hG.out.below hx
            have Hx := Lib.hid hx
            have Hc := HC1
            clear hx
            have hk0 : (0 : Int) ≤ (k : Int) := Int.natCast_nonneg _
            have hk1 : (k : Int) < (l1.length : Int) := by omega
            by_cases h5 : x = 9
            · subst h5
              go_wp2_with fail
              refine (got_copy hG.out).mono ?_
              rintro e w4 ⟨c4, rfl, hP⟩
              have hP := Lib.hid hP
              clear e1 e2 hG
              go_wp2_with fail
              refine (gap_reset hP.out).mono ?_
              rintro e w5 ⟨rfl, hP5⟩
              have hP5 := Lib.hid hP5
              clear hP
              go_wp2_with fail
              refine (gap_act 0 hP5.out).mono ?_
              rintro e w6 ⟨⟨r6, rfl⟩, hP6⟩
              have hP6 := Lib.hid hP6
              clear hP5
              go_wp2_with fail
              refine (gap_start 0 hP6.out).mono ?_
              rintro e w7 ⟨⟨r7, rfl⟩, hP7⟩
              have hP7 := Lib.hid hP7
              clear hP6
              go_wp2_with fail
              refine (got_copy_ref hP7.out.got).mono ?_
              rintro e w8 ⟨b8, rfl, hG8⟩
              have hG8 := Lib.hid hG8
              clear hP7
              obtain ⟨e1, e2⟩ := cells_pair Hc.out hG8.out.below Hx.out
              go_wp2_with fail
              refine (got_play _ _ hG8.out).mono ?_
              rintro e w9 ⟨rfl, hG9⟩
              have hG9 := Lib.hid hG9
              clear hG8 e1 e2
              go_wp2_with fail
              refine (got_told hG9.out).mono ?_
              rintro e wa ⟨rfl, hGa⟩
              have hGa := Lib.hid hGa
              clear hG9
              go_wp2
              go_roundw
              case rel => exact ⟨k + 1, _, _, by omega, by go_num, rfl, rfl, hGa⟩
              case measure => simp [intOf]; omega
            · have h5' : decide (x = 9) = false := by simp [h5]
              have h5'' : (x == 9) = false := by simp [h5]
              go_wp2_with fail
              refine (got_play _ _ hG.out).mono ?_
              rintro e w8 ⟨rfl, hG8⟩
              have hG8 := Lib.hid hG8
              go_wp2_with fail
              refine (got_told hG8.out).mono ?_
              rintro e w9 ⟨rfl, hG9⟩
              have hG9 := Lib.hid hG9
              go_wp2
              go_roundw
              case rel => exact ⟨k + 1, _, _, by omega, by go_num, rfl, rfl, hG9⟩
              case measure => simp [intOf]; omega
          · go_wp2_with fail
            refine (hal _).mono ?_
            rintro e w4 ⟨rfl, k4⟩
            go_wp2
            go_ret
            exact ⟨rfl, (hG.out.same k4).below⟩
end Go.Proofs.Ytallbbjmfcohfaa.taskPlaysW
