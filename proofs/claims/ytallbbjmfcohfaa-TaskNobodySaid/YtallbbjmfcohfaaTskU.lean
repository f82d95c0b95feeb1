/- The document's table of tasks: Reset, Copy, New. -/
import Derived.Test.YtallbbjmfcohfaaTskS
import Derived.Test.YtallbbjmfcohfaaTskD
namespace Go.Proofs.Ytallbbjmfcohfaa.TR
open Go.RowKit Go.Fr Go.Proofs.Ytallbbjmfcohfaa.TK

theorem info_r : (Try.prog.info? 29).map (fun i => (i.zero, i.size, i.bytes)) = some (some (.agg #[.int .i64 0, .bool false]), 2, 16) := by kernel_rfl
theorem info_s : (Try.prog.info? 38).map (fun i => (i.zero, i.size, i.bytes)) = some (some (.int .i64 0), 1, 8) := by kernel_rfl

theorem encR_ones (l : List Tk) : ∀ u ∈ l.flatMap encR, u.oneCell' = true := by
  intro u hu
  obtain ⟨x, _, hx⟩ := List.mem_flatMap.1 hu
  simp only [encR, List.mem_cons, List.not_mem_nil, or_false] at hx
  rcases hx with rfl | rfl <;> rfl

/-- a table under way: its three rows told apart -/
structure St (w wr : World) (b : Nat) (m : Bool) (vr vs vn : Value) (nr ns nn : Nat) (cr cs cn : List Value) : Prop where
  blk : Blk wr b [.bool m, vr, vs, vn] 56
  rr : Row wr 29 2 vr nr cr
  rs : Row wr 38 1 vs ns cs
  rn : Row wr 3 1 vn nn cn
  fr : ∀ g, vr.ownBlock = some g → b < g
  fs : ∀ g, vs.ownBlock = some g → b < g
  fn : ∀ g, vn.ownBlock = some g → b < g
  ars : Ap vr vs
  arn : Ap vr vn
  asn : Ap vs vn
  kept : Kept (fun _ => False) w wr
  b0 : w.heap.size ≤ b

theorem St.same {w wr wf : World} {b : Nat} {m : Bool} {vr vs vn : Value} {nr ns nn : Nat} {cr cs cn : List Value} (h : St w wr b m vr vs vn nr ns nn cr cs cn) (k : Kept (fun _ => False) wr wf) : St w wf b m vr vs vn nr ns nn cr cs cn :=
  { h with blk := h.blk.kept k (fun h => h), rr := row_kept h.rr k (fun _ _ h => h), rs := row_kept h.rs k (fun _ _ h => h), rn := row_kept h.rn k (fun _ _ h => h), kept := h.kept.then k (fun _ h => False.elim h) }
theorem St.ref {w wr : World} {b : Nat} {m : Bool} {vr vs vn : Value} {l : List Tk} (h : St w wr b m vr vs vn l.length l.length l.length (l.flatMap encR) (l.map fS) (l.map fN)) (hl : l.length ≤ 256) : IsRef wr b vr vs vn m l ∧ ∀ i, foot b vr vs vn i → w.heap.size ≤ i := by
  have hb := h.b0
  refine ⟨⟨h.blk, h.rr, h.rs, h.rn, h.ars, h.arn, h.asn, fun e => by have := h.fr _ e; omega, fun e => by have := h.fs _ e; omega, fun e => by have := h.fn _ e; omega, hl⟩, ?_⟩
  rintro i (h1 | h1 | h1 | h1)
  · omega
  · have := h.fr i h1; omega
  · have := h.fs i h1; omega
  · have := h.fn i h1; omega
theorem Ap.symm {u v : Value} (h : Ap u v) : Ap v u := fun g h1 h2 => h g h2 h1

theorem St.stepR {w wr wa w1 wf : World} {b : Nat} {m : Bool} {vr vs vn v' : Value} {nr ns nn n' : Nat} {cr cs cn c' : List Value} (h : St w wr b m vr vs vn nr ns nn cr cs cn) (he : Kept (fun _ => False) wr wa) (r1 : Row w1 29 2 v' n' c') (r2 : wa.grownBy w1 vr.ownBlock) (r3 : ∀ g, v'.ownBlock = some g → vr.ownBlock = some g ∨ wa.heap.size ≤ g)
    (hf : Kept (fun _ => False) (w1.setCell ⟨b, 1, none⟩ v') wf) : St w wf b m v' vs vn n' ns nn c' cs cn := by
  have hbl := h.blk.lt
  have hz := he.size
  have hb0 := h.b0
  have hown : ∀ g, v'.ownBlock = some g → b < g := fun g hg => (r3 g hg).elim (fun e => h.fr g e) (fun e => by omega)
  have hnb : vr.ownBlock ≠ some b := fun e => by have := h.fr b e; omega
  have k0 : Kept (fun i => vr.ownBlock = some i ∨ i = b) wr w1 := (he.mono (fun _ _ h => False.elim h)).grown r2 (fun k hk => Or.inl (Or.inl hk))
  have k1 := (k0.set (b := b) 1 (Or.inl (Or.inr rfl)) v').then hf (fun _ h => False.elim h)
  have ap : ∀ u : Value, Ap vr u → (∀ g, u.ownBlock = some g → g < wr.heap.size) → Ap v' u := fun u hu hlt g h1 h2 => by
    rcases r3 g h1 with e | e
    · exact hu g e h2
    · have := hlt g h2; omega
  have a1 := ap vs h.ars (fun g hg => row_lt h.rs hg)
  have a2 := ap vn h.arn (fun g hg => row_lt h.rn hg)
  refine { blk := ?_, rr := ?_, rs := ?_, rn := ?_, fr := hown, fs := h.fs, fn := h.fn, ars := a1, arn := a2, asn := h.asn, kept := ?_, b0 := hb0 }
  · exact (((h.blk.kept he (fun h => h)).grown r2 (fun e => hnb e.symm)).set 1 _).kept hf (fun h => h)
  · exact row_kept (row_setCell_other r1 (a := ⟨b, 1, none⟩) (fun e => by have := hown _ e; simp at this) _) hf (fun _ _ h => h)
  · exact row_kept h.rs k1 (fun g hg hh => hh.elim (fun e => h.ars g e hg) (fun e => by have := h.fs g hg; omega))
  · exact row_kept h.rn k1 (fun g hg hh => hh.elim (fun e => h.arn g e hg) (fun e => by have := h.fn g hg; omega))
  · exact h.kept.then k1 (fun i hi => hi.elim (fun e => Or.inr (by have := h.fr i e; omega)) (fun e => Or.inr (by omega)))

theorem St.stepS {w wr wa w1 wf : World} {b : Nat} {m : Bool} {vr vs vn v' : Value} {nr ns nn n' : Nat} {cr cs cn c' : List Value} (h : St w wr b m vr vs vn nr ns nn cr cs cn) (he : Kept (fun _ => False) wr wa) (r1 : Row w1 38 1 v' n' c') (r2 : wa.grownBy w1 vs.ownBlock) (r3 : ∀ g, v'.ownBlock = some g → vs.ownBlock = some g ∨ wa.heap.size ≤ g)
    (hf : Kept (fun _ => False) (w1.setCell ⟨b, 2, none⟩ v') wf) : St w wf b m vr v' vn nr n' nn cr c' cn := by
  have hbl := h.blk.lt
  have hz := he.size
  have hb0 := h.b0
  have hown : ∀ g, v'.ownBlock = some g → b < g := fun g hg => (r3 g hg).elim (fun e => h.fs g e) (fun e => by omega)
  have hnb : vs.ownBlock ≠ some b := fun e => by have := h.fs b e; omega
  have k0 : Kept (fun i => vs.ownBlock = some i ∨ i = b) wr w1 := (he.mono (fun _ _ h => False.elim h)).grown r2 (fun k hk => Or.inl (Or.inl hk))
  have k1 := (k0.set (b := b) 2 (Or.inl (Or.inr rfl)) v').then hf (fun _ h => False.elim h)
  have ap : ∀ u : Value, Ap vs u → (∀ g, u.ownBlock = some g → g < wr.heap.size) → Ap v' u := fun u hu hlt g h1 h2 => by
    rcases r3 g h1 with e | e
    · exact hu g e h2
    · have := hlt g h2; omega
  have a1 := ap vr (h.ars).symm (fun g hg => row_lt h.rr hg)
  have a2 := ap vn h.asn (fun g hg => row_lt h.rn hg)
  refine { blk := ?_, rs := ?_, rr := ?_, rn := ?_, fs := hown, fr := h.fr, fn := h.fn, ars := a1.symm, arn := h.arn, asn := a2, kept := ?_, b0 := hb0 }
  · exact (((h.blk.kept he (fun h => h)).grown r2 (fun e => hnb e.symm)).set 2 _).kept hf (fun h => h)
  · exact row_kept h.rr k1 (fun g hg hh => hh.elim (fun e => (h.ars).symm g e hg) (fun e => by have := h.fr g hg; omega))
  · exact row_kept (row_setCell_other r1 (a := ⟨b, 2, none⟩) (fun e => by have := hown _ e; simp at this) _) hf (fun _ _ h => h)
  · exact row_kept h.rn k1 (fun g hg hh => hh.elim (fun e => h.asn g e hg) (fun e => by have := h.fn g hg; omega))
  · exact h.kept.then k1 (fun i hi => hi.elim (fun e => Or.inr (by have := h.fs i e; omega)) (fun e => Or.inr (by omega)))

theorem St.stepN {w wr wa w1 wf : World} {b : Nat} {m : Bool} {vr vs vn v' : Value} {nr ns nn n' : Nat} {cr cs cn c' : List Value} (h : St w wr b m vr vs vn nr ns nn cr cs cn) (he : Kept (fun _ => False) wr wa) (r1 : Row w1 3 1 v' n' c') (r2 : wa.grownBy w1 vn.ownBlock) (r3 : ∀ g, v'.ownBlock = some g → vn.ownBlock = some g ∨ wa.heap.size ≤ g)
    (hf : Kept (fun _ => False) (w1.setCell ⟨b, 3, none⟩ v') wf) : St w wf b m vr vs v' nr ns n' cr cs c' := by
  have hbl := h.blk.lt
  have hz := he.size
  have hb0 := h.b0
  have hown : ∀ g, v'.ownBlock = some g → b < g := fun g hg => (r3 g hg).elim (fun e => h.fn g e) (fun e => by omega)
  have hnb : vn.ownBlock ≠ some b := fun e => by have := h.fn b e; omega
  have k0 : Kept (fun i => vn.ownBlock = some i ∨ i = b) wr w1 := (he.mono (fun _ _ h => False.elim h)).grown r2 (fun k hk => Or.inl (Or.inl hk))
  have k1 := (k0.set (b := b) 3 (Or.inl (Or.inr rfl)) v').then hf (fun _ h => False.elim h)
  have ap : ∀ u : Value, Ap vn u → (∀ g, u.ownBlock = some g → g < wr.heap.size) → Ap v' u := fun u hu hlt g h1 h2 => by
    rcases r3 g h1 with e | e
    · exact hu g e h2
    · have := hlt g h2; omega
  have a1 := ap vr (h.arn).symm (fun g hg => row_lt h.rr hg)
  have a2 := ap vs (h.asn).symm (fun g hg => row_lt h.rs hg)
  refine { blk := ?_, rn := ?_, rr := ?_, rs := ?_, fn := hown, fr := h.fr, fs := h.fs, ars := h.ars, arn := a1.symm, asn := a2.symm, kept := ?_, b0 := hb0 }
  · exact (((h.blk.kept he (fun h => h)).grown r2 (fun e => hnb e.symm)).set 3 _).kept hf (fun h => h)
  · exact row_kept h.rr k1 (fun g hg hh => hh.elim (fun e => (h.arn).symm g e hg) (fun e => by have := h.fr g hg; omega))
  · exact row_kept h.rs k1 (fun g hg hh => hh.elim (fun e => (h.asn).symm g e hg) (fun e => by have := h.fs g hg; omega))
  · exact row_kept (row_setCell_other r1 (a := ⟨b, 3, none⟩) (fun e => by have := hown _ e; simp at this) _) hf (fun _ _ h => h)
  · exact h.kept.then k1 (fun i hi => hi.elim (fun e => Or.inr (by have := h.fn i e; omega)) (fun e => Or.inr (by omega)))

section
variable {w : World} {b : Nat} {vr vs vn : Value} {m : Bool} {run : Int} {l : List Tk}

set_option maxRecDepth 100000 in
set_option maxHeartbeats 4000000 in
theorem reset_ok (hs : IsRef w b vr vs vn m l) : Calls Try.prog 41 #[.pointer (some ⟨b, 0, none⟩)] w fun e w' =>
    e = .returned (.tuple #[]) ∧ IsRef w' b vr vs vn m (l.map rsT) ∧ Kept (foot b vr vs vn) w w' := by
  obtain ⟨ao, c, hvs, hc⟩ := row_any hs.rs
  have hl256 := hs.n256
  have T0 : Hid (IsRef w b vr vs vn m (rsL l 0)) := by rw [rsL_zero]; exact hs
  clear hs
  go_enter Try.func41, Try.ntmps41
  go_wp2
  go_loopw [2] (fun i wr => ∃ k : Nat, k ≤ l.length ∧ i = .int .i64 k ∧ Hid (IsRef wr b vr vs vn m (rsL l k)) ∧ Hid (Kept (foot b vr vs vn) w wr)) (fun i _ => l.length - (intOf i).toNat)
  case atStart => exact ⟨0, Nat.zero_le _, rfl, T0, Kept.refl _ _⟩
  case round =>
    obtain ⟨k, hk, rfl, hT, hK⟩ := hrel
    clear T0
    have hl := rsL_len l k
    by_cases hkl : k < l.length
    · obtain ⟨⟨lm, ex, st, ac⟩, hx⟩ : ∃ a, l[k]? = some a := ⟨_, List.getElem?_eq_getElem hkl⟩
      have hk0 : (0 : Int) ≤ (k : Int) := Int.natCast_nonneg _
      have hk1 : (k : Int) < (l.length : Int) := by omega
      have hxk := rsL_at hx
      have c2 := hT.out.blk.cell 2 rfl
      have c3 := hT.out.blk.cell 3 rfl
      have HT := hT.out
      obtain ⟨gr, cr, gs, cs, gn, cn, rfl, hv, rfl, z0, z1, z2, z3, z4, z5, z6, z7, z8⟩ := HT.spot hxk
      rw [hvs] at hv
      subst hvs
      rw [hl] at hv HT hT hK c3
      cases hv
      have q1 := HT.setS 3 hl hxk
      have q2 := IsRef.setN (l := (rsL l k).set k (lm, ex, 3, ac)) (k := k) (lm := lm) (ex := ex) (st := 3) (ac := ac) 0 (by rw [List.length_set, hl]) q1 (by rw [List.getElem?_set_self (by omega)])
      rw [List.set_set, show ((lm, ex, 3, 0) : Tk) = rsT (lm, ex, st, ac) from rfl, rsL_set hx] at q2
      have k2 := (hK.out.setCell (p := ⟨gs, k, none⟩) (Or.inl (Or.inr (Or.inr (Or.inl rfl)))) (.int .i64 3)).setCell (p := ⟨gn, k, none⟩) (Or.inl (Or.inr (Or.inr (Or.inr rfl)))) (.int .i64 0)
      have Q := Lib.hid q2
      have K := Lib.hid k2
      clear q1 q2 k2 hT hK hxk hx HT
      go_wp2
      go_roundw
      case rel => exact ⟨k + 1, by omega, by go_num, by rw [hl]; exact Q.out, by rw [hl]; exact K.out⟩
      case measure => simp [intOf]; omega
    · obtain rfl : k = l.length := by omega
      have c2 := hT.out.blk.cell 2 rfl
      subst hvs
      have q := hT.out
      rw [rsL_full] at q
      have Q := Lib.hid q
      clear q hT
      go_wp2
      go_end0
      exact ⟨rfl, Q.out, hK.out⟩

set_option maxRecDepth 100000 in
set_option maxHeartbeats 4000000 in
theorem copy_ok (hs : IsRef w b vr vs vn m l) : Calls Try.prog 27 #[.pointer (some ⟨b, 0, none⟩)] w fun e w' =>
    ∃ b' vr' vs' vn', e = .returned (.pointer (some ⟨b', 0, none⟩)) ∧ IsRef w' b' vr' vs' vn' m l ∧ (∀ i, foot b' vr' vs' vn' i → w.heap.size ≤ i) ∧ Kept (fun _ => False) w w' := by
  obtain ⟨i0, hi, hz0, hz1, hz2⟩ := info_parts info_r
  obtain ⟨i1, hi1, hy0, hy1, hy2⟩ := info_parts info_s
  obtain ⟨i2, hi2, hx0, hx1, hx2⟩ := info_parts info_i
  have hl256 := hs.n256
  have S0 : St w (w.alloc (.cells #[.bool m, .slice none 0 0, .slice none 0 0, .slice none 0 0] 56)) w.heap.size m (.slice none 0 0) (.slice none 0 0) (.slice none 0 0) 0 0 0 [] [] [] :=
    ⟨Blk.new w [.bool m, .slice none 0 0, .slice none 0 0, .slice none 0 0] _, World.ownsRow_nil _ _ _ _, World.ownsRow_nil _ _ _ _, World.ownsRow_nil _ _ _ _, by simp [Value.ownBlock], by simp [Value.ownBlock], by simp [Value.ownBlock], by simp [Ap, Value.ownBlock], by simp [Ap, Value.ownBlock], by simp [Ap, Value.ownBlock], (Kept.refl _ w).alloc _, Nat.le_refl _⟩
  obtain ⟨ar, dr, rfl, _⟩ := row_any hs.rr
  obtain ⟨as', ds, rfl, _⟩ := row_any hs.rs
  obtain ⟨an, dn, rfl, _⟩ := row_any hs.rn
  have c0 := hs.blk.cell 0 rfl
  obtain ⟨N, hN⟩ : ∃ N, w.heap.size = N := ⟨_, rfl⟩
  rw [hN] at S0
  have HS := Lib.hid hs
  go_enter Try.func27, Try.ntmps27
  go_upto_region 2 with fail
  obtain ⟨w1, hw1⟩ : ∃ w1, w.alloc (.cells #[.bool m, .slice none 0 0, .slice none 0 0, .slice none 0 0] 56) = w1 := ⟨_, rfl⟩
  rw [hw1] at S0 ⊢
  have HN := Lib.hid hN
  clear hw1 hs hN c0
  have n0 := S0.blk.cell 1 rfl
  have t0 := (HS.out.kept S0.kept (fun _ _ h => h)).blk.cell 1 rfl
  have H0 := Lib.hid S0
  clear S0
  go_cut [] from 10 to 21 (fun wx => ∃ (a0 : Option Addr) (d0 : Nat), Hid (St w wx N m (.slice a0 l.length d0) (.slice none 0 0) (.slice none 0 0) l.length 0 0 (l.flatMap encR) [] []))
  case first =>
    refine wp_region_noPanic ?_
    go_region_law (refine step_append_any (by rfl) (.tmp 14) (.tmp 18) 30 (by rfl) 29 i0 (.agg #[.int .i64 0, .bool false]) 2 16 Try.underlying30 hi hz0 hz1 hz2 (by rfl) (by decide) none 0 0 [] (by simp [Act.eval]) (World.ownsRow_nil _ _ _ _) ar l.length dr (l.flatMap encR) (by simp [Act.eval]) ((HS.out.kept H0.out.kept (fun _ _ h => h)).rr.shows.heap (fun _ _ => rfl)) (encR_ones l) (by unfold maxLen; omega) (by omega) ?_; intro xa xc xw r1 r2 r3; have hn1 := blk_after r2 H0.out.blk rfl (by simp [Value.ownBlock]); have k2 := hn1.frozen 1; have k3 := hn1.cell 1 rfl)
    all_goals
      refine NoPanic.normal ?_
      go_wp2_with fail
      go_meet
      simp only [Nat.zero_add] at r1 r3
      try simp only [Nat.zero_add]
      rw [List.nil_append] at r1
      exact ⟨xa, xc, H0.out.stepR (by exact (Kept.refl (fun _ => False) _).same rfl rfl rfl rfl) r1 r2 r3 (by exact (Kept.refl (fun _ => False) _).same rfl rfl rfl rfl)⟩
  case rest =>
    clear H0 n0 t0
    obtain ⟨a0, d0, hS1⟩ := hcut
    have S1 := hS1.out
    clear hS1
    go_upto_region 3 with fail
    have n1 := S1.blk.cell 2 rfl
    have t1 := (HS.out.kept S1.kept (fun _ _ h => h)).blk.cell 2 rfl
    have H1 := Lib.hid S1
    clear S1
    go_cut [] from 22 to 33 (fun wx => ∃ (a1 : Option Addr) (d1 : Nat), Hid (St w wx N m (.slice a0 l.length d0) (.slice a1 l.length d1) (.slice none 0 0) l.length l.length 0 (l.flatMap encR) (l.map fS) []))
    case first =>
      refine wp_region_noPanic ?_
      go_region_law (refine step_append_any (by rfl) (.tmp 26) (.tmp 30) 54 (by rfl) 38 i1 (.int .i64 0) 1 8 Try.underlying54 hi1 hy0 hy1 hy2 (by rfl) (by decide) none 0 0 [] (by simp [Act.eval]) (World.ownsRow_nil _ _ _ _) as' l.length ds (l.map fS) (by simp [Act.eval]) ((HS.out.kept H1.out.kept (fun _ _ h => h)).rs.shows.heap (fun _ _ => rfl)) (by intro u hu; obtain ⟨x, _, rfl⟩ := List.mem_map.1 hu; rfl) (by unfold maxLen; omega) (by omega) ?_; intro xa xc xw r1 r2 r3; have hn1 := blk_after r2 H1.out.blk rfl (by simp [Value.ownBlock]); have k2 := hn1.frozen 2; have k3 := hn1.cell 2 rfl)
      all_goals
        refine NoPanic.normal ?_
        go_wp2_with fail
        go_meet
        simp only [Nat.zero_add] at r1 r3
        try simp only [Nat.zero_add]
        rw [List.nil_append] at r1
        exact ⟨xa, xc, H1.out.stepS (by exact (Kept.refl (fun _ => False) _).same rfl rfl rfl rfl) r1 r2 r3 (by exact (Kept.refl (fun _ => False) _).same rfl rfl rfl rfl)⟩
    case rest =>
      clear H1 n1 t1
      obtain ⟨a1, d1, hS2⟩ := hcut
      have S2 := hS2.out
      clear hS2
      go_upto_region 4 with fail
      have n2 := S2.blk.cell 3 rfl
      have t2 := (HS.out.kept S2.kept (fun _ _ h => h)).blk.cell 3 rfl
      have H2 := Lib.hid S2
      clear S2
      go_cut [] from 34 to 45 (fun wx => ∃ (a2 : Option Addr) (d2 : Nat), Hid (St w wx N m (.slice a0 l.length d0) (.slice a1 l.length d1) (.slice a2 l.length d2) l.length l.length l.length (l.flatMap encR) (l.map fS) (l.map fN)))
      case first =>
        refine wp_region_noPanic ?_
        go_region_law (refine step_append_any (by rfl) (.tmp 38) (.tmp 42) 46 (by rfl) 3 i2 (.int .i64 0) 1 8 Try.underlying46 hi2 hx0 hx1 hx2 (by rfl) (by decide) none 0 0 [] (by simp [Act.eval]) (World.ownsRow_nil _ _ _ _) an l.length dn (l.map fN) (by simp [Act.eval]) ((HS.out.kept H2.out.kept (fun _ _ h => h)).rn.shows.heap (fun _ _ => rfl)) (by intro u hu; obtain ⟨x, _, rfl⟩ := List.mem_map.1 hu; rfl) (by unfold maxLen; omega) (by omega) ?_; intro xa xc xw r1 r2 r3; have hn1 := blk_after r2 H2.out.blk rfl (by simp [Value.ownBlock]); have k2 := hn1.frozen 3; have k3 := hn1.cell 3 rfl)
        all_goals
          refine NoPanic.normal ?_
          go_wp2_with fail
          go_meet
          simp only [Nat.zero_add] at r1 r3
          try simp only [Nat.zero_add]
          rw [List.nil_append] at r1
          exact ⟨xa, xc, H2.out.stepN (by exact (Kept.refl (fun _ => False) _).same rfl rfl rfl rfl) r1 r2 r3 (by exact (Kept.refl (fun _ => False) _).same rfl rfl rfl rfl)⟩
      case rest =>
        clear H2 n2 t2
        obtain ⟨a2, d2, hS3⟩ := hcut
        have S3 := hS3.out
        clear hS3
        have H3 := Lib.hid S3
        clear S3
        go_wp2
        go_ret
        obtain ⟨q1, q2⟩ := H3.out.ref hl256
        exact ⟨N, _, _, _, rfl, q1, q2, H3.out.kept⟩
end

set_option maxRecDepth 100000 in
theorem new_big (ao : Option Addr) (n c : Nat) (w : World) (h : 256 < n) : Calls Try.prog 23 #[.slice ao n c] w fun e w' => e = .returned (.tuple #[.pointer (some ⟨w.heap.size, 0, none⟩), .int .i64 182]) ∧ IsRef w' w.heap.size (.slice none 0 0) (.slice none 0 0) (.slice none 0 0) false [] ∧ Kept (fun _ => False) w w' := by
  have q := Blk.new w [.bool false, .slice none 0 0, .slice none 0 0, .slice none 0 0] 56
  go_enter Try.func23, Try.ntmps23
  go_wp2
  go_ret2
  exact ⟨rfl, ⟨q, World.ownsRow_nil _ _ _ _, World.ownsRow_nil _ _ _ _, World.ownsRow_nil _ _ _ _, by simp [Ap, Value.ownBlock], by simp [Ap, Value.ownBlock], by simp [Ap, Value.ownBlock], by simp [Value.ownBlock], by simp [Value.ownBlock], by simp [Value.ownBlock], Nat.zero_le _⟩, (Kept.refl _ w).alloc _⟩
theorem dead_ref {w wf : World} (k : Kept (fun _ => False) w wf) : IsRef (wf.alloc (.cells #[.bool false, .slice none 0 0, .slice none 0 0, .slice none 0 0] 56)) wf.heap.size (.slice none 0 0) (.slice none 0 0) (.slice none 0 0) false [] ∧ Kept (fun _ => False) w (wf.alloc (.cells #[.bool false, .slice none 0 0, .slice none 0 0, .slice none 0 0] 56)) := 
  ⟨⟨Blk.new wf [.bool false, .slice none 0 0, .slice none 0 0, .slice none 0 0] 56, World.ownsRow_nil _ _ _ _, World.ownsRow_nil _ _ _ _, World.ownsRow_nil _ _ _ _, by simp [Ap, Value.ownBlock], by simp [Ap, Value.ownBlock], by simp [Ap, Value.ownBlock], by simp [Value.ownBlock], by simp [Value.ownBlock], by simp [Value.ownBlock], Nat.zero_le _⟩, k.alloc _⟩
theorem new0 (w : World) : St w (w.alloc (.cells #[.bool true, .slice none 0 0, .slice none 0 0, .slice none 0 0] 56)) w.heap.size true (.slice none 0 0) (.slice none 0 0) (.slice none 0 0) 0 0 0 [] [] [] :=
  ⟨Blk.new w [.bool true, .slice none 0 0, .slice none 0 0, .slice none 0 0] _, World.ownsRow_nil _ _ _ _, World.ownsRow_nil _ _ _ _, World.ownsRow_nil _ _ _ _, by simp [Value.ownBlock], by simp [Value.ownBlock], by simp [Value.ownBlock], by simp [Ap, Value.ownBlock], by simp [Ap, Value.ownBlock], by simp [Ap, Value.ownBlock], (Kept.refl _ w).alloc _, Nat.le_refl _⟩

set_option maxRecDepth 100000 in
set_option maxHeartbeats 8000000 in
theorem new_ok (ao : Option Addr) (c : Nat) (rs : List (Int × Bool)) (w : World) (h : rs.length ≤ 256) (hc : CameL w 2 (encKB .i64) ao rs) (hgd : ∀ (j : Nat) (r : Int × Bool), j < rs.length → rs[j]? = some r → goodR r = true) : Calls Try.prog 23 #[.slice ao rs.length c] w fun e w' =>
    ∃ b vr vs vn, e = .returned (.tuple #[.pointer (some ⟨b, 0, none⟩), .int .i64 0]) ∧ IsRef w' b vr vs vn true (rs.map mkT) ∧ (∀ i, foot b vr vs vn i → w.heap.size ≤ i) ∧ Kept (fun _ => False) w w' := by
  obtain ⟨i0, hi, hz0, hz1, hz2⟩ := info_parts info_r
  obtain ⟨i1, hi1, hy0, hy1, hy2⟩ := info_parts info_s
  obtain ⟨i2, hi2, hx0, hx1, hx2⟩ := info_parts info_i
  have M0 := Lib.hid (new0 w)
  have HC := Lib.hid hc
  have HG := Lib.hid hgd
  obtain ⟨b, hb0⟩ : ∃ b, w.heap.size = b := ⟨_, rfl⟩
  rw [hb0] at M0
  clear hc hgd
  go_enter Try.func23, Try.ntmps23
  go_wp2
  have HB0 := Lib.hid hb0
  clear hb0
  go_loopg [5] rs.length (fun g i wx => ∃ (k : Nat) (vr vs vn : Value), g = rs.length - k ∧ k ≤ rs.length ∧ i = .int .i64 k ∧ Hid (St w wx b true vr vs vn k k k (((rs.take k).map mkT).flatMap encR) (((rs.take k).map mkT).map fS) (((rs.take k).map mkT).map fN)))
  case atStart => exact ⟨0, _, _, _, rfl, Nat.zero_le _, rfl, M0⟩
  case round =>
    clear M0
    obtain ⟨k, vr, vs, vn, hm, hk, rfl, hS⟩ := hrel
    have HM := Lib.hid hm
    clear hm
    by_cases hlt : k < rs.length
    · obtain ⟨⟨lm, ex⟩, hx⟩ : ∃ r, rs[k]? = some r := ⟨_, List.getElem?_eq_getElem (by omega)⟩
      have hgk := HG.out k _ hlt hx
      obtain ⟨sb, so, rfl, hsb, hcc⟩ := HC.out (by rintro rfl; simp at hx)
      have hc0 : ∀ (j : Nat) (u : Value), (encKB .i64 (lm, ex))[j]? = some u → wr.cell? ⟨sb, so + k * 2 + j, none⟩ = some u := fun j u hu => by
        rw [hS.out.kept.cell (p := ⟨sb, so + k * 2 + j, none⟩) hsb (fun h => h)]
        exact hcc k _ hx j u hu
      have q0 : wr.cell? ⟨sb, so + k * 2, none⟩ = some (.int .i64 lm) := hc0 0 _ rfl
      have q1 : wr.cell? ⟨sb, so + k * 2 + 1, none⟩ = some (.bool ex) := hc0 1 _ rfl
      have hk0 : (0 : Int) ≤ (k : Int) := by omega
      have hk1 : (k : Int) < (rs.length : Int) := by omega
      have HX := Lib.hid hx
      have eR : (((rs.take (k + 1)).map mkT).flatMap encR) = ((rs.take k).map mkT).flatMap encR ++ encR (mkT (lm, ex)) := by rw [List.take_add_one, hx]; simp
      have eS : (((rs.take (k + 1)).map mkT).map fS) = ((rs.take k).map mkT).map fS ++ [.int .i64 3] := by rw [List.take_add_one, hx]; simp [mkT, fS]
      have eN : (((rs.take (k + 1)).map mkT).map fN) = ((rs.take k).map mkT).map fN ++ [.int .i64 0] := by rw [List.take_add_one, hx]; simp [mkT, fN]
      simp only [goodR, Bool.and_eq_true, decide_eq_true_eq, Bool.not_eq_true', Bool.and_eq_false_iff, decide_eq_false_iff_not] at hgk
      have d1 : decide (lm < 1) = false := by rw [decide_eq_false_iff_not]; omega
      have d2 : decide (255 < lm) = false := by rw [decide_eq_false_iff_not]; omega
      have d3 : ex = true → decide (1 < lm) = false := fun e => by rw [decide_eq_false_iff_not]; subst e; rcases hgk.2 with h | h; cases h; omega
      clear hcc hc0 hx hgk
      have n1 := hS.out.blk.cell 1 rfl
      have hbl := hS.out.blk.lt
      have ER := Lib.hid eR
      have ES := Lib.hid eS
      have EN := Lib.hid eN
      clear eR eS eN
      cases ex
      case false =>
        clear d3
        go_upto_region 9 with fail
        clear d1 d2
        obtain ⟨ar, dr, rfl, _⟩ := row_any hS.out.rr
        go_cut [] from 50 to 62 (fun wx => ∃ (ar : Option Addr) (dr : Nat), Hid (St w wx b true (.slice ar (k + 1) dr) vs vn (k + 1) k k (((rs.take (k + 1)).map mkT).flatMap encR) (((rs.take k).map mkT).map fS) (((rs.take k).map mkT).map fN)))
        case first =>
          refine wp_region_noPanic ?_
          go_region_law (refine step_append_any (by rfl) (.tmp 54) (.tmp 59) 30 (by rfl) 29 i0 (.agg #[.int .i64 0, .bool false]) 2 16 Try.underlying30 hi hz0 hz1 hz2 (by rfl) (by decide) ar k dr (((rs.take k).map mkT).flatMap encR) (by simp [Act.eval]) (row_heap (row_alloc hS.out.rr (.cells #[.int .i64 lm, .bool false] 29)) (fun _ _ => rfl)) (some ⟨wr.heap.size, 0, none⟩) 1 1 (encR (mkT (lm, false))) (by simp [Act.eval]) (shows_new _ _ _ (by simp) (by rfl)) (by intro u hu; simp only [encR, mkT, List.mem_cons, List.not_mem_nil, or_false] at hu; rcases hu with rfl | rfl <;> rfl) (by unfold maxLen; omega) (by omega) ?_; intro xa xc xw r1 r2 r3; have hn1 := blk_after r2 (hS.out.blk.alloc (.cells #[.int .i64 lm, .bool false] 29)) rfl (fun e => by have := hS.out.fr _ e; omega); have k2 := hn1.frozen 1; have k3 := hn1.cell 1 rfl)
          all_goals
            refine NoPanic.normal ?_
            go_wp2_with fail
            go_meet
            refine ⟨xa, xc, hS.out.stepR (by exact ((Kept.refl (fun _ => False) wr).alloc (.cells #[.int .i64 lm, .bool false] 29)).same rfl rfl rfl rfl) (by rw [ER.out]; exact r1) r2 r3 (by exact (Kept.refl (fun _ => False) _).same rfl rfl rfl rfl)⟩
        case rest =>
        clear hS n1 q0 q1
        obtain ⟨ar, dr, hS⟩ := hcut
        have n2 := hS.out.blk.cell 2 rfl
        obtain ⟨as', ds, rfl, _⟩ := row_any hS.out.rs
        go_upto_region 10 with fail
        obtain ⟨LS, hLS⟩ : ∃ L, ((rs.take k).map mkT).map fS = L := ⟨_, rfl⟩
        have hRS := hS.out.rs
        rw [hLS] at hRS
        have HLS := Lib.hid hLS
        have HRS := Lib.hid hRS
        clear hLS hRS
        go_cut [] from 63 to 71 (fun wx => ∃ (as' : Option Addr) (ds : Nat), Hid (St w wx b true (.slice ar (k + 1) dr) (.slice as' (k + 1) ds) vn (k + 1) (k + 1) k (((rs.take (k + 1)).map mkT).flatMap encR) (((rs.take (k + 1)).map mkT).map fS) (((rs.take k).map mkT).map fN)))
        case first =>
          go_wp2_with ((at_builtin; refine wpList_append_any rfl (.tmp 67) (.tmp 68) 54 rfl 38 i1 (.int .i64 0) 1 8 Try.underlying54 hi1 hy0 hy1 hy2 rfl (by decide) _ _ _ LS rfl ?hrow _ 1 1 [.int .i64 3] rfl ?hnew (by simp [Value.oneCell']) ?b1 ?b2 ?_))
          case hrow => exact row_alloc HRS.out _
          case hnew => exact shows_new _ [_] _ (by simp) rfl
          case b1 => unfold maxLen; omega
          case b2 => omega
          intro xa xc xw r1 r2 r3
          have hn1 := blk_after r2 (hS.out.blk.alloc _) rfl (fun e => by have := hS.out.fs _ e; omega)
          have k2 := hn1.frozen 2
          have k3 := hn1.cell 2 rfl
          have e1 : Row xw 38 1 (.slice xa (k + 1) xc) (k + 1) (((rs.take (k + 1)).map mkT).map fS) := by rw [ES.out, HLS.out]; exact r1
          have Q1 := Lib.hid (hS.out.stepS ((Kept.refl (fun _ => False) _).alloc _) e1 r2 (fun g hg => (r3 g hg).imp id (fun h => by rw [World.size_alloc]; exact h)) (Kept.refl (fun _ => False) _))
          clear e1
          clear r1 r2 r3 hn1
          go_wp2_with fail
          go_meet
          exact ⟨xa, xc, Q1⟩
        case rest =>
        clear hS n2 HLS HRS
        obtain ⟨as', ds, hS⟩ := hcut
        have n3 := hS.out.blk.cell 3 rfl
        obtain ⟨an, dn, rfl, _⟩ := row_any hS.out.rn
        go_upto_region 11 with fail
        obtain ⟨LN, hLN⟩ : ∃ L, ((rs.take k).map mkT).map fN = L := ⟨_, rfl⟩
        have hRN := hS.out.rn
        rw [hLN] at hRN
        have HLN := Lib.hid hLN
        have HRN := Lib.hid hRN
        clear hLN hRN
        go_wp2_with ((at_builtin; refine wpList_append_any rfl (.tmp 76) (.tmp 77) 46 rfl 3 i2 (.int .i64 0) 1 8 Try.underlying46 hi2 hx0 hx1 hx2 rfl (by decide) _ _ _ LN rfl ?hrow _ 1 1 [.int .i64 0] rfl ?hnew (by simp [Value.oneCell']) ?b1 ?b2 ?_))
        case hrow => exact row_alloc HRN.out _
        case hnew => exact shows_new _ [_] _ (by simp) rfl
        case b1 => unfold maxLen; omega
        case b2 => omega
        intro xa xc xw r1 r2 r3
        have hn1 := blk_after r2 (hS.out.blk.alloc _) rfl (fun e => by have := hS.out.fn _ e; omega)
        have k2 := hn1.frozen 3
        have k3 := hn1.cell 3 rfl
        have e1 : Row xw 3 1 (.slice xa (k + 1) xc) (k + 1) (((rs.take (k + 1)).map mkT).map fN) := by rw [EN.out, HLN.out]; exact r1
        have Q1 := Lib.hid (hS.out.stepN ((Kept.refl (fun _ => False) _).alloc _) e1 r2 (fun g hg => (r3 g hg).imp id (fun h => by rw [World.size_alloc]; exact h)) (Kept.refl (fun _ => False) _))
        clear e1
        clear r1 r2 r3 hn1 hS
        go_wp2
        go_roundg (rs.length - (k + 1))
        case measure => have := HM.out; omega
        case rel => exact ⟨k + 1, _, _, _, rfl, by omega, by go_num, Q1⟩
      case true =>
        have d3 := d3 rfl
        go_upto_region 9 with fail
        clear d1 d2 d3
        obtain ⟨ar, dr, rfl, _⟩ := row_any hS.out.rr
        go_cut [] from 50 to 62 (fun wx => ∃ (ar : Option Addr) (dr : Nat), Hid (St w wx b true (.slice ar (k + 1) dr) vs vn (k + 1) k k (((rs.take (k + 1)).map mkT).flatMap encR) (((rs.take k).map mkT).map fS) (((rs.take k).map mkT).map fN)))
        case first =>
          refine wp_region_noPanic ?_
          go_region_law (refine step_append_any (by rfl) (.tmp 54) (.tmp 59) 30 (by rfl) 29 i0 (.agg #[.int .i64 0, .bool false]) 2 16 Try.underlying30 hi hz0 hz1 hz2 (by rfl) (by decide) ar k dr (((rs.take k).map mkT).flatMap encR) (by simp [Act.eval]) (row_heap (row_alloc hS.out.rr (.cells #[.int .i64 lm, .bool true] 29)) (fun _ _ => rfl)) (some ⟨wr.heap.size, 0, none⟩) 1 1 (encR (mkT (lm, true))) (by simp [Act.eval]) (shows_new _ _ _ (by simp) (by rfl)) (by intro u hu; simp only [encR, mkT, List.mem_cons, List.not_mem_nil, or_false] at hu; rcases hu with rfl | rfl <;> rfl) (by unfold maxLen; omega) (by omega) ?_; intro xa xc xw r1 r2 r3; have hn1 := blk_after r2 (hS.out.blk.alloc (.cells #[.int .i64 lm, .bool true] 29)) rfl (fun e => by have := hS.out.fr _ e; omega); have k2 := hn1.frozen 1; have k3 := hn1.cell 1 rfl)
          all_goals
            refine NoPanic.normal ?_
            go_wp2_with fail
            go_meet
            refine ⟨xa, xc, hS.out.stepR (by exact ((Kept.refl (fun _ => False) wr).alloc (.cells #[.int .i64 lm, .bool true] 29)).same rfl rfl rfl rfl) (by rw [ER.out]; exact r1) r2 r3 (by exact (Kept.refl (fun _ => False) _).same rfl rfl rfl rfl)⟩
        case rest =>
        clear hS n1 q0 q1
        obtain ⟨ar, dr, hS⟩ := hcut
        have n2 := hS.out.blk.cell 2 rfl
        obtain ⟨as', ds, rfl, _⟩ := row_any hS.out.rs
        go_upto_region 10 with fail
        obtain ⟨LS, hLS⟩ : ∃ L, ((rs.take k).map mkT).map fS = L := ⟨_, rfl⟩
        have hRS := hS.out.rs
        rw [hLS] at hRS
        have HLS := Lib.hid hLS
        have HRS := Lib.hid hRS
        clear hLS hRS
        go_cut [] from 63 to 71 (fun wx => ∃ (as' : Option Addr) (ds : Nat), Hid (St w wx b true (.slice ar (k + 1) dr) (.slice as' (k + 1) ds) vn (k + 1) (k + 1) k (((rs.take (k + 1)).map mkT).flatMap encR) (((rs.take (k + 1)).map mkT).map fS) (((rs.take k).map mkT).map fN)))
        case first =>
          go_wp2_with ((at_builtin; refine wpList_append_any rfl (.tmp 67) (.tmp 68) 54 rfl 38 i1 (.int .i64 0) 1 8 Try.underlying54 hi1 hy0 hy1 hy2 rfl (by decide) _ _ _ LS rfl ?hrow _ 1 1 [.int .i64 3] rfl ?hnew (by simp [Value.oneCell']) ?b1 ?b2 ?_))
          case hrow => exact row_alloc HRS.out _
          case hnew => exact shows_new _ [_] _ (by simp) rfl
          case b1 => unfold maxLen; omega
          case b2 => omega
          intro xa xc xw r1 r2 r3
          have hn1 := blk_after r2 (hS.out.blk.alloc _) rfl (fun e => by have := hS.out.fs _ e; omega)
          have k2 := hn1.frozen 2
          have k3 := hn1.cell 2 rfl
          have e1 : Row xw 38 1 (.slice xa (k + 1) xc) (k + 1) (((rs.take (k + 1)).map mkT).map fS) := by rw [ES.out, HLS.out]; exact r1
          have Q1 := Lib.hid (hS.out.stepS ((Kept.refl (fun _ => False) _).alloc _) e1 r2 (fun g hg => (r3 g hg).imp id (fun h => by rw [World.size_alloc]; exact h)) (Kept.refl (fun _ => False) _))
          clear e1
          clear r1 r2 r3 hn1
          go_wp2_with fail
          go_meet
          exact ⟨xa, xc, Q1⟩
        case rest =>
        clear hS n2 HLS HRS
        obtain ⟨as', ds, hS⟩ := hcut
        have n3 := hS.out.blk.cell 3 rfl
        obtain ⟨an, dn, rfl, _⟩ := row_any hS.out.rn
        go_upto_region 11 with fail
        obtain ⟨LN, hLN⟩ : ∃ L, ((rs.take k).map mkT).map fN = L := ⟨_, rfl⟩
        have hRN := hS.out.rn
        rw [hLN] at hRN
        have HLN := Lib.hid hLN
        have HRN := Lib.hid hRN
        clear hLN hRN
        go_wp2_with ((at_builtin; refine wpList_append_any rfl (.tmp 76) (.tmp 77) 46 rfl 3 i2 (.int .i64 0) 1 8 Try.underlying46 hi2 hx0 hx1 hx2 rfl (by decide) _ _ _ LN rfl ?hrow _ 1 1 [.int .i64 0] rfl ?hnew (by simp [Value.oneCell']) ?b1 ?b2 ?_))
        case hrow => exact row_alloc HRN.out _
        case hnew => exact shows_new _ [_] _ (by simp) rfl
        case b1 => unfold maxLen; omega
        case b2 => omega
        intro xa xc xw r1 r2 r3
        have hn1 := blk_after r2 (hS.out.blk.alloc _) rfl (fun e => by have := hS.out.fn _ e; omega)
        have k2 := hn1.frozen 3
        have k3 := hn1.cell 3 rfl
        have e1 : Row xw 3 1 (.slice xa (k + 1) xc) (k + 1) (((rs.take (k + 1)).map mkT).map fN) := by rw [EN.out, HLN.out]; exact r1
        have Q1 := Lib.hid (hS.out.stepN ((Kept.refl (fun _ => False) _).alloc _) e1 r2 (fun g hg => (r3 g hg).imp id (fun h => by rw [World.size_alloc]; exact h)) (Kept.refl (fun _ => False) _))
        clear e1
        clear r1 r2 r3 hn1 hS
        go_wp2
        go_roundg (rs.length - (k + 1))
        case measure => have := HM.out; omega
        case rel => exact ⟨k + 1, _, _, _, rfl, by omega, by go_num, Q1⟩
    · have hkk : k = rs.length := by omega
      subst hkk
      have e : rs.take rs.length = rs := List.take_length
      have hR : IsRef wr b vr vs vn true (rs.map mkT) ∧ ∀ i, foot b vr vs vn i → w.heap.size ≤ i := St.ref (by have := hS.out; rw [e] at this; rw [List.length_map]; exact this) (by rw [List.length_map]; exact h)
      have HK := Lib.hid hS.out.kept
      have HR := Lib.hid hR
      clear hR hS e
      go_wp2
      go_ret2
      exact ⟨b, vr, vs, vn, rfl, HR.out.1, HR.out.2, HK.out⟩

end Go.Proofs.Ytallbbjmfcohfaa.TR
