/- The document's board: Copy. -/
import Derived.Test.YtemhfonneggneaaRbI
import Derived.Deep.RegionLaw
namespace Go.Proofs.Ytemhfonneggneaa.RB
open Go.RowKit Go.Fr Go.Tb Go.Proofs.Ytemhfonneggneaa.CK Go.Proofs.Ytemhfonneggneaa.TC
attribute [local go_sem] Oper.semAt_some

theorem encL_ones (l : List (Bool × Nat × Nat)) : ∀ u ∈ l.flatMap encL, u.oneCell' = true := by
  intro u hu
  obtain ⟨x, _, hx⟩ := List.mem_flatMap.1 hu
  simp only [encL, List.mem_cons, List.not_mem_nil, or_false] at hx
  rcases hx with rfl | rfl | rfl <;> rfl

/-- a row that the copy has got -/
structure Got where
  e : TypeId
  sz : Nat
  v : Value
  n : Nat
  cs : List Value
/-- the copy under way -/
structure Cq (w wx : World) (p : Nat) (M : Rm) (T : Tb) (V : List Nat) (A : List (Bool × Nat × Nat)) (R : List Bool) (N : Nat) (xs : List Value) (G : List Got) : Prop where
  src : IsRb wx p M T V A R
  blk : Blk wx N (T.cells ++ xs) 109
  kept : Kept (fun _ => False) w wx
  new : w.heap.size ≤ N
  rows : ∀ r ∈ G, Row wx r.e r.sz r.v r.n r.cs ∧ ∀ g, r.v.ownBlock = some g → w.heap.size ≤ g ∧ g ≠ N
  apart : G.Pairwise (fun a b => ∀ g, a.v.ownBlock = some g → b.v.ownBlock ≠ some g)
section
variable {w w' wx : World} {p : Nat} {M : Rm} {T : Tb} {V : List Nat} {A : List (Bool × Nat × Nat)} {R : List Bool} {N : Nat} {xs : List Value} {G : List Got}
theorem Cq.nep (h : Cq w wx p M T V A R N xs G) (hp : p < w.heap.size) : p ≠ N := by have := h.new; omega
/-- a list is copied -/
theorem Cq.step {wd xw wf : World} {j : Nat} {e : TypeId} {sz n c : Nat} {ao : Option Addr} {cs : List Value} (h : Cq w wx p M T V A R N xs G) (hp : ∀ g, rfoot p M g → g < w.heap.size) (hd : Kept (fun _ => False) wx wd) (r2 : wd.grownBy xw (Value.slice none 0 0).ownBlock)
    (r1 : Row xw e sz (.slice ao n c) n cs) (r3 : ∀ g, (Value.slice ao n c).ownBlock = some g → (Value.slice none 0 0).ownBlock = some g ∨ wd.heap.size ≤ g)
    (hf : Kept (fun _ => False) (xw.setCell ⟨N, 13 + j, none⟩ (.slice ao n c)) wf) : Cq w wf p M T V A R N (xs.set j (.slice ao n c)) (G ++ [⟨e, sz, .slice ao n c, n, cs⟩]) := by
  have hN := h.blk.lt
  have k1 : Kept (fun _ => False) wx xw := hd.grown r2 (fun k hk => by cases hk)
  have k2 : Kept (fun i => i = N) wx (xw.setCell ⟨N, 13 + j, none⟩ (.slice ao n c)) := Kept.setCell (S := fun i => i = N) (k1.mono (fun _ _ x => x.elim)) (p := ⟨N, 13 + j, none⟩) (Or.inl rfl) _
  have k3 : Kept (fun i => i = N) wx wf := k2.then hf (fun _ x => x.elim)
  have hnew := h.new
  have hge : ∀ g, (Value.slice ao n c).ownBlock = some g → wx.heap.size ≤ g := fun g hg => (r3 g hg).elim (fun e => by cases e) (fun h => Nat.le_trans hd.size h)
  have hws := h.kept.size
  refine ⟨h.src.kept k3 (fun g hg e => by have := hp g hg; omega), ?_, h.kept.then k3 (fun i hi => Or.inr (by omega)), hnew, ?_, ?_⟩
  · have b1 := (h.blk.kept k1 (fun x => x)).set (13 + j) (.slice ao n c)
    rw [show (T.cells ++ xs).set (13 + j) (.slice ao n c) = T.cells ++ xs.set j (.slice ao n c) from by
      rw [List.set_append_right _ _ (by show 13 ≤ 13 + j; omega)]
      congr 1
      congr 1
      show 13 + j - 13 = j
      omega] at b1
    exact b1.kept hf (fun x => x)
  · intro r hr
    rcases List.mem_append.1 hr with hr | hr
    · obtain ⟨q1, q2⟩ := h.rows r hr
      exact ⟨row_kept q1 k3 (fun g hg e => (q2 g hg).2 e), q2⟩
    · simp only [List.mem_singleton] at hr
      subst hr
      refine ⟨row_kept (row_setCell_other r1 (a := ⟨N, 13 + j, none⟩) (fun e => by have := hge N e; omega) (.slice ao n c)) hf (fun _ _ x => x), fun g hg => ?_⟩
      have := hge g hg
      exact ⟨by omega, by omega⟩
  · rw [List.pairwise_append]
    refine ⟨h.apart, List.pairwise_singleton _ _, fun a ha b hb g hg => ?_⟩
    simp only [List.mem_singleton] at hb
    subst hb
    intro hg2
    have := hge g hg2
    have := row_lt (h.rows a ha).1 hg
    omega

set_option maxRecDepth 100000 in
set_option maxHeartbeats 100000000 in
theorem copy_ok (hs : IsRb w p M T V A R) (h1 : V.length ≤ 64) (h2 : A.length ≤ 64) (h3 : R.length ≤ 64) : Calls Try.prog 18 #[.pointer (some ⟨p, 0, none⟩)] w fun e w' =>
    ∃ N M', e = .returned (.pointer (some ⟨N, 0, none⟩)) ∧ IsRb w' p M T V A R ∧ IsRb w' N M' T V A R ∧ (∀ q, rfoot N M' q → w.heap.size ≤ q) ∧ Kept (fun _ => False) w w' := by
  obtain ⟨i0, hi, hz0, hz1, hz2⟩ := info_parts infoU
  obtain ⟨i1, hj, hy0, hy1, hy2⟩ := info_parts infoL
  obtain ⟨i2, hk, hx0, hx1, hx2⟩ := info_parts infoB
  have hlt := Lib.hid hs.lt
  have kb := (Kept.refl (fun _ => False) w).alloc (.cells (T.cells ++ ([.slice none 0 0, .slice none 0 0, .slice none 0 0] : List Value)).toArray 109)
  have nb := Blk.new w (T.cells ++ ([.slice none 0 0, .slice none 0 0, .slice none 0 0] : List Value)) 109
  have HC1 : Hid (Cq w (w.alloc (.cells (T.cells ++ ([.slice none 0 0, .slice none 0 0, .slice none 0 0] : List Value)).toArray 109)) p M T V A R w.heap.size [.slice none 0 0, .slice none 0 0, .slice none 0 0] []) :=
    ⟨hs.same kb, nb, kb, Nat.le_refl _, (fun r hr => by cases hr), List.Pairwise.nil⟩
  have c0 := hs.blk.cell 0 (v := Value.int .i64 T.uses) rfl
  have c1 := hs.blk.cell 1 (v := Value.int .i64 T.modes) rfl
  have c2 := hs.blk.cell 2 (v := Value.slice T.ta T.tasks.length T.tc) rfl
  have c3 := hs.blk.cell 3 (v := Value.slice T.ra T.rings.length T.rc) rfl
  have c4 := hs.blk.cell 4 (v := Value.slice T.ea T.ress.length T.ec) rfl
  have c5 := hs.blk.cell 5 (v := Value.slice T.ca T.counters.length T.cc) rfl
  have c6 := hs.blk.cell 6 (v := Value.slice T.aa T.alarms.length T.ac) rfl
  have c7 := hs.blk.cell 7 (v := Value.slice T.ia T.isrs.length T.ic) rfl
  have c8 := hs.blk.cell 8 (v := Value.slice T.ma T.msgs.length T.mc) rfl
  have c9 := hs.blk.cell 9 (v := Value.int .i64 T.depth) rfl
  have c10 := hs.blk.cell 10 (v := Value.int .i64 T.frames) rfl
  have c11 := hs.blk.cell 11 (v := Value.int .i64 T.errs) rfl
  have c12 := hs.blk.cell 12 (v := Value.int .i64 T.backs) rfl
  clear hs kb nb
  go_enter Try.func18, Try.ntmps18
  go_upto_region 2 with fail
  obtain ⟨w1, hw1⟩ : ∃ w1, w.alloc (.cells (T.cells ++ ([.slice none 0 0, .slice none 0 0, .slice none 0 0] : List Value)).toArray 109) = w1 := ⟨_, rfl⟩
  obtain ⟨N, hN⟩ : ∃ N, w.heap.size = N := ⟨_, rfl⟩
  rw [hw1] at HC1
  rw [show (T.cells ++ ([.slice none 0 0, .slice none 0 0, .slice none 0 0] : List Value)).toArray = #[Value.int .i64 T.uses, Value.int .i64 T.modes, Value.slice T.ta T.tasks.length T.tc, Value.slice T.ra T.rings.length T.rc, Value.slice T.ea T.ress.length T.ec, Value.slice T.ca T.counters.length T.cc, Value.slice T.aa T.alarms.length T.ac, Value.slice T.ia T.isrs.length T.ic, Value.slice T.ma T.msgs.length T.mc, Value.int .i64 T.depth, Value.int .i64 T.frames, Value.int .i64 T.errs, Value.int .i64 T.backs, Value.slice none 0 0, Value.slice none 0 0, Value.slice none 0 0] from rfl] at hw1
  rw [hw1]
  simp only [hN]
  have HN := Lib.hid hN
  rw [hN] at HC1
  generalize (#[Value.int .i64 T.uses, Value.int .i64 T.modes, Value.slice T.ta T.tasks.length T.tc, Value.slice T.ra T.rings.length T.rc, Value.slice T.ea T.ress.length T.ec, Value.slice T.ca T.counters.length T.cc, Value.slice T.aa T.alarms.length T.ac, Value.slice T.ia T.isrs.length T.ic, Value.slice T.ma T.msgs.length T.mc, Value.int .i64 T.depth, Value.int .i64 T.frames, Value.int .i64 T.errs, Value.int .i64 T.backs, Value.slice none 0 0, Value.slice none 0 0, Value.slice none 0 0] : Array Value) = Z16
  generalize (#[Value.int .i64 T.uses, Value.int .i64 T.modes, Value.slice T.ta T.tasks.length T.tc, Value.slice T.ra T.rings.length T.rc, Value.slice T.ea T.ress.length T.ec, Value.slice T.ca T.counters.length T.cc, Value.slice T.aa T.alarms.length T.ac, Value.slice T.ia T.isrs.length T.ic, Value.slice T.ma T.msgs.length T.mc, Value.int .i64 T.depth, Value.int .i64 T.frames, Value.int .i64 T.errs, Value.int .i64 T.backs] : Array Value) = Z13
  clear c0 c1 c2 c3 c4 c5 c6 c7 c8 c9 c10 c11 c12 hw1 hN
  obtain ⟨ov, kv, oa, ka, or', kr, hv, ha, hr, _, _, _⟩ := HC1.out.src.lists
  have HV := Lib.hid hv
  have HA := Lib.hid ha
  have HR := Lib.hid hr
  clear hv ha hr
  go_cut [] from 10 to 22 (fun wx => ∃ a d, Cq w wx p M T V A R N [.slice a V.length d, .slice none 0 0, .slice none 0 0] [⟨22, 1, .slice a V.length d, V.length, V.map vu⟩])
  case first =>
   as_aux_lemma =>
    have n0 := HC1.out.blk.cell 13 (v := Value.slice none 0 0) rfl
    have m0 := HC1.out.src.blk.cell 13 (v := M.v) rfl
    rw [HV.out] at m0
    have rw0 := HC1.out.src.rv
    rw [HV.out] at rw0
    have hNb := HC1.out.blk.lt
    have hpN : ¬ p = N := HC1.out.nep (hlt.out p (Or.inl rfl))
    refine wp_region_noPanic ?_
    go_region_law (refine step_append_any (by rfl) (.tmp 14) (.tmp 18) 72 (by rfl) 22 i0 (.int .u32 0) 1 4 Try.underlying72 hi hz0 hz1 hz2 (by rfl) (by decide) none 0 0 [] (by simp [Act.eval]) (World.ownsRow_nil _ _ _ _) ov V.length kv (V.map vu) (by simp [Act.eval]) (rw0.shows.heap (fun _ _ => rfl)) (by intro u hu; obtain ⟨x, _, rfl⟩ := List.mem_map.1 hu; rfl) (by unfold maxLen; omega) (by omega) ?_; intro xa xc xw r1 r2 r3; have hn1 := blk_after r2 HC1.out.blk rfl (by simp [Value.ownBlock]); have k2 := hn1.frozen 13; have k3 := hn1.cell 13 (v := Value.slice none 0 0) rfl)
    all_goals
      refine NoPanic.normal ?_
      go_wp2_with fail
      go_meet
      simp only [Nat.zero_add] at r1 r3
      try simp only [Nat.zero_add]
      rw [List.nil_append] at r1
      exact ⟨xa, xc, HC1.out.step (j := 0) hlt.out (by exact (Kept.refl (fun _ => False) _).same rfl rfl rfl rfl) r2 r1 r3 (by exact (Kept.refl (fun _ => False) _).same rfl rfl rfl rfl)⟩
  case rest =>
    clear HC1
    obtain ⟨a0, d0, hC2⟩ := hcut
    have HC2 := Lib.hid hC2
    clear hC2
    go_upto_region 3 with fail
    go_cut [] from 22 to 34 (fun wx => ∃ a d, Cq w wx p M T V A R N [.slice a0 V.length d0, .slice a A.length d, .slice none 0 0] [⟨22, 1, .slice a0 V.length d0, V.length, V.map vu⟩, ⟨129, 3, .slice a A.length d, A.length, A.flatMap encL⟩])
    case first =>
     as_aux_lemma =>
      have n0 := HC2.out.blk.cell 14 (v := Value.slice none 0 0) rfl
      have m0 := HC2.out.src.blk.cell 14 (v := M.a) rfl
      rw [HA.out] at m0
      have rw0 := HC2.out.src.ra
      rw [HA.out] at rw0
      have hNb := HC2.out.blk.lt
      have hpN : ¬ p = N := HC2.out.nep (hlt.out p (Or.inl rfl))
      refine wp_region_noPanic ?_
      go_region_law (refine step_append_any (by rfl) (.tmp 26) (.tmp 30) 106 (by rfl) 129 i1 (.agg #[.bool false, .int .u32 0, .int .u32 0]) 3 12 Try.underlying106 hj hy0 hy1 hy2 (by rfl) (by decide) none 0 0 [] (by simp [Act.eval]) (World.ownsRow_nil _ _ _ _) oa A.length ka (A.flatMap encL) (by simp [Act.eval]) (rw0.shows.heap (fun _ _ => rfl)) (encL_ones A) (by unfold maxLen; omega) (by omega) ?_; intro xa xc xw r1 r2 r3; have hn1 := blk_after r2 HC2.out.blk rfl (by simp [Value.ownBlock]); have k2 := hn1.frozen 14; have k3 := hn1.cell 14 (v := Value.slice none 0 0) rfl)
      all_goals
        refine NoPanic.normal ?_
        go_wp2_with fail
        go_meet
        simp only [Nat.zero_add] at r1 r3
        try simp only [Nat.zero_add]
        rw [List.nil_append] at r1
        exact ⟨xa, xc, HC2.out.step (j := 1) hlt.out (by exact (Kept.refl (fun _ => False) _).same rfl rfl rfl rfl) r2 r1 r3 (by exact (Kept.refl (fun _ => False) _).same rfl rfl rfl rfl)⟩
    case rest =>
      clear HC2
      obtain ⟨a1, d1, hC3⟩ := hcut
      have HC3 := Lib.hid hC3
      clear hC3
      go_upto_region 4 with fail
      go_cut [] from 34 to 46 (fun wx => ∃ a d, Cq w wx p M T V A R N [.slice a0 V.length d0, .slice a1 A.length d1, .slice a R.length d] [⟨22, 1, .slice a0 V.length d0, V.length, V.map vu⟩, ⟨129, 3, .slice a1 A.length d1, A.length, A.flatMap encL⟩, ⟨4, 1, .slice a R.length d, R.length, R.map Value.bool⟩])
      case first =>
       as_aux_lemma =>
        have n0 := HC3.out.blk.cell 15 (v := Value.slice none 0 0) rfl
        have m0 := HC3.out.src.blk.cell 15 (v := M.r) rfl
        rw [HR.out] at m0
        have rw0 := HC3.out.src.rr
        rw [HR.out] at rw0
        have hNb := HC3.out.blk.lt
        have hpN : ¬ p = N := HC3.out.nep (hlt.out p (Or.inl rfl))
        refine wp_region_noPanic ?_
        go_region_law (refine step_append_any (by rfl) (.tmp 38) (.tmp 42) 107 (by rfl) 4 i2 (.bool false) 1 1 Try.underlying107 hk hx0 hx1 hx2 (by rfl) (by decide) none 0 0 [] (by simp [Act.eval]) (World.ownsRow_nil _ _ _ _) or' R.length kr (R.map Value.bool) (by simp [Act.eval]) (rw0.shows.heap (fun _ _ => rfl)) (by intro u hu; obtain ⟨x, _, rfl⟩ := List.mem_map.1 hu; rfl) (by unfold maxLen; omega) (by omega) ?_; intro xa xc xw r1 r2 r3; have hn1 := blk_after r2 HC3.out.blk rfl (by simp [Value.ownBlock]); have k2 := hn1.frozen 15; have k3 := hn1.cell 15 (v := Value.slice none 0 0) rfl)
        all_goals
          refine NoPanic.normal ?_
          go_wp2_with fail
          go_meet
          simp only [Nat.zero_add] at r1 r3
          try simp only [Nat.zero_add]
          rw [List.nil_append] at r1
          exact ⟨xa, xc, HC3.out.step (j := 2) hlt.out (by exact (Kept.refl (fun _ => False) _).same rfl rfl rfl rfl) r2 r1 r3 (by exact (Kept.refl (fun _ => False) _).same rfl rfl rfl rfl)⟩
      case rest =>
        clear HC3
        obtain ⟨a2, d2, hC4⟩ := hcut
        have HC4 := Lib.hid hC4
        clear hC4
        go_wp2_with fail
        go_ret
        have hC := HC4.out
        obtain ⟨r0, q0⟩ := hC.rows _ (by simp : (⟨22, 1, .slice a0 V.length d0, V.length, V.map vu⟩ : Got) ∈ _)
        obtain ⟨r1, q1⟩ := hC.rows _ (by simp : (⟨129, 3, .slice a1 A.length d1, A.length, A.flatMap encL⟩ : Got) ∈ _)
        obtain ⟨r2, q2⟩ := hC.rows _ (by simp : (⟨4, 1, .slice a2 R.length d2, R.length, R.map Value.bool⟩ : Got) ∈ _)
        have hap := hC.apart
        simp only [List.pairwise_cons, List.mem_cons, List.not_mem_nil, or_false, forall_eq_or_imp, forall_eq] at hap
        refine ⟨N, ⟨.slice a0 V.length d0, .slice a1 A.length d1, .slice a2 R.length d2⟩, rfl, hC.src, ⟨hC.blk, r0, r1, r2, hC.src.lens, ?_, ?_, ?_⟩, ?_, hC.kept⟩
        · exact fun g hg => ⟨(q0 g hg).2, hap.1.1 g hg, hap.1.2 g hg⟩
        · exact fun g hg => ⟨(q1 g hg).2, hap.2.1 g hg⟩
        · exact fun g hg => (q2 g hg).2
        · rintro q (h | h | h | h)
          · have := hC.new; omega
          · exact (q0 q h).1
          · exact (q1 q h).1
          · exact (q2 q h).1
end
end Go.Proofs.Ytemhfonneggneaa.RB
