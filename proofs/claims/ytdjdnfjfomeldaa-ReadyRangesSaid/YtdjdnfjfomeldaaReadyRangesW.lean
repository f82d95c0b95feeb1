/- ReadyRanges: All left early, gone through again, while the queue is used. -/
import Derived.Test.YtdjdnfjfomeldaaRdyRg
import Derived.Laws.ResultCell
namespace Go.Proofs.Ytdjdnfjfomeldaa.readyRangesW
open Go.RowKit Go.Fr Go.Rq Go.Shelf Go.Proofs.Ytdjdnfjfomeldaa.RL
open Go.Proofs.Ytdjdnfjfomeldaa.QD (encQ infoQ qall_ok qall_stops seqQ_nil)
attribute [local go_sem] Oper.semAt_some

theorem results_cell {fn : Func} {p : Tmp} {ty : TypeId} (h : fn.results = #[.cell p ty]) (hu : Try.prog.underlying ty = some .bool) (tmps : Array Value) (w : World) {b : Nat} {v : Value} (hp : tmps.getD p undef = .pointer (some ⟨b, 0, none⟩)) (hc : w.cell? ⟨b, 0, none⟩ = some v) :
    (results fn tmps).run Try.prog w = .ok v w := by
  have hp' : tmps[p]?.getD undef = .pointer (some ⟨b, 0, none⟩) := by simpa using hp
  simp [results, h, hp', asAddr, loadVar, isAgg, run_underlying hu, hc, Result.andThen]

theorem prefix_at {l pre : List (Int × Int)} (h : pre <+: l) {j : Nat} {z : Int × Int} (hz : pre[j]? = some z) : l[j]? = some z := by
  obtain ⟨t, rfl⟩ := h
  rw [List.getElem?_append_left (List.getElem?_eq_some_iff.1 hz).1]
  exact hz
/-- the four boxes of the law: the stop, the result, the two pointers -/
structure B4 (W : World) (m b p bq bp : Nat) (s : Int) : Prop where
  s : Blk W m [.int .i64 s] 3
  r : Blk W (m + 1) [.bool false] 4
  q : Blk W bq [.pointer (some ⟨b, 0, none⟩)] 24
  p : Blk W bp [.pointer (some ⟨p, 0, none⟩)] 25
theorem B4.kept {W W' : World} {m b p bq bp : Nat} {s : Int} (h : B4 W m b p bq bp s) (k : Kept (fun i => ¬ (i = m ∨ i = m + 1 ∨ i = bq ∨ i = bp)) W W') : B4 W' m b p bq bp s :=
  ⟨h.s.kept k (fun x => x (Or.inl rfl)), h.r.kept k (fun x => x (Or.inr (Or.inl rfl))), h.q.kept k (fun x => x (Or.inr (Or.inr (Or.inl rfl)))), h.p.kept k (fun x => x (Or.inr (Or.inr (Or.inr rfl))))⟩
theorem B4.same {W W' : World} {m b p bq bp : Nat} {s : Int} (h : B4 W m b p bq bp s) (k : Kept (fun _ => False) W W') : B4 W' m b p bq bp s := h.kept (k.mono (fun _ _ x => x.elim))

set_option maxRecDepth 100000 in
set_option maxHeartbeats 8000000 in
theorem walk (w : World) (a0 : Option Addr) (cap0 : Nat) (l0 : List (Int × Int)) (hl0 : l0.length ≤ cap0) (hm0 : cap0 ≤ maxLen) (hc0 : CameL w 2 (encKK .i64 .i64) a0 l0)
    (_ : ∀ x ∈ l0, (Lit.int .i64 x.1).wf = true ∧ (Lit.int .i64 x.2).wf = true) (hr0 : l0.length * 16 ≤ 140737488351232)
    (a1 : Option Addr) (cap1 : Nat) (l1 : List (Int × Int × Int)) (hl1 : l1.length ≤ cap1) (hm1 : cap1 ≤ maxLen) (hc1 : CameL w 3 (encKKK .i64 .i64 .i64) a1 l1)
    (_ : ∀ x ∈ l1, (Lit.int .i64 x.1).wf = true ∧ (Lit.int .i64 x.2.1).wf = true ∧ (Lit.int .i64 x.2.2).wf = true) (hr1 : l1.length * 24 ≤ 140737488351232)
    (a2 : Int) (_ : (Lit.int .i64 a2).wf = true) :
    Calls Try.prog 3 #[.slice a0 l0.length cap0, .slice a1 l1.length cap1, .int .i64 a2] w fun e w' => e = .returned (.bool true) ∧ Below w.heap.size w w' := by
  have hnf := seqQ_nil
  have hmx : l0.length ≤ maxLen := Nat.le_trans hl0 hm0
  have hmy : l1.length ≤ maxLen := Nat.le_trans hl1 hm1
  unfold maxLen at hmx hmy
  have bS := (Blk.new w [.int .i64 a2] 3).alloc (.cells #[.bool false] 4)
  have bR := Blk.new (w.alloc (.cells #[.int .i64 a2] 3)) [.bool false] 4
  have k1 := ((Kept.refl (fun _ => False) w).alloc (.cells #[.int .i64 a2] 3)).alloc (.cells #[.bool false] 4)
  have z1 : ((w.alloc (.cells #[.int .i64 a2] 3)).alloc (.cells #[.bool false] 4)).heap.size = w.heap.size + 2 := by simp
  rw [World.size_alloc] at bR
  have hcA := hc0.below (k1.below (Nat.le_refl _) (fun _ h => False.elim h)) (Nat.le_refl _)
  obtain ⟨M, hM⟩ : ∃ M, w.heap.size = M := ⟨_, rfl⟩
  have HC1 := Lib.hid hc1
  refine callsIn_wide (n := 8) |>.1 ?_
  refine callsIn_of_wp_marks Try.func3 rfl trivial ?_ rfl
  simp only [Try.ntmps3, List.size_toArray, List.length_cons, List.length_nil, Nat.reduceAdd, Nat.reduceSub, Array.replicate_succ, Array.replicate_zero, List.push_toArray, List.append_toArray, List.nil_append, List.cons_append]
  refine wpIn_wide.2 ?_
  clear hc0 hc1
  simp only [hM] at bS bR z1 ⊢
  go_wp2_with fail
  obtain ⟨W1, hW1⟩ : ∃ W1, (w.alloc (.cells #[.int .i64 a2] 3)).alloc (.cells #[.bool false] 4) = W1 := ⟨_, rfl⟩
  rw [hW1] at bS bR k1 z1 hcA ⊢
  have hmade := made_ok a0 cap0 l0 W1 hmx (by omega) hcA
  have BS := Lib.hid bS
  have BR := Lib.hid bR
  have K1 := Lib.hid k1
  have Z1 := Lib.hid z1
  have HM := Lib.hid hM
  clear bS bR k1 z1 hW1 hcA hM
  refine hmade.mono ?_
  rintro e W2 (⟨rfl, k2⟩ | ⟨b, p, rfl, hq⟩)
  · have b7 := (Blk.new W2 [.pointer none] 24).alloc (.cells #[.pointer none] 25)
    have k3 := ((Kept.refl (fun _ => False) W2).alloc (.cells #[.pointer none] 24)).alloc (.cells #[.pointer none] 25)
    have K3 := Lib.hid (k2.then k3 (fun _ x => x.elim))
    clear hmade k2
    go_upto_region 2 with fail
    obtain ⟨W3, hW3⟩ : ∃ W3, (W2.alloc (.cells #[.pointer none] 24)).alloc (.cells #[.pointer none] 25) = W3 := ⟨_, rfl⟩
    obtain ⟨B7, hB7⟩ : ∃ m, W2.heap.size = m := ⟨_, rfl⟩
    rw [hW3] at b7 k3 K3 ⊢
    simp only [hB7] at b7 ⊢
    clear hW3 k3
    go_upto_region 4 with (go_at_call 9; refine (heads_ok _).mono ?_; rintro e W4 ⟨rfl, k4⟩)
    have K4 := Lib.hid (K3.out.then k4 (fun _ x => x.elim))
    have c7 := (b7.kept k4 (fun x => x)).cell 0 rfl
    have br := BR.out.kept K4.out (fun x => x)
    have c6 := br.cell 0 rfl
    have f6 := br.frozen 0
    have BRR := Lib.hid (br.set 0 (.bool true))
    clear b7 k4 br
    go_wp2_with fail
    refine ⟨_, results_cell rfl Try.underlying4 _ _ rfl (BRR.out.cell 0 rfl), rfl, ?_⟩
    exact (((K1.out.then K4.out (fun _ h => h.elim)).mono (S' := fun i => w.heap.size ≤ i) (fun _ _ h => h.elim)).set (b := M + 1) 0 (Or.inl (by have := HM.out; omega)) _).below (Nat.le_of_eq HM.out.symm) (fun i h => by have := HM.out; have h' : w.heap.size ≤ i := h; omega)
  · obtain ⟨st0, hst0⟩ : ∃ st0, l0.map mkE = st0 := ⟨_, rfl⟩
    rw [hst0] at hq
    have b7 := (Blk.new W2 [.pointer (some ⟨b, 0, none⟩)] 24).alloc (.cells #[.pointer (some ⟨p, 0, none⟩)] 25)
    have b8 := Blk.new (W2.alloc (.cells #[.pointer (some ⟨b, 0, none⟩)] 24)) [.pointer (some ⟨p, 0, none⟩)] 25
    have k3 := ((Kept.refl (fun _ => False) W2).alloc (.cells #[.pointer (some ⟨b, 0, none⟩)] 24)).alloc (.cells #[.pointer (some ⟨p, 0, none⟩)] 25)
    have z3 : ((W2.alloc (.cells #[.pointer (some ⟨b, 0, none⟩)] 24)).alloc (.cells #[.pointer (some ⟨p, 0, none⟩)] 25)).heap.size = W2.heap.size + 2 := by simp
    rw [World.size_alloc] at b8
    clear hmade hst0
    go_upto_region 2 with fail
    obtain ⟨W3, hW3⟩ : ∃ W3, (W2.alloc (.cells #[.pointer (some ⟨b, 0, none⟩)] 24)).alloc (.cells #[.pointer (some ⟨p, 0, none⟩)] 25) = W3 := ⟨_, rfl⟩
    obtain ⟨bq, hbq⟩ : ∃ m, W2.heap.size = m := ⟨_, rfl⟩
    rw [hW3] at b7 b8 k3 z3 ⊢
    simp only [hbq] at b7 b8 z3 ⊢
    have P3 : Hid (Pq W1 W3 (fun i => i = M ∨ i = M + 1 ∨ i = bq ∨ i = bq + 1) b p st0 st0) := by
      have h1 := hq
      obtain ⟨cells, R, d, h1, h2, h3, h4, h5, hx, h6⟩ := h1
      have hz := h6.size
      have hz1 := Z1.out
      refine ⟨cells, R, d, h1.same k3, h2.same k3, h3, h4, h5, fun i hi => ?_, h6.then k3 (fun _ x => x.elim)⟩
      rcases hi with h | h | h | h
      · exact ⟨by omega, fun hq => by have := h3 i hq; omega, fun hq => by have := h4 i hq; omega⟩
      · exact ⟨by omega, fun hq => by have := h3 i hq; omega, fun hq => by have := h4 i hq; omega⟩
      · exact ⟨by omega, fun hq => by have := h1.lt i hq; omega, fun hq => by have := h2.lt i hq; omega⟩
      · exact ⟨by omega, fun hq => by have := h1.lt i hq; omega, fun hq => by have := h2.lt i hq; omega⟩
    have Q3 : Hid (B4 W3 M b p bq (bq + 1) a2) := ⟨(BS.out.kept hq.kept (fun x => x)).kept k3 (fun x => x), (BR.out.kept hq.kept (fun x => x)).kept k3 (fun x => x), b7, b8⟩
    have HBQ : Hid (M + 2 ≤ bq) := by
      have h1 := hq.kept.size
      have h2 := Z1.out
      unfold Hid; omega
    clear hW3 k3 b7 b8 z3 hq hbq BS BR
    go_upto_region 4 with (go_at_call 9; refine (heads_ok _).mono ?_; rintro e W4 ⟨rfl, k4⟩)
    have P4 := Lib.hid (P3.out.same k4)
    have Q4 := Lib.hid (Q3.out.same k4)
    have c7 := Q4.out.q.cell 0 rfl
    clear P3 Q3 k4
    go_wp2_with fail
    clear c7
    go_loopw [10] (fun i wr => ∃ (k : Nat) (st : List En), k ≤ l1.length ∧ i = .int .i64 k ∧ Hid (Pq W1 wr (fun i => i = M ∨ i = M + 1 ∨ i = bq ∨ i = bq + 1) b p st st) ∧ Hid (B4 wr M b p bq (bq + 1) a2)) (fun i _ => l1.length - (intOf i).toNat)
    case atStart => exact ⟨0, st0, Nat.zero_le _, rfl, P4, Q4⟩
    case round =>
      clear P4 Q4
      obtain ⟨k, st, hk, rfl, hP, hQ⟩ := hrel
      have c7 := hQ.out.q.cell 0 rfl
      have c8 := hQ.out.p.cell 0 rfl
      by_cases hkl : k < l1.length
      · obtain ⟨⟨kd, pr, idd⟩, hx⟩ : ∃ x, l1[k]? = some x := ⟨_, List.getElem?_eq_getElem hkl⟩
        have hk0 : (0 : Int) ≤ (k : Int) := by omega
        have hk1 : (k : Int) < (l1.length : Int) := by omega
        obtain ⟨ab, off, rfl, hab, e0, e1, e2⟩ := elem_tri HC1.out ((K1.out.then hP.out.kept (fun _ x => x.elim)).below (Nat.le_refl _) (fun _ h => h.elim)) hx
        have HX := Lib.hid hx
        obtain ⟨PQ, hPQ⟩ : ∃ PQ, putQ st pr idd false = PQ := ⟨_, rfl⟩
        have HT := (hP.out.same ((Kept.refl (fun _ => False) wr).drewN 1)).tail pr idd
        have HD := fun W (h : Pq W1 W (fun i => i = M ∨ i = M + 1 ∨ i = bq ∨ i = bq + 1) b p PQ.1 st) => (h.same ((Kept.refl (fun _ => False) W).drewN 1)).dtail pr idd
        rw [hPQ] at HT
        simp only [hPQ] at HD
        have HT := Lib.hid HT
        have HD := Lib.hid HD
        have hQ2 := Lib.hid (hQ.out.same ((Kept.refl (fun _ => False) wr).drewN 1))
        clear hP hQ hx hPQ e0
        go_upto_region 9 with fail
        go_still_tail 11, (by kernel_rfl)
        go_wp2_with fail
        refine HT.out.mono ?_
        rintro e W5 ⟨rfl, p5, k5⟩
        have Q5 := Lib.hid (hQ2.out.kept k5)
        have P5 := Lib.hid p5
        obtain ⟨ab', off', hab', _, _, e1, e2⟩ := elem_tri HC1.out ((K1.out.then p5.kept (fun _ x => x.elim)).below (Nat.le_refl _) (fun _ h => h.elim)) HX.out
        cases hab'
        have c8 := Q5.out.p.cell 0 rfl
        have Q6 := Lib.hid (Q5.out.same ((Kept.refl (fun _ => False) W5).drewN 1))
        clear HT p5 k5 hQ2 c7
        go_upto_region 10 with fail
        go_still_tail 11, (by kernel_rfl)
        go_wp2_with fail
        refine (HD.out _ P5.out).mono ?_
        rintro e W6 ⟨rfl, p6, k6⟩
        have Q7 := Lib.hid (Q6.out.kept k6)
        have P6 := Lib.hid p6
        clear HD p6 k6 Q5 Q6 P5 c8 e1 e2
        go_wp2_with fail
        go_roundw
        case rel => exact ⟨k + 1, PQ.1, by omega, by go_num, P6, Q7⟩
        case measure => simp [intOf]; omega
      · obtain rfl : k = l1.length := by omega
        clear HC1
        have hda := hP.out.dall
        have hle := allQ_le hP.out.falls
        obtain ⟨L, hLL⟩ : ∃ L, allQ st = L := ⟨_, rfl⟩
        rw [hLL] at hda hle
        have HLL := Lib.hid hLL
        clear hLL
        go_upto_region 11 with fail
        go_wp2_with fail
        refine hda.mono ?_
        rintro e w5 ⟨ao, c, rfl, r5, ho5, k5⟩
        obtain ⟨m5, hm5⟩ : ∃ m, w5.heap.size = m := ⟨_, rfl⟩
        have Q5 := hQ.out.same k5
        have k8 := (((Kept.refl (fun _ => False) w5).alloc (.cells #[.slice ao L.length c] 34)).alloc (.cells #[.pointer (some ⟨b, 0, none⟩)] 24)).alloc (.cells #[.int .i64 0] 3)
        have bW := ((Blk.new w5 [.slice ao L.length c] 34).alloc (.cells #[.pointer (some ⟨b, 0, none⟩)] 24)).alloc (.cells #[.int .i64 0] 3)
        have bN := (Blk.new (w5.alloc (.cells #[.slice ao L.length c] 34)) [.pointer (some ⟨b, 0, none⟩)] 24).alloc (.cells #[.int .i64 0] 3)
        have bK := Blk.new ((w5.alloc (.cells #[.slice ao L.length c] 34)).alloc (.cells #[.pointer (some ⟨b, 0, none⟩)] 24)) [.int .i64 0] 3
        have z8 : (((w5.alloc (.cells #[.slice ao L.length c] 34)).alloc (.cells #[.pointer (some ⟨b, 0, none⟩)] 24)).alloc (.cells #[.int .i64 0] 3)).heap.size = m5 + 3 := by simp [hm5]
        simp only [World.size_alloc, hm5] at bW bN bK
        have c7 := (Q5.q.alloc (.cells #[.slice ao L.length c] 34)).cell 0 rfl
        clear c8
        go_wp2_with fail
        refine (qall_ok _ _).mono ?_
        rintro e w7 ⟨rfl, rfl⟩
        clear c7
        go_upto_region 16 with fail
        try simp only [World.size_alloc, hm5]
        obtain ⟨W8, hW8⟩ : ∃ W8, ((w5.alloc (.cells #[.slice ao L.length c] 34)).alloc (.cells #[.pointer (some ⟨b, 0, none⟩)] 24)).alloc (.cells #[.int .i64 0] 3) = W8 := ⟨_, rfl⟩
        rw [hW8] at k8 bW bN bK z8 ⊢
        have kk := k5.then k8 (fun _ x => x.elim)
        have hz5 := k5.size
        have Q8 := Lib.hid (Q5.same k8)
        have R8 := Lib.hid (row_kept r5 k8 (fun _ _ x => x))
        have hrl := fun g (hg : (Value.slice ao L.length c).ownBlock = some g) => row_lt r5 hg
        have HB8 : Hid (Rg W1 W8 W8 (fun i => (i = M ∨ i = M + 1 ∨ i = bq ∨ i = bq + 1) ∨ i = m5 ∨ i = m5 + 1 ∨ (Value.slice ao L.length c).ownBlock = some i) b p (m5 + 1 + 1) 0 st st) := by
          refine Rg.start hP.out kk (fun i hi => ?_) (by omega) (fun hb => ?_) bK
          · rcases hi with h | h | h | h
            · exact Or.inl h
            · exact Or.inr (by omega)
            · exact Or.inr (by omega)
            · exact Or.inr ⟨ho5 i h, by have := hrl i h; omega⟩
          · have hbq := HBQ.out
            have hx := hP.out
            have hbs := hQ.out.p.lt
            rcases hb with (h | h | h | h) | h | h | h
            · omega
            · omega
            · omega
            · omega
            · omega
            · omega
            · have := hrl _ h; omega
        have BW := Lib.hid bW
        have BN := Lib.hid bN
        have HO : Hid (∀ g, (Value.slice ao L.length c).ownBlock = some g → M + 2 ≤ g) := by
          have h1 := HBQ.out
          have h2 := hQ.out.p.lt
          intro g hg
          have := ho5 g hg
          omega
        obtain ⟨Bx, hBx⟩ : ∃ B, (fun i => (i = M ∨ i = M + 1 ∨ i = bq ∨ i = bq + 1) ∨ i = m5 ∨ i = m5 + 1 ∨ (Value.slice ao L.length c).ownBlock = some i) = B := ⟨_, rfl⟩
        rw [hBx] at HB8
        have xs : Hid (Bx M) := by rw [← hBx]; exact Or.inl (Or.inl rfl)
        have xr : Hid (Bx (M + 1)) := by rw [← hBx]; exact Or.inl (Or.inr (Or.inl rfl))
        have xq : Hid (Bx bq) := by rw [← hBx]; exact Or.inl (Or.inr (Or.inr (Or.inl rfl)))
        have xp : Hid (Bx (bq + 1)) := by rw [← hBx]; exact Or.inl (Or.inr (Or.inr (Or.inr rfl)))
        have xw : Hid (Bx m5) := by rw [← hBx]; exact Or.inr (Or.inl rfl)
        have xn : Hid (Bx (m5 + 1)) := by rw [← hBx]; exact Or.inr (Or.inr (Or.inl rfl))
        have xo : Hid (∀ g, (Value.slice ao L.length c).ownBlock = some g → Bx g) := by rw [← hBx]; exact fun g hg => Or.inr (Or.inr (Or.inr hg))
        have xb : Hid (∀ i, Bx i → i ≠ m5 → Bx i ∧ i ≠ m5) := fun i h1 h2 => ⟨h1, h2⟩
        have HM5 : Hid (M + 2 ≤ m5) := by
          have h1 := HBQ.out
          have h2 := hQ.out.p.lt
          unfold Hid; omega
        have Z8 := Lib.hid z8
        clear hBx hW8 kk hz5 hrl bW bN bK k8 k5 Q5 hda hP hQ r5 ho5 hm5 z8 hkl
        go_wp2_with fail
        obtain ⟨rpf, hat⟩ := HB8.out.atq
        have hst := fun hf h0 => qall_stops 7 (m5 + 1) (fun _ i => i < W8.heap.size) W8 (by decide) hf h0 (by have := Z8.out; omega) (BN.out.cell 0 rfl) hat
        rw [HLL.out] at hst
        refine (wpIn_wide (n := 8)).1 ?_
        generalize ha : Act.mk _ _ = a
        refine wpIn_range_own rfl (by decide) (gf := 34) (lb := #[.pointer (some ⟨m5 + 1, 0, none⟩)]) (by subst ha; rfl) trivial (enters_of Try.func34 (by kernel_rfl) rfl)
          (hst (fun _ _ _ _ _ h => h) (fun _ _ _ h => h)) Keeps.trans (fun W l r o' hl ho => keeps_putObj (low_hangs W8.heap.size) W l _ o' hl ho rfl) (fun A C _ hk => (keeps_low (hk.mono (fun _ _ x => x.elim))).2) (Below.refl _ _) (fun _ => rfl)
          (fun pre W => ∃ st', Rg W1 W8 W Bx b p (m5 + 1 + 1) pre.length st' st')
          (fun cd pre W => match cd with
            | .ret => ∃ (j : Nat) (z : Int × Int), pre[j]? = some z ∧ L[j]? ≠ some z
            | .exit i => i = 2 ∧ (∃ st', Rg W1 W8 W Bx b p (m5 + 1 + 1) pre.length st' st') ∧ (pre.length : Int) = a2
            | _ => False) ?hI ?hIx ⟨st, HB8.out⟩
          (fun x a' W => ∃ k, a' = { tmps := (a.tmps.setIfInBounds 67 (.agg #[.int .i64 x.1, .int .i64 x.2])).setIfInBounds 14 (.pointer (some ⟨k, 0, none⟩)), defers := [] } ∧ Blk W k [.int .i64 x.1, .int .i64 x.2] 40)
          ?hAx ?assign ?body ?done ?stop
        case hI =>
          rintro pre W W' row ⟨st', h⟩ hg hr
          exact ⟨st', h.own hg (fun r e => (hr r e).1)⟩
        case hIx =>
          rintro cd pre W W' row hI hg hr
          cases cd with
          | ret => exact hI
          | exit i =>
            obtain ⟨e, ⟨st', h⟩, h3⟩ := hI
            exact ⟨e, ⟨st', h.own hg (fun r e => (hr r e).1)⟩, h3⟩
          | _ => exact hI
        case hAx =>
          rintro x a' s A C row ⟨k, h1, h2⟩ hg hr
          exact ⟨k, h1, h2.cells hg (fun r e => (hr r e).2)⟩
        case assign =>
          intro l x W K hK
          subst ha
          gi_wp2
          exact hK _ _ ((Kept.refl _ _).alloc _) ⟨W.heap.size, rfl, Blk.new W _ _⟩
        case body =>
          rintro lp pre ⟨x, y⟩ a' W ⟨st', hR⟩ ⟨kx, rfl, hx⟩ hlt
          subst ha
          simp only [List.setIfInBounds_toArray, List.set_cons_succ, List.set_cons_zero]
          have hlt0 : (0 : Int) ≤ (pre.length : Int) := Int.natCast_nonneg _
          have hlt1 : (pre.length : Int) < (L.length : Int) := by omega
          have hge1 : decide ((L.length : Int) ≤ (pre.length : Int)) = false := by simp; omega
          have hge2 : decide (L.length ≤ pre.length) = false := by simp; omega
          obtain ⟨⟨z, v⟩, hz⟩ : ∃ z, L[pre.length]? = some z := ⟨_, List.getElem?_eq_getElem hlt⟩
          have hrow := hR.row xo.out R8.out
          have hcell : ∃ g, ao = some ⟨g, 0, none⟩ ∧ W.cell? ⟨g, pre.length * 2, none⟩ = some (.int .i64 z) ∧ W.cell? ⟨g, pre.length * 2 + 1, none⟩ = some (.int .i64 v) := by
            rcases row_forms hrow with ⟨_, h0⟩ | ⟨g, c', hv, _⟩
            · omega
            · cases hv
              exact ⟨g, rfl, rows_cell (enc := encQ) (fun _ => rfl) hrow (i := 0) hz rfl, rows_cell (enc := encQ) (fun _ => rfl) hrow (i := 1) hz rfl⟩
          obtain ⟨g, hao, hc0, hc1⟩ := hcell
          subst hao
          have x0 := hx.cell 0 rfl
          have x1 := hx.cell 1 rfl
          have c13 := hR.kb.cell 0 rfl
          have c11 := (hR.blk xw.out BW.out).cell 0 rfl
          have HR := Lib.hid hR
          have HZ := Lib.hid hz
          clear hrow hR hx hz
          by_cases hxz : (x, y) = (z, v)
          · cases hxz
            have hne : (binOp .neq 40 (.agg #[.int .i64 x, .int .i64 y]) (.agg #[.int .i64 x, .int .i64 y])).run Try.prog = fun w => .ok (.bool false) w := by
              funext w; simp [go_sem]
            gi_wp2
            refine wpIn_region_reads (by kernel_rfl) (by kernel_rfl) (by kernel_rfl) ?_
            repeat (go_big_quiet_step (fail))
            refine wpQuiet_nil ?_
            rintro WE ⟨nq, rfl⟩
            have R2 := Lib.hid (HR.out.same ((Kept.refl (fun _ => False) W).drewN nq))
            obtain ⟨WE, hWE⟩ : ∃ WE, W.drewN nq = WE := ⟨_, rfl⟩
            have KE : Hid (Kept (fun i => i < W8.heap.size) W WE) := by rw [← hWE]; exact (Kept.refl _ W).drewN nq
            rw [hWE] at R2 ⊢
            clear hWE HR x0 x1 c13 c11 hc0 hc1 hne
            have b13 := R2.out.kb.cell 0 rfl
            have f13 := R2.out.kb.frozen 0
            obtain ⟨R3, k3⟩ := R2.out.putK ((pre.length : Int) + 1)
            have K3 := Lib.hid (KE.out.then k3 (fun _ x => Or.inl x))
            have HR3 := Lib.hid R3
            have c7 := (R3.blk xq.out Q8.out.q).cell 0 rfl
            have hT := R3.take
            have hadd : IntKind.i64.wrap ((pre.length : Int) + 1) = (pre.length : Int) + 1 := IntWalk.i64_in _ (by omega)
            clear R3 k3 KE
            gi_wp2_with (refine ⟨trivial, ?_⟩; gi_at_call 14; refine (CallsIn.inRound _ (callsIn_wide.2 hT)).mono ?_; rintro e W4 ⟨rfl, R4, k4⟩; have c8 := (R4.blk xp.out Q8.out.p).cell 0 rfl; have hT2 := R4.dtake; clear hT)
            refine ⟨trivial, ?_⟩
            gi_at_call 15
            refine (CallsIn.inRound _ (callsIn_wide.2 hT2)).mono ?_
            rintro e W5 ⟨rfl, R5, k5⟩
            have K5 := Lib.hid ((K3.out.then k4 (fun _ x => Or.inl x)).then k5 (fun _ x => Or.inl x))
            have R5' := Lib.hid R5
            have d13 := R5.kb.cell 0 rfl
            have d5 := (R5.blk xs.out Q8.out.s).cell 0 rfl
            have hlen : ((pre ++ [(x, y)]).length : Int) = (pre.length : Int) + 1 := by simp
            have HL := Lib.hid hlen
            clear hT2 R4 k4 R5 k5 c7 c8 hlen HR3
            by_cases hlv : ((pre.length : Int) + 1) = a2
            · have hlvb : (((pre.length : Int) + 1) == a2) = true := by simpa using hlv
              have HLV := Lib.hid hlv
              clear hlv
              gi_wp2
              exact ⟨(keeps_low K5.out).1, rfl, ⟨_, by rw [HL.out]; exact R5'.out⟩, by rw [HL.out]; exact HLV.out⟩
            · have hlvb : (((pre.length : Int) + 1) == a2) = false := by simpa using hlv
              clear hlv
              gi_wp2
              exact ⟨(keeps_low K5.out).1, (keeps_low K5.out).2, _, by rw [HL.out]; exact R5'.out⟩
          · have hne : (binOp .neq 40 (.agg #[.int .i64 x, .int .i64 y]) (.agg #[.int .i64 z, .int .i64 v])).run Try.prog = fun w => .ok (.bool true) w := by
              funext w
              by_cases h1 : x = z
              · have h2 : ¬ y = v := fun e => hxz (by rw [h1, e])
                have h2b : (y == v) = false := by simpa using h2
                simp [go_sem, h1, h2, h2b]
              · have h1b : (x == z) = false := by simpa using h1
                simp [go_sem, h1, h1b]
            gi_wp2
            refine wpIn_region_reads (by kernel_rfl) (by kernel_rfl) (by kernel_rfl) ?_
            repeat (go_big_quiet_step (fail))
            refine wpQuiet_nil ?_
            rintro WE ⟨nq, rfl⟩
            have R2 := Lib.hid (HR.out.same ((Kept.refl (fun _ => False) W).drewN nq))
            obtain ⟨WE, hWE⟩ : ∃ WE, W.drewN nq = WE := ⟨_, rfl⟩
            have KE : Hid (Kept (fun i => i < W8.heap.size) W WE) := by rw [← hWE]; exact (Kept.refl _ W).drewN nq
            rw [hWE] at R2 ⊢
            have d8 := (R2.out.blk xr.out Q8.out.r)
            have c8 := d8.cell 0 rfl
            have f8 := d8.frozen 0
            have HX := Lib.hid hxz
            clear hWE HR x0 x1 c13 c11 hc0 hc1 hne hxz d8
            gi_wp2
            refine ⟨(keeps_low (KE.out.then ((Kept.refl (fun i => i = M + 1) WE).setCell (p := ⟨M + 1, 0, none⟩) (Or.inl rfl) (.bool false)) (fun i e => Or.inl (by have := Z8.out; have := HM5.out; omega)))).1, pre.length, (x, y), by simp, ?_⟩
            rw [HZ.out]
            intro e
            exact HX.out (Option.some.inj e).symm
        case done =>
          rintro D ys W hD hys ⟨st', hR⟩ hK
          subst ha
          obtain rfl : ys = L := hys
          obtain ⟨L, rfl⟩ : ∃ L', L' = ys := ⟨_, rfl⟩
          have hN : (L.length : Int) = L.length ∨ (L.length : Int) = a2 := Or.inl rfl
          obtain ⟨n, hn⟩ : ∃ n : Int, n = L.length := ⟨_, rfl⟩
          rw [← hn] at hR
          have hN : n = L.length ∨ n = a2 := Or.inl hn
          clear hn
          have HN := Lib.hid hN
          have HR := Lib.hid hR
          have HK := Lib.hid hK
          have HD := Lib.hid hD
          have c13 := hR.kb.cell 0 rfl
          have c11 := (hR.blk xw.out BW.out).cell 0 rfl
          have c5 := (hR.blk xs.out Q8.out.s).cell 0 rfl
          clear hN hR hK hD hst
          go_upto_region 24 with fail
          go_cut [97] from 89 to 97 (fun t wx => wx = W ∧ t = .bool false)
          case first =>
            by_cases hn : n = L.length
            · have d1 : (n != (L.length : Int)) = false := by simpa using hn
              clear hn
              go_wp2_with fail
              go_meet
              exact ⟨rfl, rfl⟩
            · have d1 : (n != (L.length : Int)) = true := by simpa using hn
              have d2 : (n != a2) = false := by have := HN.out.resolve_left hn; simpa using this
              clear hn
              go_wp2_with fail
              go_meet
              exact ⟨rfl, rfl⟩
          case rest =>
          obtain ⟨rfl, rfl⟩ := hcut
          have c8 := (HR.out.blk xp.out Q8.out.p).cell 0 rfl
          have hda2 := HR.out.dall
          have hle2 := allQ_le HR.out.falls
          obtain ⟨L2, hLL2⟩ : ∃ L, allQ st' = L := ⟨_, rfl⟩
          rw [hLL2] at hda2 hle2
          have HLL2 := Lib.hid hLL2
          clear hLL2 c13 c11 c5
          go_wp2_with fail
          refine hda2.mono ?_
          rintro e w9 ⟨ao2, c2, rfl, r9, ho9, k9⟩
          have bw9 := (HR.out.blk xw.out BW.out).kept k9 (fun x => x)
          have bk9 := HR.out.kb.kept k9 (fun x => x)
          have f11 := bw9.frozen 0
          have f13 := bk9.frozen 0
          have c11 := bw9.cell 0 rfl
          have c13 := bk9.cell 0 rfl
          have hkz := HR.out.klt
          have hsz := HR.out.sz
          have kz : Kept (fun i => i = m5 ∨ i = m5 + 1 + 1) wc ((w9.setCell ⟨m5, 0, none⟩ (.slice ao2 L2.length c2)).setCell ⟨m5 + 1 + 1, 0, none⟩ (.int .i64 0)) := ((k9.mono (S' := fun i => i = m5 ∨ i = m5 + 1 + 1) (fun _ _ x => x.elim)).set (b := m5) 0 (Or.inl (Or.inl rfl)) _).set (b := m5 + 1 + 1) 0 (Or.inl (Or.inr rfl)) _
          have bw10 : Blk ((w9.setCell ⟨m5, 0, none⟩ (.slice ao2 L2.length c2)).setCell ⟨m5 + 1 + 1, 0, none⟩ (.int .i64 0)) m5 [.slice ao2 L2.length c2] 34 := (bw9.set 0 (.slice ao2 L2.length c2)).other (p := ⟨m5 + 1 + 1, 0, none⟩) (by intro e; have e' : m5 + 1 + 1 = m5 := e; omega) _
          have bk10 : Blk ((w9.setCell ⟨m5, 0, none⟩ (.slice ao2 L2.length c2)).setCell ⟨m5 + 1 + 1, 0, none⟩ (.int .i64 0)) (m5 + 1 + 1) [.int .i64 0] 3 := (bk9.other (p := ⟨m5, 0, none⟩) (by intro e; have e' : m5 = m5 + 1 + 1 := e; omega) _).set 0 (.int .i64 0)
          have hlt9 := fun g (hg : (Value.slice ao2 L2.length c2).ownBlock = some g) => row_lt r9 hg
          have r10 : Row ((w9.setCell ⟨m5, 0, none⟩ (.slice ao2 L2.length c2)).setCell ⟨m5 + 1 + 1, 0, none⟩ (.int .i64 0)) 40 2 (.slice ao2 L2.length c2) L2.length (L2.flatMap encQ) :=
            row_setCell_other (row_setCell_other r9 (a := ⟨m5, 0, none⟩) (fun e => by have h : wc.heap.size ≤ m5 := ho9 _ e; have := Z8.out; omega) _) (a := ⟨m5 + 1 + 1, 0, none⟩) (fun e => by have h : wc.heap.size ≤ m5 + 1 + 1 := ho9 _ e; have := Z8.out; omega) _
          have g13 := (bk9.other (p := ⟨m5, 0, none⟩) (by intro e; have e' : m5 = m5 + 1 + 1 := e; omega) (.slice ao2 L2.length c2)).frozen 0
          have z10 : ((w9.setCell ⟨m5, 0, none⟩ (.slice ao2 L2.length c2)).setCell ⟨m5 + 1 + 1, 0, none⟩ (.int .i64 0)).heap.size = w9.heap.size := by simp
          clear hda2 c8
          go_upto_region 28 with fail
          obtain ⟨W10, hW10⟩ : ∃ W10, (w9.setCell ⟨m5, 0, none⟩ (.slice ao2 L2.length c2)).setCell ⟨m5 + 1 + 1, 0, none⟩ (.int .i64 0) = W10 := ⟨_, rfl⟩
          rw [hW10] at kz bw10 bk10 r10 z10 ⊢
          have hz9 := k9.size
          have HB10 : Hid (Rg W1 W10 W10 (fun i => Bx i ∨ (Value.slice ao2 L2.length c2).ownBlock = some i) b p (m5 + 1 + 1) 0 st' st') := by
            refine HR.out.again kz xw.out (by have := HR.out.lowsz; have := Z1.out; have := HM5.out; omega) (fun i hi => hi.imp id (fun h => ⟨ho9 i h, by have := hlt9 i h; omega⟩)) (fun hb => ?_) bk10
            obtain ⟨_, _, _, hh⟩ := HR.out
            rcases hb with h | h
            · exact hh.kx.2.2.2.2 h
            · have := ho9 _ h; omega
          have BS10 := Lib.hid (((HR.out.blk xs.out Q8.out.s).kept kz (fun e => by have := HM5.out; omega)))
          have BR10 := Lib.hid (((HR.out.blk xr.out Q8.out.r).kept kz (fun e => by have := HM5.out; omega)))
          have BN10 := Lib.hid (((HR.out.blk xn.out BN.out).kept kz (fun e => by omega)))
          have BW10 := Lib.hid bw10
          have RR10 := Lib.hid r10
          have hDl : D < wc.heap.size := (Array.getElem?_eq_some_iff.1 HK.out).1
          have HK10 := Lib.hid ((kz.block D hDl (by have := HD.out; have := Z8.out; omega)).trans HK.out)
          have HDL : Hid (D < W10.heap.size) := by unfold Hid; omega
          have HS10 : Hid (W8.heap.size ≤ W10.heap.size) := by unfold Hid; omega
          clear hW10 kz bw10 bk10 r10 z10 hz9 hlt9 ho9 r9 k9 bw9 bk9 f11 f13 c11 c13 g13 HR hDl hkz hsz HN
          go_wp2_with fail
          obtain ⟨rpf2, hat2⟩ := HB10.out.atq
          have hst2 := fun hf h0 => qall_stops 7 (m5 + 1) (fun _ i => i < W10.heap.size) W10 (by decide) hf h0 (by have := Z8.out; have := HS10.out; omega) (BN10.out.cell 0 rfl) hat2
          rw [HLL2.out] at hst2
          refine (wpIn_wide (n := 8)).1 ?_
          generalize ha2 : Act.mk _ _ = a'
          refine wpIn_range_own rfl (by decide) (gf := 34) (lb := #[.pointer (some ⟨m5 + 1, 0, none⟩)]) (by subst ha2; rfl) trivial (enters_of Try.func34 (by kernel_rfl) rfl)
            (hst2 (fun _ _ _ _ _ h => h) (fun _ _ _ h => h)) Keeps.trans (fun W l r o' hl ho => keeps_putObj (low_hangs W10.heap.size) W l _ o' hl ho rfl) (fun A C _ hk => (keeps_low (hk.mono (fun _ _ x => x.elim))).2) (Below.refl _ _) (fun _ => rfl)
            (fun pre W => Rg W1 W10 W (fun i => Bx i ∨ (Value.slice ao2 L2.length c2).ownBlock = some i) b p (m5 + 1 + 1) pre.length st' st' ∧ W.heap[D]? = some (.deferred (some [])))
            (fun cd pre W => match cd with
              | .ret => ∃ (j : Nat) (z : Int × Int), pre[j]? = some z ∧ L2[j]? ≠ some z
              | _ => False) ?hI2A ?hIx2A ⟨HB10.out, HK10.out⟩
            (fun x a1 W => ∃ k, a1 = { tmps := (a'.tmps.setIfInBounds 101 (.agg #[.int .i64 x.1, .int .i64 x.2])).setIfInBounds 15 (.pointer (some ⟨k, 0, none⟩)), defers := [] } ∧ Blk W k [.int .i64 x.1, .int .i64 x.2] 40)
            ?hAx2A ?assign2A ?body2A ?done2A ?stop2A
          case hI2A =>
            rintro pre W W' row ⟨h, hd⟩ hg hr
            exact ⟨h.own hg (fun r e => (hr r e).1), (hg.block D (Array.getElem?_eq_some_iff.1 hd).1 (fun e => by have := (hr D e.symm).1; have := HDL.out; omega)).trans hd⟩
          case hIx2A =>
            rintro cd pre W W' row hI hg hr
            exact hI
          case hAx2A =>
            rintro x a1 s A C row ⟨k, h1, h2⟩ hg hr
            exact ⟨k, h1, h2.cells hg (fun r e => (hr r e).2)⟩
          case assign2A =>
            intro l x W K hK
            subst ha2
            gi_wp2
            exact hK _ _ ((Kept.refl _ _).alloc _) ⟨W.heap.size, rfl, Blk.new W _ _⟩
          case body2A =>
            rintro lp pre ⟨x, y⟩ a1 W ⟨hR, hdd⟩ ⟨kx, rfl, hx⟩ hlt
            subst ha2
            simp only [List.setIfInBounds_toArray, List.set_cons_succ, List.set_cons_zero]
            have hlt0 : (0 : Int) ≤ (pre.length : Int) := Int.natCast_nonneg _
            have hlt1 : (pre.length : Int) < (L2.length : Int) := by omega
            have hge1 : decide ((L2.length : Int) ≤ (pre.length : Int)) = false := by simp; omega
            have hge2 : decide (L2.length ≤ pre.length) = false := by simp; omega
            obtain ⟨⟨z, v⟩, hz⟩ : ∃ z, L2[pre.length]? = some z := ⟨_, List.getElem?_eq_getElem hlt⟩
            have hrow := hR.row (fun g hg => Or.inr hg) RR10.out
            have hcell : ∃ g, ao2 = some ⟨g, 0, none⟩ ∧ W.cell? ⟨g, pre.length * 2, none⟩ = some (.int .i64 z) ∧ W.cell? ⟨g, pre.length * 2 + 1, none⟩ = some (.int .i64 v) := by
              rcases row_forms hrow with ⟨_, h0⟩ | ⟨g, c', hv, _⟩
              · omega
              · cases hv
                exact ⟨g, rfl, rows_cell (enc := encQ) (fun _ => rfl) hrow (i := 0) hz rfl, rows_cell (enc := encQ) (fun _ => rfl) hrow (i := 1) hz rfl⟩
            obtain ⟨g, hao, hc0, hc1⟩ := hcell
            subst hao
            have x0 := hx.cell 0 rfl
            have x1 := hx.cell 1 rfl
            have c13 := hR.kb.cell 0 rfl
            have c11 := (hR.blk (Or.inl xw.out) BW10.out).cell 0 rfl
            have HR := Lib.hid hR
            have HZ := Lib.hid hz
            have HDD := Lib.hid hdd
            clear hrow hR hx hz hdd
            by_cases hxz : (x, y) = (z, v)
            · cases hxz
              have hne : (binOp .neq 40 (.agg #[.int .i64 x, .int .i64 y]) (.agg #[.int .i64 x, .int .i64 y])).run Try.prog = fun w => .ok (.bool false) w := by
                funext w; simp [go_sem]
              gi_wp2
              refine wpIn_region_reads (by kernel_rfl) (by kernel_rfl) (by kernel_rfl) ?_
              repeat (go_big_quiet_step (fail))
              refine wpQuiet_nil ?_
              rintro WE ⟨nq, rfl⟩
              have R2 := Lib.hid (HR.out.same ((Kept.refl (fun _ => False) W).drewN nq))
              obtain ⟨WE, hWE⟩ : ∃ WE, W.drewN nq = WE := ⟨_, rfl⟩
              have KE : Hid (Kept (fun i => i < W10.heap.size) W WE) := by rw [← hWE]; exact (Kept.refl _ W).drewN nq
              have DE : Hid (WE.heap[D]? = some (.deferred (some []))) := by rw [← hWE]; exact HDD.out
              rw [hWE] at R2 ⊢
              clear hWE HR x0 x1 c13 c11 hc0 hc1 hne
              have b13 := R2.out.kb.cell 0 rfl
              have f13 := R2.out.kb.frozen 0
              obtain ⟨R3, k3⟩ := R2.out.putK ((pre.length : Int) + 1)
              have K3 := Lib.hid (KE.out.then k3 (fun _ x => Or.inl x))
              have kD : Kept (fun i => i = m5 + 1 + 1) WE (WE.setCell ⟨m5 + 1 + 1, 0, none⟩ (.int .i64 ((pre.length : Int) + 1))) := (Kept.refl (fun i => i = m5 + 1 + 1) WE).setCell (p := ⟨m5 + 1 + 1, 0, none⟩) (Or.inl rfl) _
              have D3 := Lib.hid ((kD.block D (Array.getElem?_eq_some_iff.1 DE.out).1 (by have := HD.out; have := Z8.out; omega)).trans DE.out)
              have HR3 := Lib.hid R3
              have hadd : IntKind.i64.wrap ((pre.length : Int) + 1) = (pre.length : Int) + 1 := IntWalk.i64_in _ (by omega)
              have hlen : ((pre ++ [(x, y)]).length : Int) = (pre.length : Int) + 1 := by simp
              have HL := Lib.hid hlen
              clear R3 k3 KE kD hlen
              gi_wp2
              exact ⟨(keeps_low K3.out).1, (keeps_low K3.out).2, by rw [HL.out]; exact HR3.out, D3.out⟩
            · have hne : (binOp .neq 40 (.agg #[.int .i64 x, .int .i64 y]) (.agg #[.int .i64 z, .int .i64 v])).run Try.prog = fun w => .ok (.bool true) w := by
                funext w
                by_cases h1 : x = z
                · have h2 : ¬ y = v := fun e => hxz (by rw [h1, e])
                  have h2b : (y == v) = false := by simpa using h2
                  simp [go_sem, h1, h2, h2b]
                · have h1b : (x == z) = false := by simpa using h1
                  simp [go_sem, h1, h1b]
              gi_wp2
              refine wpIn_region_reads (by kernel_rfl) (by kernel_rfl) (by kernel_rfl) ?_
              repeat (go_big_quiet_step (fail))
              refine wpQuiet_nil ?_
              rintro WE ⟨nq, rfl⟩
              have R2 := Lib.hid (HR.out.same ((Kept.refl (fun _ => False) W).drewN nq))
              obtain ⟨WE, hWE⟩ : ∃ WE, W.drewN nq = WE := ⟨_, rfl⟩
              have KE : Hid (Kept (fun i => i < W10.heap.size) W WE) := by rw [← hWE]; exact (Kept.refl _ W).drewN nq
              rw [hWE] at R2 ⊢
              have d8 := (R2.out.blk (Or.inl xr.out) BR10.out)
              have c8 := d8.cell 0 rfl
              have f8 := d8.frozen 0
              have HX := Lib.hid hxz
              clear hWE HR x0 x1 c13 c11 hc0 hc1 hne hxz d8
              gi_wp2
              refine ⟨(keeps_low (KE.out.then ((Kept.refl (fun i => i = M + 1) WE).setCell (p := ⟨M + 1, 0, none⟩) (Or.inl rfl) (.bool false)) (fun i e => Or.inl (by have := Z8.out; have := HM5.out; have := HS10.out; omega)))).1, pre.length, (x, y), by simp, ?_⟩
              rw [HZ.out]
              intro e
              exact HX.out (Option.some.inj e).symm
          case done2A =>
            rintro D2 ys W11 hD2 hys ⟨hR, hdd⟩ hK2
            subst ha2
            obtain rfl : ys = L2 := hys
            have c13 := hR.kb.cell 0 rfl
            have c11 := (hR.blk (Or.inl xw.out) BW10.out).cell 0 rfl
            have br := hR.blk (Or.inl xr.out) BR10.out
            have c6 := br.cell 0 rfl
            have f6 := br.frozen 0
            have BRR := Lib.hid (br.set 0 (.bool true))
            have KK := Lib.hid (((K1.out.then hR.kept (fun _ h => h.elim)).mono (S' := fun i => i = M + 1) (fun _ _ h => h.elim)).set (b := M + 1) 0 (Or.inl rfl) (.bool true))
            have HD2 := Lib.hid hD2
            have kq : Kept (fun i => i = M + 1) W11 (W11.setCell ⟨M + 1, 0, none⟩ (.bool true)) := (Kept.refl (fun i => i = M + 1) W11).setCell (p := ⟨M + 1, 0, none⟩) (Or.inl rfl) _
            have q1 := Lib.hid ((kq.block D (Array.getElem?_eq_some_iff.1 hdd).1 (by have := HD.out; have := Z8.out; have := HM5.out; omega)).trans hdd)
            have q2 := Lib.hid ((kq.block D2 (Array.getElem?_eq_some_iff.1 hK2).1 (by have := HS10.out; have := Z8.out; have := HM5.out; omega)).trans hK2)
            have hge : ∀ Y : Int, (Y == Y) = true := fun Y => by simp
            clear hR br hdd hK2 hD2 kq
            go_wp2_with fail
            refine leaves_marks (m := M + 2) (fun A => Blk A (M + 1) [.bool true] 4 ∧ Below M w A) (fun A Dx hDx hh hA => ?_) (fun A hA => ⟨_, results_cell rfl Try.underlying4 _ _ rfl (hA.1.cell 0 rfl), rfl, hA.2⟩) [D2, D] _ ?_ ?_ ?_
            · have hg := grownBy_putObj' A Dx (.deferred none)
              have kg : Kept (fun k => k = Dx) A (A.putObj Dx (.deferred none)) := (Kept.refl _ A).grown hg (fun k e => Or.inl (by cases e; rfl))
              have hsA := hA.2.size
              have hmm := HM.out
              exact ⟨hA.1.cells hg (fun r e => by cases e; exact ⟨_, hh, rfl⟩), hA.2.trans (kg.below (by omega) (fun i e => by omega))⟩
            · simp only [List.nodup_cons, List.mem_cons, List.not_mem_nil, or_false, not_false_eq_true, List.nodup_nil, and_true]
              intro e
              have := HDL.out
              have := HD2.out
              omega
            · intro E hE
              simp only [List.mem_cons, List.not_mem_nil, or_false] at hE
              rcases hE with rfl | rfl
              · exact ⟨by have := HD2.out; have := HS10.out; have := Z8.out; have := HM5.out; omega, q2.out⟩
              · exact ⟨by have := HD.out; have := Z8.out; have := HM5.out; omega, q1.out⟩
            · exact ⟨BRR.out, KK.out.below (Nat.le_of_eq HM.out.symm) (fun i e => by omega)⟩
          case stop2A =>
            rintro D2 cd pre W11 hD2 hpre hI hK2
            cases cd with
            | ret =>
              obtain ⟨j, z, h1, h2⟩ := hI
              exact absurd (prefix_at hpre h1) h2
            | _ => exact hI.elim
        case stop =>
          rintro D cd pre W hD hpre hI hK
          subst ha
          cases cd with
          | ret =>
            obtain ⟨j, z, h1, h2⟩ := hI
            exact absurd (prefix_at hpre h1) h2
          | exit i =>
            obtain ⟨rfl, ⟨st', hR⟩, hlv⟩ := hI
            obtain ⟨n, hn⟩ : ∃ n : Int, n = pre.length := ⟨_, rfl⟩
            rw [← hn] at hR hlv
            have hN : n = L.length ∨ n = a2 := Or.inr hlv
            clear hn hlv
            refine wpIn_wide.2 ?_
            have HN := Lib.hid hN
            have HR := Lib.hid hR
            have HK := Lib.hid hK
            have HD := Lib.hid hD
            have c13 := hR.kb.cell 0 rfl
            have c11 := (hR.blk xw.out BW.out).cell 0 rfl
            have c5 := (hR.blk xs.out Q8.out.s).cell 0 rfl
            clear hN hR hK hD hst
            go_upto_region 24 with fail
            go_cut [97] from 89 to 97 (fun t wx => wx = W ∧ t = .bool false)
            case first =>
              by_cases hn : n = L.length
              · have d1 : (n != (L.length : Int)) = false := by simpa using hn
                clear hn
                go_wp2_with fail
                go_meet
                exact ⟨rfl, rfl⟩
              · have d1 : (n != (L.length : Int)) = true := by simpa using hn
                have d2 : (n != a2) = false := by have := HN.out.resolve_left hn; simpa using this
                clear hn
                go_wp2_with fail
                go_meet
                exact ⟨rfl, rfl⟩
            case rest =>
            obtain ⟨rfl, rfl⟩ := hcut
            have c8 := (HR.out.blk xp.out Q8.out.p).cell 0 rfl
            have hda2 := HR.out.dall
            have hle2 := allQ_le HR.out.falls
            obtain ⟨L2, hLL2⟩ : ∃ L, allQ st' = L := ⟨_, rfl⟩
            rw [hLL2] at hda2 hle2
            have HLL2 := Lib.hid hLL2
            clear hLL2 c13 c11 c5
            go_wp2_with fail
            refine hda2.mono ?_
            rintro e w9 ⟨ao2, c2, rfl, r9, ho9, k9⟩
            have bw9 := (HR.out.blk xw.out BW.out).kept k9 (fun x => x)
            have bk9 := HR.out.kb.kept k9 (fun x => x)
            have f11 := bw9.frozen 0
            have f13 := bk9.frozen 0
            have c11 := bw9.cell 0 rfl
            have c13 := bk9.cell 0 rfl
            have hkz := HR.out.klt
            have hsz := HR.out.sz
            have kz : Kept (fun i => i = m5 ∨ i = m5 + 1 + 1) wc ((w9.setCell ⟨m5, 0, none⟩ (.slice ao2 L2.length c2)).setCell ⟨m5 + 1 + 1, 0, none⟩ (.int .i64 0)) := ((k9.mono (S' := fun i => i = m5 ∨ i = m5 + 1 + 1) (fun _ _ x => x.elim)).set (b := m5) 0 (Or.inl (Or.inl rfl)) _).set (b := m5 + 1 + 1) 0 (Or.inl (Or.inr rfl)) _
            have bw10 : Blk ((w9.setCell ⟨m5, 0, none⟩ (.slice ao2 L2.length c2)).setCell ⟨m5 + 1 + 1, 0, none⟩ (.int .i64 0)) m5 [.slice ao2 L2.length c2] 34 := (bw9.set 0 (.slice ao2 L2.length c2)).other (p := ⟨m5 + 1 + 1, 0, none⟩) (by intro e; have e' : m5 + 1 + 1 = m5 := e; omega) _
            have bk10 : Blk ((w9.setCell ⟨m5, 0, none⟩ (.slice ao2 L2.length c2)).setCell ⟨m5 + 1 + 1, 0, none⟩ (.int .i64 0)) (m5 + 1 + 1) [.int .i64 0] 3 := (bk9.other (p := ⟨m5, 0, none⟩) (by intro e; have e' : m5 = m5 + 1 + 1 := e; omega) _).set 0 (.int .i64 0)
            have hlt9 := fun g (hg : (Value.slice ao2 L2.length c2).ownBlock = some g) => row_lt r9 hg
            have r10 : Row ((w9.setCell ⟨m5, 0, none⟩ (.slice ao2 L2.length c2)).setCell ⟨m5 + 1 + 1, 0, none⟩ (.int .i64 0)) 40 2 (.slice ao2 L2.length c2) L2.length (L2.flatMap encQ) :=
              row_setCell_other (row_setCell_other r9 (a := ⟨m5, 0, none⟩) (fun e => by have h : wc.heap.size ≤ m5 := ho9 _ e; have := Z8.out; omega) _) (a := ⟨m5 + 1 + 1, 0, none⟩) (fun e => by have h : wc.heap.size ≤ m5 + 1 + 1 := ho9 _ e; have := Z8.out; omega) _
            have g13 := (bk9.other (p := ⟨m5, 0, none⟩) (by intro e; have e' : m5 = m5 + 1 + 1 := e; omega) (.slice ao2 L2.length c2)).frozen 0
            have z10 : ((w9.setCell ⟨m5, 0, none⟩ (.slice ao2 L2.length c2)).setCell ⟨m5 + 1 + 1, 0, none⟩ (.int .i64 0)).heap.size = w9.heap.size := by simp
            clear hda2 c8
            go_upto_region 28 with fail
            obtain ⟨W10, hW10⟩ : ∃ W10, (w9.setCell ⟨m5, 0, none⟩ (.slice ao2 L2.length c2)).setCell ⟨m5 + 1 + 1, 0, none⟩ (.int .i64 0) = W10 := ⟨_, rfl⟩
            rw [hW10] at kz bw10 bk10 r10 z10 ⊢
            have hz9 := k9.size
            have HB10 : Hid (Rg W1 W10 W10 (fun i => Bx i ∨ (Value.slice ao2 L2.length c2).ownBlock = some i) b p (m5 + 1 + 1) 0 st' st') := by
              refine HR.out.again kz xw.out (by have := HR.out.lowsz; have := Z1.out; have := HM5.out; omega) (fun i hi => hi.imp id (fun h => ⟨ho9 i h, by have := hlt9 i h; omega⟩)) (fun hb => ?_) bk10
              obtain ⟨_, _, _, hh⟩ := HR.out
              rcases hb with h | h
              · exact hh.kx.2.2.2.2 h
              · have := ho9 _ h; omega
            have BS10 := Lib.hid (((HR.out.blk xs.out Q8.out.s).kept kz (fun e => by have := HM5.out; omega)))
            have BR10 := Lib.hid (((HR.out.blk xr.out Q8.out.r).kept kz (fun e => by have := HM5.out; omega)))
            have BN10 := Lib.hid (((HR.out.blk xn.out BN.out).kept kz (fun e => by omega)))
            have BW10 := Lib.hid bw10
            have RR10 := Lib.hid r10
            have hDl : D < wc.heap.size := (Array.getElem?_eq_some_iff.1 HK.out).1
            have HK10 := Lib.hid ((kz.block D hDl (by have := HD.out; have := Z8.out; omega)).trans HK.out)
            have HDL : Hid (D < W10.heap.size) := by unfold Hid; omega
            have HS10 : Hid (W8.heap.size ≤ W10.heap.size) := by unfold Hid; omega
            clear hW10 kz bw10 bk10 r10 z10 hz9 hlt9 ho9 r9 k9 bw9 bk9 f11 f13 c11 c13 g13 HR hDl hkz hsz HN
            go_wp2_with fail
            obtain ⟨rpf2, hat2⟩ := HB10.out.atq
            have hst2 := fun hf h0 => qall_stops 7 (m5 + 1) (fun _ i => i < W10.heap.size) W10 (by decide) hf h0 (by have := Z8.out; have := HS10.out; omega) (BN10.out.cell 0 rfl) hat2
            rw [HLL2.out] at hst2
            refine (wpIn_wide (n := 8)).1 ?_
            generalize ha2 : Act.mk _ _ = a'
            refine wpIn_range_own rfl (by decide) (gf := 34) (lb := #[.pointer (some ⟨m5 + 1, 0, none⟩)]) (by subst ha2; rfl) trivial (enters_of Try.func34 (by kernel_rfl) rfl)
              (hst2 (fun _ _ _ _ _ h => h) (fun _ _ _ h => h)) Keeps.trans (fun W l r o' hl ho => keeps_putObj (low_hangs W10.heap.size) W l _ o' hl ho rfl) (fun A C _ hk => (keeps_low (hk.mono (fun _ _ x => x.elim))).2) (Below.refl _ _) (fun _ => rfl)
              (fun pre W => Rg W1 W10 W (fun i => Bx i ∨ (Value.slice ao2 L2.length c2).ownBlock = some i) b p (m5 + 1 + 1) pre.length st' st' ∧ W.heap[D]? = some (.deferred (some [])))
              (fun cd pre W => match cd with
                | .ret => ∃ (j : Nat) (z : Int × Int), pre[j]? = some z ∧ L2[j]? ≠ some z
                | _ => False) ?hI2B ?hIx2B ⟨HB10.out, HK10.out⟩
              (fun x a1 W => ∃ k, a1 = { tmps := (a'.tmps.setIfInBounds 101 (.agg #[.int .i64 x.1, .int .i64 x.2])).setIfInBounds 15 (.pointer (some ⟨k, 0, none⟩)), defers := [] } ∧ Blk W k [.int .i64 x.1, .int .i64 x.2] 40)
              ?hAx2B ?assign2B ?body2B ?done2B ?stop2B
            case hI2B =>
              rintro pre W W' row ⟨h, hd⟩ hg hr
              exact ⟨h.own hg (fun r e => (hr r e).1), (hg.block D (Array.getElem?_eq_some_iff.1 hd).1 (fun e => by have := (hr D e.symm).1; have := HDL.out; omega)).trans hd⟩
            case hIx2B =>
              rintro cd pre W W' row hI hg hr
              exact hI
            case hAx2B =>
              rintro x a1 s A C row ⟨k, h1, h2⟩ hg hr
              exact ⟨k, h1, h2.cells hg (fun r e => (hr r e).2)⟩
            case assign2B =>
              intro l x W K hK
              subst ha2
              gi_wp2
              exact hK _ _ ((Kept.refl _ _).alloc _) ⟨W.heap.size, rfl, Blk.new W _ _⟩
            case body2B =>
              rintro lp pre ⟨x, y⟩ a1 W ⟨hR, hdd⟩ ⟨kx, rfl, hx⟩ hlt
              subst ha2
              simp only [List.setIfInBounds_toArray, List.set_cons_succ, List.set_cons_zero]
              have hlt0 : (0 : Int) ≤ (pre.length : Int) := Int.natCast_nonneg _
              have hlt1 : (pre.length : Int) < (L2.length : Int) := by omega
              have hge1 : decide ((L2.length : Int) ≤ (pre.length : Int)) = false := by simp; omega
              have hge2 : decide (L2.length ≤ pre.length) = false := by simp; omega
              obtain ⟨⟨z, v⟩, hz⟩ : ∃ z, L2[pre.length]? = some z := ⟨_, List.getElem?_eq_getElem hlt⟩
              have hrow := hR.row (fun g hg => Or.inr hg) RR10.out
              have hcell : ∃ g, ao2 = some ⟨g, 0, none⟩ ∧ W.cell? ⟨g, pre.length * 2, none⟩ = some (.int .i64 z) ∧ W.cell? ⟨g, pre.length * 2 + 1, none⟩ = some (.int .i64 v) := by
                rcases row_forms hrow with ⟨_, h0⟩ | ⟨g, c', hv, _⟩
                · omega
                · cases hv
                  exact ⟨g, rfl, rows_cell (enc := encQ) (fun _ => rfl) hrow (i := 0) hz rfl, rows_cell (enc := encQ) (fun _ => rfl) hrow (i := 1) hz rfl⟩
              obtain ⟨g, hao, hc0, hc1⟩ := hcell
              subst hao
              have x0 := hx.cell 0 rfl
              have x1 := hx.cell 1 rfl
              have c13 := hR.kb.cell 0 rfl
              have c11 := (hR.blk (Or.inl xw.out) BW10.out).cell 0 rfl
              have HR := Lib.hid hR
              have HZ := Lib.hid hz
              have HDD := Lib.hid hdd
              clear hrow hR hx hz hdd
              by_cases hxz : (x, y) = (z, v)
              · cases hxz
                have hne : (binOp .neq 40 (.agg #[.int .i64 x, .int .i64 y]) (.agg #[.int .i64 x, .int .i64 y])).run Try.prog = fun w => .ok (.bool false) w := by
                  funext w; simp [go_sem]
                gi_wp2
                refine wpIn_region_reads (by kernel_rfl) (by kernel_rfl) (by kernel_rfl) ?_
                repeat (go_big_quiet_step (fail))
                refine wpQuiet_nil ?_
                rintro WE ⟨nq, rfl⟩
                have R2 := Lib.hid (HR.out.same ((Kept.refl (fun _ => False) W).drewN nq))
                obtain ⟨WE, hWE⟩ : ∃ WE, W.drewN nq = WE := ⟨_, rfl⟩
                have KE : Hid (Kept (fun i => i < W10.heap.size) W WE) := by rw [← hWE]; exact (Kept.refl _ W).drewN nq
                have DE : Hid (WE.heap[D]? = some (.deferred (some []))) := by rw [← hWE]; exact HDD.out
                rw [hWE] at R2 ⊢
                clear hWE HR x0 x1 c13 c11 hc0 hc1 hne
                have b13 := R2.out.kb.cell 0 rfl
                have f13 := R2.out.kb.frozen 0
                obtain ⟨R3, k3⟩ := R2.out.putK ((pre.length : Int) + 1)
                have K3 := Lib.hid (KE.out.then k3 (fun _ x => Or.inl x))
                have kD : Kept (fun i => i = m5 + 1 + 1) WE (WE.setCell ⟨m5 + 1 + 1, 0, none⟩ (.int .i64 ((pre.length : Int) + 1))) := (Kept.refl (fun i => i = m5 + 1 + 1) WE).setCell (p := ⟨m5 + 1 + 1, 0, none⟩) (Or.inl rfl) _
                have D3 := Lib.hid ((kD.block D (Array.getElem?_eq_some_iff.1 DE.out).1 (by have := HD.out; have := Z8.out; omega)).trans DE.out)
                have HR3 := Lib.hid R3
                have hadd : IntKind.i64.wrap ((pre.length : Int) + 1) = (pre.length : Int) + 1 := IntWalk.i64_in _ (by omega)
                have hlen : ((pre ++ [(x, y)]).length : Int) = (pre.length : Int) + 1 := by simp
                have HL := Lib.hid hlen
                clear R3 k3 KE kD hlen
                gi_wp2
                exact ⟨(keeps_low K3.out).1, (keeps_low K3.out).2, by rw [HL.out]; exact HR3.out, D3.out⟩
              · have hne : (binOp .neq 40 (.agg #[.int .i64 x, .int .i64 y]) (.agg #[.int .i64 z, .int .i64 v])).run Try.prog = fun w => .ok (.bool true) w := by
                  funext w
                  by_cases h1 : x = z
                  · have h2 : ¬ y = v := fun e => hxz (by rw [h1, e])
                    have h2b : (y == v) = false := by simpa using h2
                    simp [go_sem, h1, h2, h2b]
                  · have h1b : (x == z) = false := by simpa using h1
                    simp [go_sem, h1, h1b]
                gi_wp2
                refine wpIn_region_reads (by kernel_rfl) (by kernel_rfl) (by kernel_rfl) ?_
                repeat (go_big_quiet_step (fail))
                refine wpQuiet_nil ?_
                rintro WE ⟨nq, rfl⟩
                have R2 := Lib.hid (HR.out.same ((Kept.refl (fun _ => False) W).drewN nq))
                obtain ⟨WE, hWE⟩ : ∃ WE, W.drewN nq = WE := ⟨_, rfl⟩
                have KE : Hid (Kept (fun i => i < W10.heap.size) W WE) := by rw [← hWE]; exact (Kept.refl _ W).drewN nq
                rw [hWE] at R2 ⊢
                have d8 := (R2.out.blk (Or.inl xr.out) BR10.out)
                have c8 := d8.cell 0 rfl
                have f8 := d8.frozen 0
                have HX := Lib.hid hxz
                clear hWE HR x0 x1 c13 c11 hc0 hc1 hne hxz d8
                gi_wp2
                refine ⟨(keeps_low (KE.out.then ((Kept.refl (fun i => i = M + 1) WE).setCell (p := ⟨M + 1, 0, none⟩) (Or.inl rfl) (.bool false)) (fun i e => Or.inl (by have := Z8.out; have := HM5.out; have := HS10.out; omega)))).1, pre.length, (x, y), by simp, ?_⟩
                rw [HZ.out]
                intro e
                exact HX.out (Option.some.inj e).symm
            case done2B =>
              rintro D2 ys W11 hD2 hys ⟨hR, hdd⟩ hK2
              subst ha2
              obtain rfl : ys = L2 := hys
              have c13 := hR.kb.cell 0 rfl
              have c11 := (hR.blk (Or.inl xw.out) BW10.out).cell 0 rfl
              have br := hR.blk (Or.inl xr.out) BR10.out
              have c6 := br.cell 0 rfl
              have f6 := br.frozen 0
              have BRR := Lib.hid (br.set 0 (.bool true))
              have KK := Lib.hid (((K1.out.then hR.kept (fun _ h => h.elim)).mono (S' := fun i => i = M + 1) (fun _ _ h => h.elim)).set (b := M + 1) 0 (Or.inl rfl) (.bool true))
              have HD2 := Lib.hid hD2
              have kq : Kept (fun i => i = M + 1) W11 (W11.setCell ⟨M + 1, 0, none⟩ (.bool true)) := (Kept.refl (fun i => i = M + 1) W11).setCell (p := ⟨M + 1, 0, none⟩) (Or.inl rfl) _
              have q1 := Lib.hid ((kq.block D (Array.getElem?_eq_some_iff.1 hdd).1 (by have := HD.out; have := Z8.out; have := HM5.out; omega)).trans hdd)
              have q2 := Lib.hid ((kq.block D2 (Array.getElem?_eq_some_iff.1 hK2).1 (by have := HS10.out; have := Z8.out; have := HM5.out; omega)).trans hK2)
              have hge : ∀ Y : Int, (Y == Y) = true := fun Y => by simp
              clear hR br hdd hK2 hD2 kq
              go_wp2_with fail
              refine leaves_marks (m := M + 2) (fun A => Blk A (M + 1) [.bool true] 4 ∧ Below M w A) (fun A Dx hDx hh hA => ?_) (fun A hA => ⟨_, results_cell rfl Try.underlying4 _ _ rfl (hA.1.cell 0 rfl), rfl, hA.2⟩) [D2, D] _ ?_ ?_ ?_
              · have hg := grownBy_putObj' A Dx (.deferred none)
                have kg : Kept (fun k => k = Dx) A (A.putObj Dx (.deferred none)) := (Kept.refl _ A).grown hg (fun k e => Or.inl (by cases e; rfl))
                have hsA := hA.2.size
                have hmm := HM.out
                exact ⟨hA.1.cells hg (fun r e => by cases e; exact ⟨_, hh, rfl⟩), hA.2.trans (kg.below (by omega) (fun i e => by omega))⟩
              · simp only [List.nodup_cons, List.mem_cons, List.not_mem_nil, or_false, not_false_eq_true, List.nodup_nil, and_true]
                intro e
                have := HDL.out
                have := HD2.out
                omega
              · intro E hE
                simp only [List.mem_cons, List.not_mem_nil, or_false] at hE
                rcases hE with rfl | rfl
                · exact ⟨by have := HD2.out; have := HS10.out; have := Z8.out; have := HM5.out; omega, q2.out⟩
                · exact ⟨by have := HD.out; have := Z8.out; have := HM5.out; omega, q1.out⟩
              · exact ⟨BRR.out, KK.out.below (Nat.le_of_eq HM.out.symm) (fun i e => by omega)⟩
            case stop2B =>
              rintro D2 cd pre W11 hD2 hpre hI hK2
              cases cd with
              | ret =>
                obtain ⟨j, z, h1, h2⟩ := hI
                exact absurd (prefix_at hpre h1) h2
              | _ => exact hI.elim
          | _ => exact hI.elim
end Go.Proofs.Ytdjdnfjfomeldaa.readyRangesW
