/- The two Takes own nothing new. PRINTED by genrdytf.py. -/
import Derived.Test.YtdjdnfjfomeldaaRdyT
import Derived.Test.YtdjdnfjfomeldaaRdyH
namespace Go.Proofs.Ytdjdnfjfomeldaa.QD
open Go.RowKit Go.Fr Go.Rq
section
variable {w : World} {b : Nat} {cells : List Value} {R : List Rd} {st : List En} {B : Nat}
set_option maxRecDepth 100000 in
set_option maxHeartbeats 2000000 in
theorem take_okF (hs : IsQ w b cells R st (bitsN st)) : Calls Try.prog 14 #[.pointer (some ⟨b, 0, none⟩)] w fun e w' =>
    ∃ R', e = .returned (.tuple #[.agg #[.int .i64 (takeQ st).2.1.1, .int .i64 (takeQ st).2.1.2], .int .i64 (takeQ st).2.2]) ∧ Stepped w w' b cells R R' (takeQ st).1 (bitsN (takeQ st).1) ∧ ∀ i, qfoot b R' i → qfoot b R i := by
  have kA := (Kept.refl (fun _ => False) w).alloc (.cells #[.int .i64 0, .int .i64 0] 40)
  have nb := Blk.new w [.int .i64 0, .int .i64 0] 40
  have hs0 := hs.same kA
  have c0 := hs0.blk.cell 0 rfl
  have hh := highest_ok hs0
  cases h : top st with
  | none =>
    rw [takeQ_none h]
    rw [highest_none h] at hh
    have hS := hs.stepped (kA)
    have HS := Lib.hid hS
    clear hS hs hs0
    go_enter Try.func14, Try.ntmps14
    go_wp2_with (go_at_call 30; refine hh.mono ?_; rintro e w' ⟨rfl, rfl⟩)
    refine bodyPost_ret (v := .tuple #[.agg #[.int .i64 0, .int .i64 0], .int .i64 132]) (by rw [results_cell_tmp rfl]; go_simp) rfl ⟨R, rfl, HS.out, fun _ x => x⟩
  | some i =>
    obtain ⟨e, he, hn, _⟩ := top_some h
    rw [highest_some h he] at hh
    obtain ⟨r, hr⟩ := hs.rd he
    obtain ⟨p, c, hi, l0⟩ := e
    cases l0 with
    | nil => simp [ne] at hn
    | cons x l =>
      rw [takeQ_some h he]
      have hp1 := hs.falls.lt _ (List.mem_of_getElem? he)
      simp only at hp1 hh
      have hp0 : (0 : Int) ≤ (p : Int) := by omega
      have hp2 : (p : Int) < 64 := by omega
      have hcr := hs0.cell (hs0.has i _ r he hr).1
      have htk := RI.take_ok x (hs0.has i _ r he hr).2
      have hlt := bits_lt hs.falls.lt
      obtain ⟨st', hst⟩ : ∃ st', st.set i (p, c, hi, l) = st' := ⟨_, rfl⟩
      have hany := fun (h1 : ne (p, c, hi, l) = false) => bits_take (e' := (p, c, hi, l)) hs.falls he h1
      have hsame := fun (h1 : ne (p, c, hi, l) = ne (p, c, hi, x :: l)) => bits_same (e' := (p, c, hi, l)) he rfl h1
      rw [hst] at hany hsame
      dsimp only
      rw [hst]
      simp only at hcr htk
      have HS0 := Lib.hid hs0
      have HKA := Lib.hid kA
      have HLT := Lib.hid hs.lt
      clear hs hs0 kA hn
      go_enter Try.func14, Try.ntmps14
      go_upto_region 7 with (first
        | (go_at_call 30; refine hh.mono ?_; rintro e w' ⟨rfl, rfl⟩)
        | (go_at_call 37; refine htk.mono ?_; rintro e' w1 ⟨rfl, f', cs', hring, k⟩))
      have HFO : Hid (∀ q, qfoot b (R.set i (r.1, r.2.1, f', cs')) q → qfoot b R q) := by
        rintro q (hq | ⟨s, hsm, hq⟩)
        · exact Or.inl hq
        · rcases List.mem_or_eq_of_mem_set hsm with h1 | rfl
          · exact Or.inr ⟨s, h1, hq⟩
          · exact Or.inr ⟨r, List.mem_of_getElem? hr, hq⟩
      have S1 := HS0.out.step he hr k hring (fun q hq => Or.inl hq)
      rw [hst] at S1
      obtain ⟨e2, he2⟩ : ∃ e2, st'[i]? = some e2 := ⟨_, by rw [← hst, List.getElem?_set_self (List.getElem?_eq_some_iff.1 he).1]⟩
      have hcr2 := S1.q.cell (S1.q.slot (p := p) (by omega))
      have hlen := RI.len_ok hring
      have hrp : ringPtr (R.set i (r.1, r.2.1, f', cs')) st' (p : Int) = some ⟨r.1, 0, none⟩ := by
        have := (S1.q.slot (p := p) (by omega)).symm.trans (HS0.out.has i _ r he hr).1
        simpa using this
      rw [hrp] at hcr2
      have c65 := S1.q.bits
      have f65 := S1.q.blk.frozen 65
      have nb1 := nb.kept k (fun hq => by have := HLT.out w.heap.size (Or.inr ⟨r, List.mem_of_getElem? hr, hq⟩); omega)
      have S0 : Stepped w w1 b cells R (R.set i (r.1, r.2.1, f', cs')) st' (bitsN st) := ⟨S1.q, (HKA.out.mono (fun _ _ h => h.elim)).then S1.kept (fun _ h => Or.inl h), fun q hq => (S1.grow q hq).imp id (fun h => by rw [World.size_alloc] at h; omega)⟩
      have hN : ¬ qfoot b (R.set i (r.1, r.2.1, f', cs')) w.heap.size := fun hq => by
        rcases S1.grow _ hq with h1 | h1
        · have := HLT.out _ h1; omega
        · rw [World.size_alloc] at h1; omega
      cases l with
      | nil =>
        have hB := hany (by simp [ne])
        have hand := andNot_bits hlt hp1
        rw [← hB] at hand
        have hw := shl_one hp1
        have S2 := S0.setBits (bitsN st')
        have nb2 := nb1.other (p := ⟨b, 65, none⟩) (by intro e; have := HLT.out b (Or.inl rfl); simp only at e; omega) (.int .u64 (bitsN st'))
        have HS2 := Lib.hid S2
        have NB2 := Lib.hid nb2
        clear S1 S0 S2 hring k he2 hrp nb1 nb nb2 hany hsame hB hst hh htk
        go_upto_region 8 with (go_at_call 38; refine hlen.mono ?_; rintro e w' ⟨rfl, rfl⟩)
        have y0 := NB2.out.cell 0 rfl
        have y1 := NB2.out.cell 1 rfl
        have g0 := NB2.out.frozen 0
        have g1 := NB2.out.frozen 1
        go_still_tail 9, (by kernel_rfl)
        go_wp2
        refine bodyPost_ret (v := .tuple #[.agg #[.int .i64 p, .int .i64 x], .int .i64 0]) (by rw [results_cell_tmp rfl]; go_simp) rfl ⟨R.set i (r.1, r.2.1, f', cs'), rfl, ?_, HFO.out⟩
        have HF := HS2.out.own ((((Kept.refl (fun i => i = w.heap.size) _).setCell (p := ⟨w.heap.size, 0, none⟩) (Or.inl rfl) (.int .i64 p)).setCell (p := ⟨w.heap.size, 1, none⟩) (Or.inl rfl) (.int .i64 x)).drew) hN
        exact HF
      | cons y l2 =>
        have hB := hsame (by simp [ne])
        rw [← hB] at S0
        have HS2 := Lib.hid S0
        have y0 := nb1.cell 0 rfl
        have y1 := nb1.cell 1 rfl
        have g0 := nb1.frozen 0
        have g1 := nb1.frozen 1
        have hl0 : (((y :: l2).length : Int) == 0) = false := by simp; omega
        have hl1 : ¬ (((y :: l2).length : Int) = 0) := by simp; omega
        clear S1 S0 hring k he2 hrp nb1 nb hany hsame hB hst hh htk
        go_wp2_with (go_at_call 38; refine hlen.mono ?_; rintro e w' ⟨rfl, rfl⟩)
        refine bodyPost_ret (v := .tuple #[.agg #[.int .i64 p, .int .i64 x], .int .i64 0]) (by rw [results_cell_tmp rfl]; go_simp) rfl ⟨R.set i (r.1, r.2.1, f', cs'), rfl, ?_, HFO.out⟩
        have HF := HS2.out.own (((Kept.refl (fun i => i = w.heap.size) _).setCell (p := ⟨w.heap.size, 0, none⟩) (Or.inl rfl) (.int .i64 p)).setCell (p := ⟨w.heap.size, 1, none⟩) (Or.inl rfl) (.int .i64 x)) hN
        exact HF
end
end Go.Proofs.Ytdjdnfjfomeldaa.QD
namespace Go.Proofs.Ytdjdnfjfomeldaa.DQ
open Go.RowKit Go.Fr Go.Rq Go.Shelf
open Go.Proofs.Ytdjdnfjfomeldaa.QD (highest highest_none highest_some)
attribute [local go_sem] Oper.semAt_some
section
variable {w : World} {p : Nat} {d : Dd} {st : List En}
set_option maxRecDepth 100000 in
set_option maxHeartbeats 4000000 in
theorem take_okF (hs : IsD w p d st) : Calls Try.prog 15 #[.pointer (some ⟨p, 0, none⟩)] w fun e w' =>
    ∃ d', e = .returned (.tuple #[.agg #[.int .i64 (takeQ st).2.1.1, .int .i64 (takeQ st).2.1.2], .int .i64 (takeQ st).2.2]) ∧ Dstep w w' p d d' (takeQ st).1 ∧ ∀ i, dfoot p d' i → dfoot p d i := by
  have kA := (Kept.refl (fun _ => False) w).alloc (.cells #[.int .i64 0, .int .i64 0] 40)
  have nb := Blk.new w [.int .i64 0, .int .i64 0] 40
  have hs0 := hs.same kA
  have hh := highest_ok hs0
  cases h : top st with
  | none =>
    rw [takeQ_none h]
    rw [highest_none h] at hh
    have hS := hs.dstep kA
    have HS := Lib.hid hS
    clear hS hs hs0
    go_enter Try.func15, Try.ntmps15
    go_wp2_with (go_at_call 39; refine hh.mono ?_; rintro e w' ⟨rfl, rfl⟩)
    refine bodyPost_ret (v := .tuple #[.agg #[.int .i64 0, .int .i64 0], .int .i64 132]) (by rw [results_cell_tmp rfl]; go_simp) rfl ⟨d, rfl, HS.out, fun _ x => x⟩
  | some i =>
    obtain ⟨e, he, hn, _⟩ := top_some h
    rw [highest_some h he] at hh
    obtain ⟨q, cp, hi, l0⟩ := e
    cases l0 with
    | nil => simp [ne] at hn
    | cons x l =>
      rw [takeQ_some h he]
      dsimp only
      have hfx : idx st (q : Int) = some i := idx_first he rfl (fun j a hj ha e => by
        obtain ⟨h1, h2⟩ := List.getElem?_eq_some_iff.1 he
        obtain ⟨h3, h4⟩ := List.getElem?_eq_some_iff.1 ha
        have := List.pairwise_iff_getElem.1 hs.falls.falls j i h3 h1 hj
        rw [h2, h4] at this
        simp only at this e
        omega)
      have hfi := find_ok (q : Int) hs0
      rw [fidx_some hfx] at hfi
      simp only at hh
      have hii := (List.getElem?_eq_some_iff.1 he).1
      have hk0 : (0 : Int) ≤ (i : Int) := by omega
      have hk1 : (i : Int) < (st.length : Int) := by omega
      have c1 := hs0.blk.cell 1 rfl
      obtain ⟨gR, gL, gH, v, e1, e2, e3, hvs, hv, b1, _, b2, _⟩ := hs0.at he
      obtain ⟨g, o, c, o', rfl, hc, hc0, htl, hsl⟩ := hv.tail
      have hlr := hs0.lists
      rw [e2] at c1 hlr
      have hfz := row_frozen hlr i
      have hl1 := hs.falls.len _ (List.mem_of_getElem? he)
      have hap := hs0.apart _ (List.mem_of_getElem? hvs)
      have hset := hs0.setL (e' := (q, cp, hi, l)) (v' := .slice (some ⟨g, o', none⟩) l.length (c - 1)) he e2 rfl rfl rfl (by simp at hl1 ⊢; omega) htl (fun k hk => hap k (by simpa [Value.ownBlock] using hk))
      obtain ⟨st', hst⟩ : ∃ st', st.set i (q, cp, hi, l) = st' := ⟨_, rfl⟩
      rw [hst] at hset ⊢
      have nb1 := nb.other (p := ⟨gL, i, none⟩) (by intro e; have := (row_lt hs.lists (k := gL) (by rw [e2]; rfl)); simp only at e; omega) (.slice (some ⟨g, o', none⟩) l.length (c - 1))
      have y0 := nb1.cell 0 rfl
      have y1 := nb1.cell 1 rfl
      have g0 := nb1.frozen 0
      have g1 := nb1.frozen 1
      have hgl : gL < w.heap.size := row_lt hs.lists (k := gL) (by rw [e2]; rfl)
      have hfo : ∀ j, dfoot p { d with vs := d.vs.set i (.slice (some ⟨g, o', none⟩) l.length (c - 1)) } j → dfoot p d j := fun j hj => by
          rcases hj with h | h | h | h | ⟨v', hv', hk'⟩
          · exact Or.inl h
          · exact Or.inr (Or.inl h)
          · exact Or.inr (Or.inr (Or.inl h))
          · exact Or.inr (Or.inr (Or.inr (Or.inl h)))
          · rcases List.mem_or_eq_of_mem_set hv' with h | rfl
            · exact Or.inr (Or.inr (Or.inr (Or.inr ⟨v', h, hk'⟩)))
            · exact Or.inr (Or.inr (Or.inr (Or.inr ⟨_, List.mem_of_getElem? hvs, by simpa [Value.ownBlock] using hk'⟩)))
      have hnN : ¬ dfoot p { d with vs := d.vs.set i (.slice (some ⟨g, o', none⟩) l.length (c - 1)) } w.heap.size := fun h => by have := hs.lt _ (hfo _ h); omega
      have HNN := Lib.hid hnN
      have HFO := Lib.hid hfo
      have hD : Dstep w ((w.alloc (.cells #[.int .i64 0, .int .i64 0] 40)).setCell ⟨gL, i, none⟩ (.slice (some ⟨g, o', none⟩) l.length (c - 1))) p d { d with vs := d.vs.set i (.slice (some ⟨g, o', none⟩) l.length (c - 1)) } st' :=
        ⟨hset, (((Kept.refl _ w).alloc _).set (b := gL) i (Or.inl (Or.inl ⟨_, e2, rfl⟩)) _), fun j hj => Or.inl (hfo j hj)⟩
      have HD := Lib.hid hD
      have hlen : ((x :: l).length : Int) = (l.length : Int) + 1 := by simp
      have hlw : w.heap.size ≠ gL := by omega
      obtain ⟨N, hN⟩ : ∃ N, w.heap.size = N := ⟨_, rfl⟩
      clear hs hs0 kA nb nb1 hset hD hnN hfo htl hap hst he hn hvs hv e1 e3 hlr h hfx e2 hl1
      go_enter Try.func15, Try.ntmps15
      go_upto_region 6 with (first
        | (go_at_call 39; refine hh.mono ?_; rintro e w' ⟨rfl, rfl⟩)
        | (go_at_call 40; refine hfi.mono ?_; rintro e w' ⟨rfl, rfl⟩))
      obtain ⟨w1, hw1⟩ : ∃ w1, w.alloc (.cells #[.int .i64 0, .int .i64 0] 40) = w1 := ⟨_, rfl⟩
      rw [hw1] at c1 b2 hfz hc0 y0 y1 g0 g1 HD ⊢
      rw [hN] at y0 y1 g0 g1
      have hkw : Kept (fun _ => False) w w1 := by rw [← hw1]; exact (Kept.refl _ w).alloc _
      clear hw1 hfi hh
      go_still_tail 14, (by kernel_rfl)
      go_wp2
      refine bodyPost_ret (v := .tuple #[.agg #[.int .i64 q, .int .i64 x], .int .i64 0]) (by rw [results_cell_tmp rfl]; go_simp) rfl ⟨{ d with vs := d.vs.set i (.slice (some ⟨g, o', none⟩) l.length (c - 1)) }, rfl, ?_, HFO.out⟩
      rw [← hN]
      exact HD.out.own ((((Kept.refl (fun i => i = w.heap.size) _).setCell (p := ⟨w.heap.size, 0, none⟩) (Or.inl rfl) (.int .i64 q)).setCell (p := ⟨w.heap.size, 1, none⟩) (Or.inl rfl) (.int .i64 x)).drew) HNN.out
end
end Go.Proofs.Ytdjdnfjfomeldaa.DQ
