/- Package ready: Take. -/
import Derived.Test.YtdjdnfjfomeldaaRdyS
import Derived.Laws.ResultCell
namespace Go.Proofs.Ytdjdnfjfomeldaa.QD
open Go.RowKit Go.Fr Go.Rq

theorem Stepped.own {w w' wf : World} {b : Nat} {cells : List Value} {R R' : List Rd} {st' : List En} {B : Nat} (h : Stepped w w' b cells R R' st' B) (k : Kept (fun i => i = w.heap.size) w' wf) (hN : ¬ qfoot b R' w.heap.size) : Stepped w wf b cells R R' st' B :=
  ⟨h.q.kept k (fun i hi e => hN (e ▸ hi)), h.kept.then k (fun i e => Or.inr (by omega)), h.grow⟩

section
variable {w : World} {b : Nat} {cells : List Value} {R : List Rd} {st : List En} {B : Nat}

set_option maxRecDepth 100000 in
set_option maxHeartbeats 2000000 in
theorem take_ok (hs : IsQ w b cells R st (bitsN st)) : Calls Try.prog 14 #[.pointer (some ⟨b, 0, none⟩)] w fun e w' =>
    ∃ R', e = .returned (.tuple #[.agg #[.int .i64 (takeQ st).2.1.1, .int .i64 (takeQ st).2.1.2], .int .i64 (takeQ st).2.2]) ∧ Stepped w w' b cells R R' (takeQ st).1 (bitsN (takeQ st).1) := by
  have kA := (Kept.refl (fun _ => False) w).alloc (.cells #[.int .i64 0, .int .i64 0] 40)
  have nb := Blk.new w [.int .i64 0, .int .i64 0] 40
  have hs0 := hs.same kA
  have c0 := hs0.blk.cell 0 rfl
  have hh := highest_ok hs0
  cases h : top st with
  | none =>
    rw [takeQ_none h]
    rw [highest_none h] at hh
    have hS := hs.stepped (kA)
    have HS := Lib.hid hS
    clear hS hs hs0
    go_enter Try.func14, Try.ntmps14
    go_wp2_with (go_at_call 30; refine hh.mono ?_; rintro e w' ⟨rfl, rfl⟩)
    refine bodyPost_ret (v := .tuple #[.agg #[.int .i64 0, .int .i64 0], .int .i64 132]) (by rw [results_cell_tmp rfl]; go_simp) rfl ⟨R, rfl, HS.out⟩
  | some i =>
    obtain ⟨e, he, hn, _⟩ := top_some h
    rw [highest_some h he] at hh
    obtain ⟨r, hr⟩ := hs.rd he
    obtain ⟨p, c, hi, l0⟩ := e
    cases l0 with
    | nil => simp [ne] at hn
    | cons x l =>
      rw [takeQ_some h he]
      have hp1 := hs.falls.lt _ (List.mem_of_getElem? he)
      simp only at hp1 hh
      have hp0 : (0 : Int) ≤ (p : Int) := by omega
      have hp2 : (p : Int) < 64 := by omega
      have hcr := hs0.cell (hs0.has i _ r he hr).1
      have htk := RI.take_ok x (hs0.has i _ r he hr).2
      have hlt := bits_lt hs.falls.lt
      obtain ⟨st', hst⟩ : ∃ st', st.set i (p, c, hi, l) = st' := ⟨_, rfl⟩
      have hany := fun (h1 : ne (p, c, hi, l) = false) => bits_take (e' := (p, c, hi, l)) hs.falls he h1
      have hsame := fun (h1 : ne (p, c, hi, l) = ne (p, c, hi, x :: l)) => bits_same (e' := (p, c, hi, l)) he rfl h1
      rw [hst] at hany hsame
      dsimp only
      rw [hst]
      simp only at hcr htk
      have HS0 := Lib.hid hs0
      have HKA := Lib.hid kA
      have HLT := Lib.hid hs.lt
      clear hs hs0 kA hn
      go_enter Try.func14, Try.ntmps14
      go_upto_region 7 with (first
        | (go_at_call 30; refine hh.mono ?_; rintro e w' ⟨rfl, rfl⟩)
        | (go_at_call 37; refine htk.mono ?_; rintro e' w1 ⟨rfl, f', cs', hring, k⟩))
      have S1 := HS0.out.step he hr k hring (fun q hq => Or.inl hq)
      rw [hst] at S1
      obtain ⟨e2, he2⟩ : ∃ e2, st'[i]? = some e2 := ⟨_, by rw [← hst, List.getElem?_set_self (List.getElem?_eq_some_iff.1 he).1]⟩
      have hcr2 := S1.q.cell (S1.q.slot (p := p) (by omega))
      have hlen := RI.len_ok hring
      have hrp : ringPtr (R.set i (r.1, r.2.1, f', cs')) st' (p : Int) = some ⟨r.1, 0, none⟩ := by
        have := (S1.q.slot (p := p) (by omega)).symm.trans (HS0.out.has i _ r he hr).1
        simpa using this
      rw [hrp] at hcr2
      have c65 := S1.q.bits
      have f65 := S1.q.blk.frozen 65
      have nb1 := nb.kept k (fun hq => by have := HLT.out w.heap.size (Or.inr ⟨r, List.mem_of_getElem? hr, hq⟩); omega)
      have S0 : Stepped w w1 b cells R (R.set i (r.1, r.2.1, f', cs')) st' (bitsN st) := ⟨S1.q, (HKA.out.mono (fun _ _ h => h.elim)).then S1.kept (fun _ h => Or.inl h), fun q hq => (S1.grow q hq).imp id (fun h => by rw [World.size_alloc] at h; omega)⟩
      have hN : ¬ qfoot b (R.set i (r.1, r.2.1, f', cs')) w.heap.size := fun hq => by
        rcases S1.grow _ hq with h1 | h1
        · have := HLT.out _ h1; omega
        · rw [World.size_alloc] at h1; omega
      cases l with
      | nil =>
        have hB := hany (by simp [ne])
        have hand := andNot_bits hlt hp1
        rw [← hB] at hand
        have hw := shl_one hp1
        have S2 := S0.setBits (bitsN st')
        have nb2 := nb1.other (p := ⟨b, 65, none⟩) (by intro e; have := HLT.out b (Or.inl rfl); simp only at e; omega) (.int .u64 (bitsN st'))
        have HS2 := Lib.hid S2
        have NB2 := Lib.hid nb2
        clear S1 S0 S2 hring k he2 hrp nb1 nb nb2 hany hsame hB hst hh htk
        go_upto_region 8 with (go_at_call 38; refine hlen.mono ?_; rintro e w' ⟨rfl, rfl⟩)
        have y0 := NB2.out.cell 0 rfl
        have y1 := NB2.out.cell 1 rfl
        have g0 := NB2.out.frozen 0
        have g1 := NB2.out.frozen 1
        go_still_tail 9, (by kernel_rfl)
        go_wp2
        refine bodyPost_ret (v := .tuple #[.agg #[.int .i64 p, .int .i64 x], .int .i64 0]) (by rw [results_cell_tmp rfl]; go_simp) rfl ⟨R.set i (r.1, r.2.1, f', cs'), rfl, ?_⟩
        have HF := HS2.out.own ((((Kept.refl (fun i => i = w.heap.size) _).setCell (p := ⟨w.heap.size, 0, none⟩) (Or.inl rfl) (.int .i64 p)).setCell (p := ⟨w.heap.size, 1, none⟩) (Or.inl rfl) (.int .i64 x)).drew) hN
        exact HF
      | cons y l2 =>
        have hB := hsame (by simp [ne])
        rw [← hB] at S0
        have HS2 := Lib.hid S0
        have y0 := nb1.cell 0 rfl
        have y1 := nb1.cell 1 rfl
        have g0 := nb1.frozen 0
        have g1 := nb1.frozen 1
        have hl0 : (((y :: l2).length : Int) == 0) = false := by simp; omega
        have hl1 : ¬ (((y :: l2).length : Int) = 0) := by simp; omega
        clear S1 S0 hring k he2 hrp nb1 nb hany hsame hB hst hh htk
        go_wp2_with (go_at_call 38; refine hlen.mono ?_; rintro e w' ⟨rfl, rfl⟩)
        refine bodyPost_ret (v := .tuple #[.agg #[.int .i64 p, .int .i64 x], .int .i64 0]) (by rw [results_cell_tmp rfl]; go_simp) rfl ⟨R.set i (r.1, r.2.1, f', cs'), rfl, ?_⟩
        have HF := HS2.out.own (((Kept.refl (fun i => i = w.heap.size) _).setCell (p := ⟨w.heap.size, 0, none⟩) (Or.inl rfl) (.int .i64 p)).setCell (p := ⟨w.heap.size, 1, none⟩) (Or.inl rfl) (.int .i64 x)) hN
        exact HF
end
end Go.Proofs.Ytdjdnfjfomeldaa.QD
