/- Package ready: Copy. -/
import Derived.Test.YtdjdnfjfomeldaaRdyW
namespace Go.Proofs.Ytdjdnfjfomeldaa.QD
open Go.RowKit Go.Fr Go.Rq

theorem z_copy (B : Nat) : (Z.setIfInBounds 0 (.bool true)).setIfInBounds 65 (.int .u64 B) = (Value.bool true :: (N64 ++ [.int .u64 B])).toArray := by
  unfold Z N64
  simp [List.replicate]

theorem _root_.Go.Proofs.Ytdjdnfjfomeldaa.RI.IsRing.drew {w : World} {b : Nat} {v : Value} {room f : Nat} {high : Int} {cs l : List Int} (hs : RI.IsRing w b v room f high cs l) : RI.IsRing w.drew b v room f high cs l := hs

section
variable {w : World} {b : Nat} {cells : List Value} {R : List Rd} {st : List En} {B : Nat}
theorem IsQ.cons {e : En} {r : Rd} (hs : IsQ w b cells R st B) (hlt : e.1 < 64) (hhi : ∀ a ∈ st, a.1 < e.1) (hc : 1 ≤ e.2.1 ∧ e.2.1 ≤ 65536) (hring : RI.IsRing w r.1 r.2.1 e.2.1 r.2.2.1 e.2.2.1 r.2.2.2 e.2.2.2)
    (hap : ∀ s ∈ R, ∀ k, RI.foot r.1 r.2.1 k → ¬ RI.foot s.1 s.2.1 k) (hb : ¬ RI.foot r.1 r.2.1 b) :
    IsQ (w.setCell ⟨b, 1 + e.1, none⟩ (.pointer (some ⟨r.1, 0, none⟩))) b (cells.set e.1 (.pointer (some ⟨r.1, 0, none⟩))) (r :: R) (e :: st) B := by
  have h64 := hs.n64
  have kb : ∀ (u : Value) {r : Rd} {room f : Nat} {high : Int} {cs l : List Int}, RI.IsRing w r.1 r.2.1 room f high cs l → ¬ RI.foot r.1 r.2.1 b → RI.IsRing (w.setCell ⟨b, 1 + e.1, none⟩ u) r.1 r.2.1 room f high cs l := fun u _ _ _ _ _ _ h hn => h.kept ((Kept.refl (fun i => i = b) w).setCell (p := ⟨b, 1 + e.1, none⟩) (Or.inl rfl) _) (fun i hi h2 => hn (h2 ▸ hi))
  refine { blk := blk_ring hs.blk h64 hlt, n64 := by rw [List.length_set]; exact h64, len := by simp [hs.len], has := ?_, no := ?_, apart := ?_, nb := ?_, falls := ?_ }
  · intro i a s ha hs2
    cases i with
    | zero =>
      simp at ha hs2
      subst ha hs2
      exact ⟨by rw [List.getElem?_set_self (by omega)], kb _ hring hb⟩
    | succ i =>
      simp at ha hs2
      have h1 := hs.has i a s ha hs2
      have hne : e.1 ≠ a.1 := by have := hhi a (List.mem_of_getElem? ha); omega
      exact ⟨by rw [List.getElem?_set, if_neg hne]; exact h1.1, kb _ h1.2 (hs.nb s (List.mem_of_getElem? hs2))⟩
  · intro p hp h
    have hne : e.1 ≠ p := h e (by simp)
    rw [List.getElem?_set, if_neg hne]
    exact hs.no p hp (fun a ha => h a (by simp [ha]))
  · intro i j s t hi hj hne k hk ht
    cases i with
    | zero =>
      cases j with
      | zero => exact hne rfl
      | succ j => simp at hi hj; subst hi; exact hap t (List.mem_of_getElem? hj) k hk ht
    | succ i =>
      cases j with
      | zero => simp at hi hj; subst hj; exact hap s (List.mem_of_getElem? hi) k ht hk
      | succ j => simp at hi hj; exact hs.apart i j s t hi hj (by omega) k hk ht
  · intro s hs2
    rcases List.mem_cons.1 hs2 with h | h
    · subst h; exact hb
    · exact hs.nb s h
  · refine ⟨List.pairwise_cons.2 ⟨hhi, hs.falls.falls⟩, fun a ha => ?_, fun a ha => ?_, fun a ha => ?_⟩
    all_goals
      rcases List.mem_cons.1 ha with h | h
    · subst h; exact hlt
    · exact hs.falls.lt a h
    · subst h; exact hc
    · exact hs.falls.cap a h
    · subst h; exact hring.len
    · exact hs.falls.len a h
/-- where there is no ring, none is written -/
theorem IsQ.nil {p : Nat} (hs : IsQ w b cells R st B) (hp : p < 64) (h : cells[p]? = some (.pointer none)) : IsQ (w.setCell ⟨b, 1 + p, none⟩ (.pointer none)) b cells R st B := by
  have hb := blk_ring (p := p) (u := .pointer none) hs.blk hs.n64 hp
  have e : cells.set p (.pointer none) = cells := by
    refine List.ext_getElem? fun j => ?_
    rw [List.getElem?_set]
    by_cases hj : p = j
    · subst hj; rw [if_pos rfl, if_pos (by have := hs.n64; omega), h]
    · rw [if_neg hj]
  rw [e] at hb
  exact { hs with blk := hb, has := fun i a r ha hr => ⟨(hs.has i a r ha hr).1, (hs.has i a r ha hr).2.kept ((Kept.refl (fun q => q = b) w).setCell (p := ⟨b, 1 + p, none⟩) (Or.inl rfl) _) (fun q hq h2 => hs.nb r (List.mem_of_getElem? hr) (h2 ▸ hq))⟩ }

/-- the copy under way: the rows below P are copied -/
structure Cq (w wr : World) (N : Nat) (cells : List Value) (R : List Rd) (st : List En) (P B : Nat) : Prop where
  q : IsQ wr N cells R (below st P) B
  ge : ∀ i, qfoot N R i → w.heap.size ≤ i
  kept : Kept (fun _ => False) w wr
theorem Cq.same {w wr wf : World} {P : Nat} (h : Cq w wr b cells R st P B) (kk : Kept (fun _ => False) wr wf) : Cq w wf b cells R st P B :=
  ⟨h.q.same kk, h.ge, h.kept.then kk (fun _ h => False.elim h)⟩

set_option maxRecDepth 100000 in
set_option maxHeartbeats 4000000 in
theorem copy_ok (hs : IsQ w b cells R st B) : Calls Try.prog 25 #[.pointer (some ⟨b, 0, none⟩)] w fun e w' =>
    ∃ cells' R', e = .returned (.pointer (some ⟨w.heap.size, 0, none⟩)) ∧ IsQ w' w.heap.size cells' R' st B ∧ (∀ i, qfoot w.heap.size R' i → w.heap.size ≤ i) ∧ Kept (fun _ => False) w w' := by
  have hb := z_run
  have hsz := z_size
  have hn := z_ne
  have h2 := z_copy B
  have c0 := hs.blk.cell 0 rfl
  have c65 := hs.bits
  have hF := hs.falls
  have k0 := (Kept.refl (fun _ => False) w).alloc (.cells (Value.bool true :: (N64 ++ [.int .u64 B])).toArray 60)
  have nb := Blk.new w (Value.bool true :: (N64 ++ [.int .u64 B])) 60
  have hs1 := hs.same k0
  have hr := hs1.range
  have h64 := hs.n64
  have hi := info64
  rw [← h64] at hi
  have hblt := hs.blk.lt
  obtain ⟨N, hN⟩ : ∃ N, w.heap.size = N := ⟨_, rfl⟩
  simp only [hN]
  go_enter Try.func25, Try.ntmps25
  go_upto_region 4 with fail
  clear hb hsz hn h2 c0 c65
  rw [hN] at nb
  have hz : (w.alloc (.cells (Value.bool true :: (N64 ++ [.int .u64 B])).toArray 60)).heap.size = N + 1 := by rw [World.size_alloc, hN]
  obtain ⟨w1, hw1⟩ : ∃ w1, w.alloc (.cells (Value.bool true :: (N64 ++ [.int .u64 B])).toArray 60) = w1 := ⟨_, rfl⟩
  rw [hw1] at nb k0 hs1 hr hz ⊢
  have N0 : Hid (Cq w w1 N N64 [] st 0 B) := ⟨by rw [below_zero]; exact ⟨nb, by simp [N64], rfl, by simp, fun p hp _ => by unfold N64; rw [List.getElem?_replicate, if_pos hp], by simp, by simp, ⟨by simp, by simp, by simp, by simp⟩⟩, (fun i hi => hi.elim (fun h => by omega) (fun ⟨r, hr, _⟩ => by cases hr)), k0⟩
  have HN := Lib.hid hN
  have HS := Lib.hid hs
  clear hw1 nb k0 hs1 hs hN hz
  go_wp2_with (refine wpList_load_mid rfl 58 _ rfl b 1 rfl cells _ hr Try.underlying58 rfl hi ?_)
  clear hr
  go_loopw [4, 5, 25] (fun _ _ i wr => ∃ (P : Nat) (cells' : List Value) (R' : List Rd), P ≤ 64 ∧ i = .int .i64 P ∧ Hid (Cq w wr N cells' R' st P B)) (fun _ _ i _ => 64 - (intOf i).toNat)
  case atStart => exact ⟨0, N64, [], by omega, rfl, N0⟩
  case round =>
    clear N0
    obtain ⟨P, cells', R', hP, rfl, hC⟩ := hrel
    by_cases hlt : P < 64
    · have hc := HS.out.slot hlt
      have hix := run_idx hlt hc
      have hP0 : (0 : Int) ≤ (P : Int) := by omega
      have hP1 : (P : Int) < 64 := by omega
      have hnl : cells'[P]? = some (.pointer none) := hC.out.q.no P hlt (fun e he => by have := (below_mem he).2; omega)
      have hcw := hC.out.q.cell hnl
      have hfw := hC.out.q.blk.frozen (1 + P)
      have hNb : N < wr.heap.size := hC.out.q.blk.lt
      cases h : idx st (P : Int) with
      | none =>
        rw [ringPtr_none h] at hix
        have hnc := nil_copy
        have Q := Lib.hid (show Cq w (wr.setCell ⟨N, 1 + P, none⟩ (.pointer none)) N cells' R' st (P + 1) B from ⟨by rw [below_none h]; exact hC.out.q.nil hlt hnl, hC.out.ge, hC.out.kept.setCell (p := ⟨N, 1 + P, none⟩) (Or.inr (by have := HN.out; simp only; omega)) _⟩)
        clear hC
        go_upto_region 7 with fail
        go_region_with (first
          | (go_at_call 49; refine (hnc _).mono ?_; rintro e w2 ⟨rfl, rfl⟩))
        all_goals
          go_wp2
          go_roundw
          case rel => exact ⟨P + 1, cells', R', by omega, by go_num, Q.out.same ((Kept.refl (fun _ => False) _).same rfl rfl rfl rfl)⟩
          case measure => simp [intOf]; omega
      | some i =>
        obtain ⟨e, he, hep, _⟩ := idx_some h
        obtain ⟨r, hr⟩ := HS.out.rd he
        rw [ringPtr_some h hr] at hix
        have hbs := below_some hF h he
        obtain rfl : P = e.1 := by omega
        have hcp := RI.copy_ok ((HS.out.same hC.out.kept).has i e r he hr).2.drew
        have hcap := hF.cap e (List.mem_of_getElem? he)
        have hQN := fun i (hi : qfoot N R' i) => hC.out.q.lt i hi
        go_upto_region 7 with fail
        go_region_with (first
          | (go_at_call 49; refine hcp.mono ?_; rintro e' w2 ⟨b', v', rfl, hring, hf, k2⟩; have hcw2 := (hC.out.same k2.undrew).q.cell hnl; have hfw2 := (hC.out.same k2.undrew).q.blk.frozen (1 + e.1)))
        all_goals
          have hC2 := hC.out.same k2.undrew
          have Q : Cq w (w2.setCell ⟨N, 1 + e.1, none⟩ (.pointer (some ⟨b', 0, none⟩))) N (cells'.set e.1 (.pointer (some ⟨b', 0, none⟩))) ((b', v', r.2.2.1, r.2.2.2) :: R') st (e.1 + 1) B := by
            refine ⟨?_, ?_, hC2.kept.setCell (p := ⟨N, 1 + e.1, none⟩) (Or.inr (by have := HN.out; simp only; omega)) _⟩
            · rw [hbs]
              exact hC2.q.cons (e := e) (r := (b', v', r.2.2.1, r.2.2.2)) hlt (fun a ha => (below_mem ha).2) hcap hring (fun s hs k hk hk2 => by have h1 := hf k hk; have h2 := hQN k (Or.inr ⟨s, hs, hk2⟩); have h3 : wr.heap.size ≤ k := h1; omega) (fun hk => by have h1 : wr.heap.size ≤ N := hf N hk; omega)
            · rintro i (hi | ⟨s, hs, hi⟩)
              · exact hC.out.ge i (Or.inl hi)
              · rcases List.mem_cons.1 hs with hs | hs
                · subst hs; have h1 : wr.heap.size ≤ i := hf i hi; have := hC.out.kept.size; omega
                · exact hC.out.ge i (Or.inr ⟨s, hs, hi⟩)
          have Q := Lib.hid Q
          clear hring hf k2 hC hC2
          go_wp2
          go_roundw
          case rel => exact ⟨e.1 + 1, _, _, by omega, by go_num, Q.out.same ((Kept.refl (fun _ => False) _).same rfl rfl rfl rfl)⟩
          case measure => simp [intOf]; omega
    · obtain rfl : P = 64 := by omega
      have hq := hC.out.q
      rw [below_all hF.lt] at hq
      have HQ := Lib.hid hq
      have HG := Lib.hid hC.out.ge
      have HK := Lib.hid hC.out.kept
      clear hq hC
      go_wp2
      go_ret
      exact ⟨cells', R', rfl, HQ.out, fun i hi => by have := HG.out i hi; have := HN.out; omega, HK.out⟩
end
end Go.Proofs.Ytdjdnfjfomeldaa.QD
