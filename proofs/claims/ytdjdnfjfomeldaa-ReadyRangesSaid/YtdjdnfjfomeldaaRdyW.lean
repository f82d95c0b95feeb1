/- Package ready: New. -/
import Derived.Test.YtdjdnfjfomeldaaRdyV
import Derived.Test.YtdjdnfjfomeldaaArgs
namespace Go.Proofs.Ytdjdnfjfomeldaa.QD
open Go.RowKit Go.Fr Go.Rq

/-- the zero queue's cells -/
def Z : Array Value := (Value.bool false :: (List.replicate 64 (Value.pointer none) ++ [.int .u64 0])).toArray
theorem z_run (w : World) : (zeroValue 60).run Try.prog w = .ok (.agg Z) w := by kernel_rfl
theorem z_size : Z.size = 66 := by kernel_rfl
theorem z_ne : (Z = #[]) = False := by
  have := z_size
  apply propext; constructor
  · intro h; rw [h] at this; simp at this
  · intro h; exact h.elim
def N64 : List Value := List.replicate 64 (Value.pointer none)
theorem z_made : Z.setIfInBounds 0 (.bool true) = (Value.bool true :: (N64 ++ [.int .u64 0])).toArray := by
  unfold Z N64
  generalize List.replicate 64 (Value.pointer none) ++ [Value.int .u64 0] = r
  simp

section
variable {w : World} {b : Nat} {cells : List Value} {R : List Rd} {st : List En} {B : Nat}

theorem blk_ring {p : Nat} {u : Value} (h : Blk w b (.bool true :: (cells ++ [.int .u64 B])) 60) (h64 : cells.length = 64) (hp : p < 64) : Blk (w.setCell ⟨b, 1 + p, none⟩ u) b (.bool true :: (cells.set p u ++ [.int .u64 B])) 60 := by
  have h2 := h.set (1 + p) u
  rwa [Nat.add_comm, List.set_cons_succ, List.set_append_left _ _ (by omega), Nat.add_comm] at h2

theorem IsQ.snoc {e : En} {r : Rd} (hs : IsQ w b cells R st B) (hlt : e.1 < 64) (hlow : ∀ a ∈ st, e.1 < a.1) (hc : 1 ≤ e.2.1 ∧ e.2.1 ≤ 65536) (hring : RI.IsRing w r.1 r.2.1 e.2.1 r.2.2.1 e.2.2.1 r.2.2.2 e.2.2.2)
    (hap : ∀ s ∈ R, ∀ k, RI.foot r.1 r.2.1 k → ¬ RI.foot s.1 s.2.1 k) (hb : ¬ RI.foot r.1 r.2.1 b) :
    IsQ (w.setCell ⟨b, 1 + e.1, none⟩ (.pointer (some ⟨r.1, 0, none⟩))) b (cells.set e.1 (.pointer (some ⟨r.1, 0, none⟩))) (R ++ [r]) (st ++ [e]) B := by
  have h64 := hs.n64
  have kb : ∀ (u : Value) {r : Rd} {room f : Nat} {high : Int} {cs l : List Int}, RI.IsRing w r.1 r.2.1 room f high cs l → ¬ RI.foot r.1 r.2.1 b → RI.IsRing (w.setCell ⟨b, 1 + e.1, none⟩ u) r.1 r.2.1 room f high cs l := fun u _ _ _ _ _ _ h hn => h.kept ((Kept.refl (fun i => i = b) w).setCell (p := ⟨b, 1 + e.1, none⟩) (Or.inl rfl) _) (fun i hi h2 => hn (h2 ▸ hi))
  refine { blk := blk_ring hs.blk h64 hlt, n64 := by rw [List.length_set]; exact h64, len := by simp [hs.len], has := ?_, no := ?_, apart := ?_, nb := ?_, falls := ?_ }
  · intro i a s ha hs2
    rcases Nat.lt_or_ge i st.length with h | h
    · rw [List.getElem?_append_left h] at ha
      rw [List.getElem?_append_left (by rw [hs.len]; exact h)] at hs2
      have h1 := hs.has i a s ha hs2
      have hne : e.1 ≠ a.1 := by have := hlow a (List.mem_of_getElem? ha); omega
      exact ⟨by rw [List.getElem?_set, if_neg hne]; exact h1.1, kb _ h1.2 (hs.nb s (List.mem_of_getElem? hs2))⟩
    · rw [List.getElem?_append_right h] at ha
      rw [List.getElem?_append_right (by rw [hs.len]; exact h), hs.len] at hs2
      obtain ⟨q, hq⟩ : ∃ q, i - st.length = q := ⟨_, rfl⟩
      rw [hq] at ha hs2
      cases q with
      | succ q => simp at ha
      | zero =>
        simp at ha hs2
        subst ha hs2
        exact ⟨by rw [List.getElem?_set_self (by omega)], kb _ hring hb⟩
  · intro p hp h
    have hne : e.1 ≠ p := h e (by simp)
    rw [List.getElem?_set, if_neg hne]
    exact hs.no p hp (fun a ha => h a (by simp [ha]))
  · intro i j s t hi hj hne k hk ht
    rcases Nat.lt_or_ge i R.length with h1 | h1 <;> rcases Nat.lt_or_ge j R.length with h2 | h2
    · rw [List.getElem?_append_left h1] at hi
      rw [List.getElem?_append_left h2] at hj
      exact hs.apart i j s t hi hj hne k hk ht
    · rw [List.getElem?_append_left h1] at hi
      rw [List.getElem?_append_right h2] at hj
      have : t = r := by
        have := List.mem_of_getElem? hj; simpa using this
      subst this
      exact hap s (List.mem_of_getElem? hi) k ht hk
    · rw [List.getElem?_append_right h1] at hi
      rw [List.getElem?_append_left h2] at hj
      have : s = r := by
        have := List.mem_of_getElem? hi; simpa using this
      subst this
      exact hap t (List.mem_of_getElem? hj) k hk ht
    · have hi' := (List.getElem?_eq_some_iff.1 hi).1
      have hj' := (List.getElem?_eq_some_iff.1 hj).1
      simp at hi' hj'
      omega
  · intro s hs2
    rcases List.mem_append.1 hs2 with h | h
    · exact hs.nb s h
    · simp at h; subst h; exact hb
  · refine ⟨?_, fun a ha => ?_, fun a ha => ?_, fun a ha => ?_⟩
    · rw [List.pairwise_append]
      exact ⟨hs.falls.falls, by simp, fun a ha c hc => by simp at hc; subst hc; exact hlow a ha⟩
    all_goals
      rcases List.mem_append.1 ha with h | h
    · exact hs.falls.lt a h
    · simp at h; subst h; exact hlt
    · exact hs.falls.cap a h
    · simp at h; subst h; exact hc
    · exact hs.falls.len a h
    · simp at h; subst h; exact hring.len

/-- the queue under way: k rows are made -/
structure Nw (w wr : World) (b : Nat) (cells : List Value) (R : List Rd) (rs : List (Int × Int)) (k : Nat) : Prop where
  q : IsQ wr b cells R ((rs.take k).map mkE) 0
  ge : ∀ i, qfoot b R i → w.heap.size ≤ i
  kept : Kept (fun _ => False) w wr
theorem Nw.same {w wr wf : World} {rs : List (Int × Int)} {k : Nat} (h : Nw w wr b cells R rs k) (kk : Kept (fun _ => False) wr wf) : Nw w wf b cells R rs k :=
  ⟨h.q.same kk, h.ge, h.kept.then kk (fun _ h => False.elim h)⟩
theorem Nw.next {w wr : World} {rs : List (Int × Int)} {k : Nat} {x : Int × Int} {p c g : Nat} (h : Nw w wr b cells R rs k) (hx : rs[k]? = some x) (hp : x.1 = p) (hc : x.2 = c) (hp64 : p < 64) (hlow : ∀ a ∈ (rs.take k).map mkE, p < a.1) (hcap : 1 ≤ c ∧ c ≤ 65536)
    (hring : RI.IsRing wr g (.slice none 0 0) c 0 0 [] []) (hg : ∀ i, qfoot b R i → i < g) (hw : w.heap.size ≤ b) : Nw w (wr.setCell ⟨b, 1 + p, none⟩ (.pointer (some ⟨g, 0, none⟩))).drew b (cells.set p (.pointer (some ⟨g, 0, none⟩))) (R ++ [(g, .slice none 0 0, 0, [])]) rs (k + 1) := by
  have hf : ∀ i, RI.foot g (.slice none 0 0) i → i = g := by rintro i (h | h); exact h; simp [Value.ownBlock] at h
  have hgb := hg b (Or.inl rfl)
  have e : (rs.take (k + 1)).map mkE = (rs.take k).map mkE ++ [(p, c, 0, [])] := by
    rw [List.take_add_one, hx]
    simp [mkE, hp, hc]
  refine ⟨?_, ?_, (h.kept.setCell (p := ⟨b, 1 + p, none⟩) (Or.inr hw) _).drew⟩
  · rw [e]
    exact (h.q.snoc (e := (p, c, 0, [])) (r := (g, .slice none 0 0, 0, [])) hp64 hlow hcap hring (fun s hs i hi hi2 => by have := hf i hi; have := hg i (Or.inr ⟨s, hs, hi2⟩); omega) (fun hh => by have := hf b hh; omega)).same ((Kept.refl (fun _ => False) _).drew)
  · rintro i (hi | ⟨s, hs, hi⟩)
    · exact h.ge i (Or.inl hi)
    · rcases List.mem_append.1 hs with hs | hs
      · exact h.ge i (Or.inr ⟨s, hs, hi⟩)
      · simp at hs; subst hs
        have := hf i hi
        omega
end

theorem elem_row {w wr : World} {ao : Option Addr} {rs : List (Int × Int)} (hc : CameL w 2 (encKK .i64 .i64) ao rs) (hb : Below w.heap.size w wr) {k : Nat} {x y : Int} (hx : rs[k]? = some (x, y)) :
    ∃ ab off, ao = some ⟨ab, off, none⟩ ∧ ab < w.heap.size ∧ wr.cell? ⟨ab, off + k * 2, none⟩ = some (.int .i64 x) ∧ wr.cell? ⟨ab, off + k * 2 + 1, none⟩ = some (.int .i64 y) := by
  obtain ⟨ab, off, rfl, hab, hcl⟩ := hc (by rintro rfl; simp at hx)
  refine ⟨ab, off, rfl, hab, ?_, ?_⟩
  · rw [hb.cell (by exact hab)]; simpa using hcl k _ hx 0 _ rfl
  · rw [hb.cell (by exact hab)]; simpa using hcl k _ hx 1 _ rfl

set_option maxRecDepth 100000 in
set_option maxHeartbeats 4000000 in
theorem new_all (ao : Option Addr) (c : Nat) (rs : List (Int × Int)) (w : World) (p : Nat) (hp : Upto rs p) (hc : CameL w 2 (encKK .i64 .i64) ao rs) : Calls Try.prog 28 #[.slice ao rs.length c] w fun e w' =>
    (p < rs.length → e = .returned (.tuple #[.pointer none, .int .i64 133]) ∧ Kept (fun _ => False) w w') ∧
    (p = rs.length → ∃ cells R, e = .returned (.tuple #[.pointer (some ⟨w.heap.size, 0, none⟩), .int .i64 0]) ∧ Nw w w' w.heap.size cells R rs rs.length) := by
  have hb := z_run
  have hs := z_size
  have hn := z_ne
  have h2 := z_made
  have hle := hp.le
  obtain ⟨N, hN⟩ : ∃ N, w.heap.size = N := ⟨_, rfl⟩
  simp only [hN]
  go_enter Try.func28, Try.ntmps28
  go_wp2_with fail
  clear hb hs hn h2
  have nb := Blk.new w (Value.bool true :: (N64 ++ [.int .u64 0])) 60
  have k0 := (Kept.refl (fun _ => False) w).alloc (.cells (Value.bool true :: (N64 ++ [.int .u64 0])).toArray 60)
  obtain ⟨w1, hw1⟩ : ∃ w1, w.alloc (.cells (Value.bool true :: (N64 ++ [.int .u64 0])).toArray 60) = w1 := ⟨_, rfl⟩
  have hz : w1.heap.size = w.heap.size + 1 := by rw [← hw1]; exact World.size_alloc _ _
  rw [hw1] at nb k0 ⊢
  rw [hN] at nb hz
  try simp only [hN]
  have N0 : Hid (Nw w w1 N N64 [] rs 0) := ⟨⟨nb, by simp [N64], rfl, by simp, fun p hp _ => by unfold N64; rw [List.getElem?_replicate, if_pos hp], by simp, by simp, ⟨by simp, by simp, by simp, by simp⟩⟩, (fun i hi => hi.elim (fun h => by omega) (fun ⟨r, hr, _⟩ => by cases hr)), k0⟩
  have HC := Lib.hid hc
  have HN := Lib.hid hN
  clear hw1 nb k0 hz hc hN
  go_loopw [5, 14] (fun last i wr => ∃ (k : Nat) (cells : List Value) (R : List Rd), k ≤ p ∧ i = .int .i64 k ∧ last = .int .i64 (lastAt rs k) ∧ Hid (Nw w wr N cells R rs k)) (fun _ i _ => rs.length - (intOf i).toNat)
  case atStart => exact ⟨0, N64, [], Nat.zero_le _, rfl, rfl, N0⟩
  case round =>
    clear N0
    obtain ⟨k, cells, R, hk, rfl, rfl, hW⟩ := hrel
    have hlow := hp.low k hk
    obtain ⟨last, hlast⟩ : ∃ last, lastAt rs k = last := ⟨_, rfl⟩
    rw [hlast] at hlow ⊢
    obtain ⟨hl0, hl64, hlw⟩ := hlow
    by_cases hkl : k < rs.length
    · obtain ⟨⟨x1, x2⟩, hx⟩ : ∃ x, rs[k]? = some x := ⟨_, List.getElem?_eq_getElem hkl⟩
      obtain ⟨ab, off, rfl, hab, e1, e2⟩ := elem_row HC.out (hW.out.kept.below (Nat.le_refl _) (fun _ h => h.elim)) hx
      have hk0 : (0 : Int) ≤ (k : Int) := by omega
      have hk1 : (k : Int) < (rs.length : Int) := by omega
      have hok := okAt_some hx
      rw [hlast] at hok
      have nbx := Blk.new wr [.int .i64 x1, .int .i64 x2] 65
      have kA := (Kept.refl (fun _ => False) wr).alloc (.cells #[.int .i64 x1, .int .i64 x2] 65)
      have hWA := hW.out.same kA
      have HK := Lib.hid hWA.kept
      by_cases hkp : k < p
      · have h1 := hp.ok k hkp
        rw [hok, okRow_iff] at h1
        simp only at h1
        obtain ⟨q, rfl⟩ := Int.eq_ofNat_of_zero_le h1.1
        obtain ⟨c1, rfl⟩ := Int.eq_ofNat_of_zero_le (show 0 ≤ x2 by omega)
        have hcap : c1 ≤ 65536 := by omega
        have d1 : decide ((q : Int) < 0) = false := by simp
        have d2 : decide (last ≤ (q : Int)) = false := by simp; omega
        have d3 : decide ((c1 : Int) < 1) = false := by simp; omega
        have hnx := fun (wr2 : World) (h : Nw w wr2 N cells R rs k) (g : Nat) => Nw.next (x := ((q : Int), (c1 : Int))) (g := g) h hx rfl rfl (by omega) (fun a ha => by have := hlw a ha; omega) (by omega)
        have hla := lastAt_succ hx
        simp only at hla
        have HNX := Lib.hid hnx
        have hq0 : (0 : Int) ≤ (q : Int) := by omega
        have hq1 : (q : Int) < 64 := by omega
        clear hnx hok h1 hlw hx
        have hnw := RI.new_ok c1 (wr.alloc (.cells #[.int .i64 q, .int .i64 c1] 65)) (by omega)
        have hgl := fun i (hi : qfoot N R i) => hWA.q.lt i hi
        obtain ⟨g, hg⟩ : ∃ g, (wr.alloc (.cells #[.int .i64 q, .int .i64 c1] 65)).heap.size = g := ⟨_, rfl⟩
        simp only [hg] at hnw hgl
        have HWA := Lib.hid hWA
        have HGL := Lib.hid hgl
        clear hWA hgl
        go_upto_region 9 with (go_at_call 50; refine hnw.mono ?_; rintro e w2 ⟨rfl, hring, k2, hsz⟩)
        have hW2 := HWA.out.same k2
        have hc2 := hW2.q.cell (hW2.q.slot (p := q) (by omega))
        have hf2 := hW2.q.blk.frozen (1 + q)
        have nb2 := nbx.kept k2 (fun h => h)
        have y0 := nb2.cell 0 rfl
        have H2 := Lib.hid (HNX.out w2 hW2 g hring HGL.out (by have := HN.out; omega))
        clear hW2 nb2 k2 hring hnw nbx
        go_upto_region 12 with fail
        go_still_tail 7, (by kernel_rfl)
        go_wp2
        go_roundw
        case rel => exact ⟨k + 1, _, _, by omega, by go_num, by rw [hla], H2.out⟩
        case measure => simp [intOf]; omega
      · have hb1 := hp.bad (by omega)
        rw [show p = k by omega, hok] at hb1
        have hb2 : ¬ (0 ≤ x1 ∧ x1 < last ∧ 1 ≤ x2 ∧ x2 ≤ 65536) := fun h => by rw [okRow_iff.2 h] at hb1; cases hb1
        clear hb1 hok hlw hx
        by_cases t1 : x1 < 0
        · have d1 : decide (x1 < 0) = true := by simpa using t1
          go_wp2_with (go_at_call 50; refine (RI.new_no _ _ (by omega)).mono ?_; rintro e w2 ⟨rfl, rfl⟩)
          go_ret2
          exact ⟨fun _ => ⟨rfl, HK.out⟩, fun h => absurd h (by omega)⟩
        have d1 : decide (x1 < 0) = false := by simpa using t1
        by_cases t2 : last ≤ x1
        · have d2 : decide (last ≤ x1) = true := by simpa using t2
          go_wp2_with (go_at_call 50; refine (RI.new_no _ _ (by omega)).mono ?_; rintro e w2 ⟨rfl, rfl⟩)
          go_ret2
          exact ⟨fun _ => ⟨rfl, HK.out⟩, fun h => absurd h (by omega)⟩
        have d2 : decide (last ≤ x1) = false := by simpa using t2
        by_cases t3 : x2 < 1
        · have d3 : decide (x2 < 1) = true := by simpa using t3
          go_wp2_with (go_at_call 50; refine (RI.new_no _ _ (by omega)).mono ?_; rintro e w2 ⟨rfl, rfl⟩)
          go_ret2
          exact ⟨fun _ => ⟨rfl, HK.out⟩, fun h => absurd h (by omega)⟩
        have d3 : decide (x2 < 1) = false := by simpa using t3
        go_wp2_with (go_at_call 50; refine (RI.new_no _ _ (by omega)).mono ?_; rintro e w2 ⟨rfl, rfl⟩)
        go_ret2
        exact ⟨fun _ => ⟨rfl, HK.out⟩, fun h => absurd h (by omega)⟩
    · obtain rfl : k = p := by omega
      have hW2 : Hid (Nw w wr N cells R rs rs.length) := by rw [show rs.length = k by omega]; exact hW
      go_wp2
      go_ret2
      exact ⟨fun h => absurd h (by omega), fun _ => ⟨cells, R, rfl, hW2.out⟩⟩
end Go.Proofs.Ytdjdnfjfomeldaa.QD
