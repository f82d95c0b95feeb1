/- The document's queue: put, Tail, Head. -/
import Derived.Test.YtdjdnfjfomeldaaRdyH
namespace Go.Proofs.Ytdjdnfjfomeldaa.DQ
open Go.RowKit Go.Fr Go.Rq Go.Shelf
open Go.Proofs.Ytdjdnfjfomeldaa.QD (putQ_none putQ_some)
attribute [local go_sem] Oper.semAt_some
theorem ints_one (l : List Int) : ∀ u ∈ l.map (Value.int .i64), u.oneCell' = true := by
  intro u hu
  obtain ⟨x, _, rfl⟩ := List.mem_map.1 hu
  rfl
section
variable {w : World} {p : Nat} {d : Dd} {st : List En}
set_option maxRecDepth 100000 in
theorem put_none (q x : Int) (hd : Bool) (hs : IsD w p d st) (h : idx st q = none) : Calls Try.prog 33 #[.pointer (some ⟨p, 0, none⟩), .int .i64 q, .int .i64 x, .bool hd] w fun e w' => e = .returned (.int .i64 130) ∧ w = w' := by
  have hfi := find_ok q hs
  rw [fidx_none h] at hfi
  clear hs
  go_enter Try.func33, Try.ntmps33
  go_wp2_with (go_at_call 40; refine hfi.mono ?_; rintro e w' ⟨rfl, rfl⟩)
  go_ret
  exact ⟨rfl, rfl⟩
set_option maxRecDepth 100000 in
theorem put_full (q x : Int) (hd : Bool) {i : Nat} {e : En} (hs : IsD w p d st) (h : idx st q = some i) (hx : st[i]? = some e) (hf : e.2.1 ≤ e.2.2.2.length) : Calls Try.prog 33 #[.pointer (some ⟨p, 0, none⟩), .int .i64 q, .int .i64 x, .bool hd] w fun e w' => e = .returned (.int .i64 131) ∧ ∃ n, w' = w.drewN n := by
  have hfi := find_ok q hs
  rw [fidx_some h] at hfi
  have c0 := hs.blk.cell 0 rfl
  have c1 := hs.blk.cell 1 rfl
  obtain ⟨gR, gL, gH, v, e1, e2, e3, hvs, hv, b0, b1, b2, _⟩ := hs.at hx
  rw [e1] at c0
  rw [e2] at c1
  obtain ⟨av, cv, rfl⟩ := hv.form
  have hi := (List.getElem?_eq_some_iff.1 hx).1
  have hk0 : (0 : Int) ≤ (i : Int) := by omega
  have hk1 : (i : Int) < (st.length : Int) := by omega
  have d1 : decide ((e.2.1 : Int) ≤ (e.2.2.2.length : Int)) = true := by simp; omega
  have d2 : ¬ ((e.2.2.2.length : Int) < (e.2.1 : Int)) := by omega
  clear hs e1 e2 e3 hv hvs hx h
  go_enter Try.func33, Try.ntmps33
  go_wp2_with (go_at_call 40; refine hfi.mono ?_; rintro e w' ⟨rfl, rfl⟩)
  go_quiet (fail)
  go_wp2
  go_ret
  exact ⟨rfl, _, rfl⟩

set_option maxRecDepth 100000 in
set_option maxHeartbeats 4000000 in
theorem put_last (q x : Int) {i : Nat} {e : En} (hs : IsD w p d st) (h : idx st q = some i) (hx : st[i]? = some e) (hf : ¬ e.2.1 ≤ e.2.2.2.length) : Calls Try.prog 33 #[.pointer (some ⟨p, 0, none⟩), .int .i64 q, .int .i64 x, .bool false] w fun e' w' =>
    ∃ d', e' = .returned (.int .i64 0) ∧ Dstep w w' p d d' (st.set i (e.1, e.2.1, mxi e.2.2.1 ((e.2.2.2.length : Int) + 1), e.2.2.2 ++ [x])) := by
  obtain ⟨i0, hi, hz0, hz1, hz2⟩ := info_parts RI.info
  have hfi := find_ok q hs
  rw [fidx_some h] at hfi
  have c0 := hs.blk.cell 0 rfl
  have c1 := hs.blk.cell 1 rfl
  obtain ⟨gR, gL, gH, v, e1, e2, e3, hvs, hv, b0, b1, b2, _⟩ := hs.at hx
  have HE2 := Lib.hid e2
  have HE3 := Lib.hid e3
  rw [e1] at c0
  rw [e2] at c1
  obtain ⟨av, cv, rfl⟩ := hv.form
  have hii := (List.getElem?_eq_some_iff.1 hx).1
  have hk0 : (0 : Int) ≤ (i : Int) := by omega
  have hk1 : (i : Int) < (st.length : Int) := by omega
  have hcap := hs.idl hx
  have hcp := (hs.falls.cap e (List.mem_of_getElem? hx)).2
  have HX := Lib.hid hx
  obtain ⟨E, hE⟩ : ∃ E, st.set i (e.1, e.2.1, mxi e.2.2.1 ((e.2.2.2.length : Int) + 1), e.2.2.2 ++ [x]) = E := ⟨_, rfl⟩
  rw [hE]
  have HE := Lib.hid hE
  obtain ⟨pr, cp, hi0, l⟩ := e
  simp only at hf hcap hcp b0 b1 b2 hv ⊢
  have d1 : decide ((cp : Int) ≤ (l.length : Int)) = false := by simp; omega
  have HV := Lib.hid hv
  have HVS := Lib.hid hvs
  have HS := Lib.hid hs
  clear hs e1 e2 e3 hv hvs hx h hE
  go_enter Try.func33, Try.ntmps33
  go_wp2_with (go_at_call 40; refine hfi.mono ?_; rintro e w' ⟨rfl, rfl⟩)
  go_quiet (fail)
  clear d1
  go_wp2_with (at_builtin; refine wpList_append_any rfl (.tmp 38) (.tmp 45) 75 rfl 3 i0 (.int .i64 0) 1 8 Try.underlying75 hi hz0 hz1 hz2 rfl (by decide) none 0 0 [] rfl (World.ownsRow_nil _ _ _ _) av l.length cv (l.map (Value.int .i64)) rfl (HV.out.shows.heap (fun _ _ => rfl)) (ints_one l) (by unfold maxLen; omega) (by omega) ?_)
  intro ao1 c1' w1 r1 r2 r3
  try simp only [Nat.zero_add, List.nil_append] at r1 r3
  try rw [Nat.zero_add]
  have hk1 : Kept (fun _ => False) w w1 := ⟨r2.os, r2.tape, r2.output, r2.size, fun k hk _ => r2.block k hk (fun e => by cases e)⟩
  have hs1 := HS.out.same hk1
  have hge : ∀ g, (Value.slice ao1 l.length c1').ownBlock = some g → w.heap.size ≤ g := fun g hg => (r3 g hg).elim (fun e => by cases e) id
  have HS1 := Lib.hid hs1
  have HK1 := Lib.hid hk1
  have HG := Lib.hid hge
  have HR1 := Lib.hid r1
  clear hs1 hk1 hge r1 r2 r3 c0 c1 b0 b1 b2 hfi
  go_wp2_with (at_builtin; refine wpList_append_any rfl (.tmp 49) (.tmp 51) 75 rfl 3 i0 (.int .i64 0) 1 8 Try.underlying75 hi hz0 hz1 hz2 rfl (by decide) _ _ _ (l.map (Value.int .i64)) rfl ?hrow _ 1 1 [.int .i64 x] rfl ?hnew (by simp [Value.oneCell']) (by unfold maxLen; omega) (by omega) ?_)
  case hrow => exact row_alloc HR1.out _
  case hnew => exact shows_new _ [_] _ (by simp) rfl
  intro ao2 c2' w2 r1 r2 r3
  obtain ⟨l', hl'⟩ : ∃ l', l ++ [x] = l' := ⟨_, rfl⟩
  have hlen : l.length + 1 = l'.length := by rw [← hl']; simp
  have hmap : l.map (Value.int .i64) ++ [.int .i64 x] = l'.map (Value.int .i64) := by rw [← hl']; simp
  have hlen2 : (l.length : Int) + 1 = (l'.length : Int) := by omega
  rw [hmap, hlen] at r1
  rw [hlen] at r3 ⊢
  simp only [hl', hlen2] at HE
  have hk2 : Kept (fun k => (Value.slice ao1 l.length c1').ownBlock = some k) w1 w2 := ((Kept.refl _ _).alloc _).grown r2 (fun k hk => Or.inl hk)
  have hge2 : ∀ g, (Value.slice ao2 l'.length c2').ownBlock = some g → w.heap.size ≤ g := fun g hg => (r3 g hg).elim (HG.out g) (fun e => by have := HK1.out.size; first | omega | (simp at e; omega))
  have hkk : Kept (fun _ => False) w w2 := HK1.out.then hk2 (fun i hi => Or.inr (HG.out i hi))
  have hs2 := HS.out.same hkk
  have hlv := LV.row r1
  have hn' : l'.length ≤ cp := by omega
  have hne : ∀ k, (Value.slice ao2 l'.length c2').ownBlock = some k → (Value.slice d.aH st.length d.cH).ownBlock ≠ some k := fun k hk e => by
    have h1 := hge2 k hk
    have h2 := row_lt HS.out.highs e
    omega
  have hset := hs2.setL (e' := (pr, cp, hi0, l')) (v' := .slice ao2 l'.length c2') HX.out HE2.out rfl rfl rfl hn' hlv hne
  have c1 := hs2.blk.cell 1 rfl
  rw [HE2.out] at c1
  have hlr := hs2.lists
  rw [HE2.out] at hlr
  have hfz := row_frozen hlr i
  have hb2 := row_cell hlr i HVS.out
  have HSET := Lib.hid hset
  have HKK := Lib.hid hkk
  have HGE := Lib.hid hge2
  clear hs2 hset hlr hlv hge2 r1 r2 r3 hkk hk2 hlen2 hmap hl' hlen hne
  go_upto_region 13 with fail
  obtain ⟨w3, hw3⟩ : ∃ w3, w2.setCell ⟨gL, i, none⟩ (.slice ao2 l'.length c2') = w3 := ⟨_, rfl⟩
  rw [hw3] at HSET ⊢
  have hk3 : Kept (fun k => k = gL) w w3 := by rw [← hw3]; exact Kept.set (S := fun k => k = gL) (HKK.out.mono (fun _ _ x => x.elim)) (b := gL) i (Or.inl rfl) _
  have c3 := HSET.out.blk.cell 2 rfl
  simp only [HE3.out] at c3
  have hlh := HSET.out.highs
  simp only [HE3.out] at hlh
  have hx3 : (st.set i (pr, cp, hi0, l'))[i]? = some (pr, cp, hi0, l') := by rw [List.getElem?_set_self hii]
  have hb3 := row_cell hlh i (u := .int .i64 hi0) (by rw [List.getElem?_map, hx3]; rfl)
  have hfz3 := row_frozen hlh i
  have hls : (st.set i (pr, cp, hi0, l')).length = st.length := List.length_set
  rw [hls] at c3
  have hS2 := fun h' : Int => HSET.out.setH (e' := (pr, cp, h', l')) hx3 HE3.out rfl rfl rfl
  simp only [List.set_set] at hS2
  have HS2 := Lib.hid hS2
  have HK3 := Lib.hid hk3
  clear hw3 hk3 hlh hx3 hls hS2 c1 hb2 hfz
  have hft : ∀ i', dfoot p { d with vs := d.vs.set i (.slice ao2 l'.length c2') } i' → dfoot p d i' ∨ w.heap.size ≤ i' := by
    rintro j (h | h | h | h | ⟨v', hv', hk'⟩)
    · exact Or.inl (Or.inl h)
    · exact Or.inl (Or.inr (Or.inl h))
    · exact Or.inl (Or.inr (Or.inr (Or.inl h)))
    · exact Or.inl (Or.inr (Or.inr (Or.inr (Or.inl h))))
    · rcases List.mem_or_eq_of_mem_set hv' with h | rfl
      · exact Or.inl (Or.inr (Or.inr (Or.inr (Or.inr ⟨v', h, hk'⟩))))
      · exact Or.inr (HGE.out _ hk')
  have HFT := Lib.hid hft
  have hkf : ∀ h' : Int, Kept (fun k => (∃ a, d.aL = some a ∧ a.block = k) ∨ (∃ a, d.aH = some a ∧ a.block = k)) w (w3.setCell ⟨gH, i, none⟩ (.int .i64 h')).drew := fun h' =>
    (Kept.set (S := fun k => (∃ a, d.aL = some a ∧ a.block = k) ∨ (∃ a, d.aH = some a ∧ a.block = k)) (HK3.out.mono (fun k _ e => Or.inl ⟨_, HE2.out, e.symm⟩)) (b := gH) i (Or.inl (Or.inr ⟨_, HE3.out, rfl⟩)) _).drew
  have HKF := Lib.hid hkf
  clear hft hkf
  have hm : mxi hi0 l'.length = max hi0 (l'.length : Int) := by unfold mxi; split <;> omega
  rw [hm] at HE
  clear hm
  go_still_tail 16, (by kernel_rfl)
  go_wp2
  go_ret
  rw [← HE.out]
  exact ⟨_, rfl, (HS2.out _).same ((Kept.refl _ _).drew), HKF.out _, HFT.out⟩
set_option maxRecDepth 100000 in
set_option maxHeartbeats 4000000 in
theorem put_first (q x : Int) {i : Nat} {e : En} (hs : IsD w p d st) (h : idx st q = some i) (hx : st[i]? = some e) (hf : ¬ e.2.1 ≤ e.2.2.2.length) : Calls Try.prog 33 #[.pointer (some ⟨p, 0, none⟩), .int .i64 q, .int .i64 x, .bool true] w fun e' w' =>
    ∃ d', e' = .returned (.int .i64 0) ∧ Dstep w w' p d d' (st.set i (e.1, e.2.1, mxi e.2.2.1 ((e.2.2.2.length : Int) + 1), x :: e.2.2.2)) := by
  obtain ⟨i0, hi, hz0, hz1, hz2⟩ := info_parts RI.info
  have hfi := find_ok q hs
  rw [fidx_some h] at hfi
  have c0 := hs.blk.cell 0 rfl
  have c1 := hs.blk.cell 1 rfl
  obtain ⟨gR, gL, gH, v, e1, e2, e3, hvs, hv, b0, b1, b2, _⟩ := hs.at hx
  have HE2 := Lib.hid e2
  have HE3 := Lib.hid e3
  rw [e1] at c0
  rw [e2] at c1
  obtain ⟨av, cv, rfl⟩ := hv.form
  have hii := (List.getElem?_eq_some_iff.1 hx).1
  have hk0 : (0 : Int) ≤ (i : Int) := by omega
  have hk1 : (i : Int) < (st.length : Int) := by omega
  have hcap := hs.idl hx
  have hcp := (hs.falls.cap e (List.mem_of_getElem? hx)).2
  have HX := Lib.hid hx
  obtain ⟨E, hE⟩ : ∃ E, st.set i (e.1, e.2.1, mxi e.2.2.1 ((e.2.2.2.length : Int) + 1), x :: e.2.2.2) = E := ⟨_, rfl⟩
  rw [hE]
  have HE := Lib.hid hE
  obtain ⟨pr, cp, hi0, l⟩ := e
  simp only at hf hcap hcp b0 b1 b2 hv ⊢
  have d1 : decide ((cp : Int) ≤ (l.length : Int)) = false := by simp; omega
  have HV := Lib.hid hv
  have HVS := Lib.hid hvs
  have HS := Lib.hid hs
  clear hs e1 e2 e3 hv hvs hx h hE
  go_enter Try.func33, Try.ntmps33
  go_wp2_with (go_at_call 40; refine hfi.mono ?_; rintro e w' ⟨rfl, rfl⟩)
  go_quiet (fail)
  clear d1
  go_wp2_with (at_builtin; refine wpList_append_any rfl (.tmp 34) (.tmp 36) 75 rfl 3 i0 (.int .i64 0) 1 8 Try.underlying75 hi hz0 hz1 hz2 rfl (by decide) none 0 0 [] rfl (World.ownsRow_nil _ _ _ _) _ 1 1 [.int .i64 x] rfl (shows_new _ [_] _ (by simp) rfl) (by simp [Value.oneCell']) (by unfold maxLen; omega) (by omega) ?_)
  intro ao1 c1' w1 r1 r2 r3
  try simp only [Nat.zero_add, List.nil_append] at r1 r3
  try rw [Nat.zero_add]
  have hk1 : Kept (fun _ => False) w w1 := (((Kept.refl (fun _ => False) w).drewN _).alloc (.cells #[.int .i64 x] 3)).grown r2 (fun k hk => by simp [Value.ownBlock] at hk)
  have hs1 := HS.out.same hk1
  have hv1 := HV.out.kept hk1 (fun _ _ x => x)
  have hge : ∀ g, (Value.slice ao1 1 c1').ownBlock = some g → w.heap.size ≤ g := fun g hg => (r3 g hg).elim (fun e => by cases e) (fun h => by first | omega | (simp at h; omega))
  have HS1 := Lib.hid hs1
  have HK1 := Lib.hid hk1
  have HG := Lib.hid hge
  have HR1 := Lib.hid r1
  have HV1 := Lib.hid hv1
  obtain ⟨gR', gL', gH', v', e1, e2, e3, hvs', hv', b0', b1', b2', _⟩ := hs1.at HX.out
  have c1 := hs1.blk.cell 1 rfl
  rw [HE2.out] at e2 c1
  cases e2
  have hve : v' = .slice av l.length cv := by have := hvs'.symm.trans HVS.out; cases this; rfl
  rw [hve] at b2'
  clear hs1 hk1 hge r1 r2 r3 c0 b0 b1 b2 hfi e1 e3 hvs' hv' b0' b1' hv1 hve
  go_wp2_with (at_builtin; refine wpList_append_any rfl (.tmp 38) (.tmp 45) 75 rfl 3 i0 (.int .i64 0) 1 8 Try.underlying75 hi hz0 hz1 hz2 rfl (by decide) _ _ _ [.int .i64 x] rfl HR1.out av l.length cv (l.map (Value.int .i64)) rfl (HV1.out.shows.heap (fun _ _ => rfl)) (ints_one l) (by unfold maxLen; omega) (by omega) ?_)
  intro ao2 c2' w2 r1 r2 r3
  obtain ⟨l', hl'⟩ : ∃ l', x :: l = l' := ⟨_, rfl⟩
  have hlen : 1 + l.length = l'.length := by rw [← hl']; simp; omega
  have hmap : Value.int .i64 x :: l.map (Value.int .i64) = l'.map (Value.int .i64) := by rw [← hl']; simp
  have hlen2 : (l.length : Int) + 1 = (l'.length : Int) := by omega
  rw [hmap, hlen] at r1
  rw [hlen] at r3 ⊢
  simp only [hl', hlen2] at HE
  have hk2 : Kept (fun k => (Value.slice ao1 1 c1').ownBlock = some k) w1 w2 := (Kept.refl _ _).grown r2 (fun k hk => Or.inl hk)
  have hge2 : ∀ g, (Value.slice ao2 l'.length c2').ownBlock = some g → w.heap.size ≤ g := fun g hg => (r3 g hg).elim (HG.out g) (fun e => by have := HK1.out.size; first | omega | (simp at e; omega))
  have hkk : Kept (fun _ => False) w w2 := HK1.out.then hk2 (fun i hi => Or.inr (HG.out i hi))
  have hs2 := HS.out.same hkk
  have hlv := LV.row r1
  have hn' : l'.length ≤ cp := by omega
  have hne : ∀ k, (Value.slice ao2 l'.length c2').ownBlock = some k → (Value.slice d.aH st.length d.cH).ownBlock ≠ some k := fun k hk e => by
    have h1 := hge2 k hk
    have h2 := row_lt HS.out.highs e
    omega
  have hset := hs2.setL (e' := (pr, cp, hi0, l')) (v' := .slice ao2 l'.length c2') HX.out HE2.out rfl rfl rfl hn' hlv hne
  have c1 := hs2.blk.cell 1 rfl
  rw [HE2.out] at c1
  have hlr := hs2.lists
  rw [HE2.out] at hlr
  have hfz := row_frozen hlr i
  have hb2 := row_cell hlr i HVS.out
  have HSET := Lib.hid hset
  have HKK := Lib.hid hkk
  have HGE := Lib.hid hge2
  clear hs2 hset hlr hlv hge2 r1 r2 r3 hkk hk2 hlen2 hmap hl' hlen hne
  go_upto_region 13 with fail
  obtain ⟨w3, hw3⟩ : ∃ w3, w2.setCell ⟨gL, i, none⟩ (.slice ao2 l'.length c2') = w3 := ⟨_, rfl⟩
  rw [hw3] at HSET ⊢
  have hk3 : Kept (fun k => k = gL) w w3 := by rw [← hw3]; exact Kept.set (S := fun k => k = gL) (HKK.out.mono (fun _ _ x => x.elim)) (b := gL) i (Or.inl rfl) _
  have c3 := HSET.out.blk.cell 2 rfl
  simp only [HE3.out] at c3
  have hlh := HSET.out.highs
  simp only [HE3.out] at hlh
  have hx3 : (st.set i (pr, cp, hi0, l'))[i]? = some (pr, cp, hi0, l') := by rw [List.getElem?_set_self hii]
  have hb3 := row_cell hlh i (u := .int .i64 hi0) (by rw [List.getElem?_map, hx3]; rfl)
  have hfz3 := row_frozen hlh i
  have hls : (st.set i (pr, cp, hi0, l')).length = st.length := List.length_set
  rw [hls] at c3
  have hS2 := fun h' : Int => HSET.out.setH (e' := (pr, cp, h', l')) hx3 HE3.out rfl rfl rfl
  simp only [List.set_set] at hS2
  have HS2 := Lib.hid hS2
  have HK3 := Lib.hid hk3
  clear hw3 hk3 hlh hx3 hls hS2 c1 hb2 hfz
  have hft : ∀ i', dfoot p { d with vs := d.vs.set i (.slice ao2 l'.length c2') } i' → dfoot p d i' ∨ w.heap.size ≤ i' := by
    rintro j (h | h | h | h | ⟨v', hv', hk'⟩)
    · exact Or.inl (Or.inl h)
    · exact Or.inl (Or.inr (Or.inl h))
    · exact Or.inl (Or.inr (Or.inr (Or.inl h)))
    · exact Or.inl (Or.inr (Or.inr (Or.inr (Or.inl h))))
    · rcases List.mem_or_eq_of_mem_set hv' with h | rfl
      · exact Or.inl (Or.inr (Or.inr (Or.inr (Or.inr ⟨v', h, hk'⟩))))
      · exact Or.inr (HGE.out _ hk')
  have HFT := Lib.hid hft
  have hkf : ∀ h' : Int, Kept (fun k => (∃ a, d.aL = some a ∧ a.block = k) ∨ (∃ a, d.aH = some a ∧ a.block = k)) w (w3.setCell ⟨gH, i, none⟩ (.int .i64 h')).drew := fun h' =>
    (Kept.set (S := fun k => (∃ a, d.aL = some a ∧ a.block = k) ∨ (∃ a, d.aH = some a ∧ a.block = k)) (HK3.out.mono (fun k _ e => Or.inl ⟨_, HE2.out, e.symm⟩)) (b := gH) i (Or.inl (Or.inr ⟨_, HE3.out, rfl⟩)) _).drew
  have HKF := Lib.hid hkf
  clear hft hkf
  have hm : mxi hi0 l'.length = max hi0 (l'.length : Int) := by unfold mxi; split <;> omega
  rw [hm] at HE
  clear hm
  go_still_tail 16, (by kernel_rfl)
  go_wp2
  go_ret
  rw [← HE.out]
  exact ⟨_, rfl, (HS2.out _).same ((Kept.refl _ _).drew), HKF.out _, HFT.out⟩

theorem put_ok (q x : Int) (hd : Bool) (hs : IsD w p d st) : Calls Try.prog 33 #[.pointer (some ⟨p, 0, none⟩), .int .i64 q, .int .i64 x, .bool hd] w fun e' w' =>
    ∃ d', e' = .returned (.int .i64 (putQ st q x hd).2) ∧ Dstep w w' p d d' (putQ st q x hd).1 := by
  cases h : idx st q with
  | none =>
    rw [putQ_none h]
    refine (put_none q x hd hs h).mono ?_
    rintro e w' ⟨rfl, rfl⟩
    exact ⟨d, rfl, hs.dstep (Kept.refl _ _)⟩
  | some i =>
    obtain ⟨e, he, _, _⟩ := idx_some h
    rw [putQ_some h he]
    by_cases hf : e.2.1 ≤ e.2.2.2.length
    · rw [if_pos hf]
      refine (put_full q x hd hs h he hf).mono ?_
      rintro e w' ⟨rfl, n, rfl⟩
      exact ⟨d, rfl, hs.dstep ((Kept.refl _ _).drewN n)⟩
    · rw [if_neg hf]
      cases hd with
      | false => exact put_last q x hs h he hf
      | true => exact put_first q x hs h he hf
theorem tail_ok (q x : Int) (hs : IsD w p d st) : Calls Try.prog 11 #[.pointer (some ⟨p, 0, none⟩), .int .i64 q, .int .i64 x] w fun e' w' =>
    ∃ d', e' = .returned (.int .i64 (putQ st q x false).2) ∧ Dstep w w' p d d' (putQ st q x false).1 := by
  have hp := put_ok q x false hs
  go_enter Try.func11, Try.ntmps11
  go_wp2_with (go_at_call 33; refine hp.mono ?_; rintro e w' ⟨d', rfl, hq⟩)
  go_ret
  exact ⟨d', rfl, hq⟩
theorem head_ok (q x : Int) (hs : IsD w p d st) : Calls Try.prog 22 #[.pointer (some ⟨p, 0, none⟩), .int .i64 q, .int .i64 x] w fun e' w' =>
    ∃ d', e' = .returned (.int .i64 (putQ st q x true).2) ∧ Dstep w w' p d d' (putQ st q x true).1 := by
  have hp := put_ok q x true hs
  go_enter Try.func22, Try.ntmps22
  go_wp2_with (go_at_call 33; refine hp.mono ?_; rintro e w' ⟨d', rfl, hq⟩)
  go_ret
  exact ⟨d', rfl, hq⟩
end
end Go.Proofs.Ytdjdnfjfomeldaa.DQ
