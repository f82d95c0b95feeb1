/- The document's queue: one row's list or high is set; Clear, Take. -/
import Derived.Test.YtdjdnfjfomeldaaRdyF
namespace Go.Proofs.Ytdjdnfjfomeldaa.DQ
open Go.RowKit Go.Fr Go.Rq Go.Shelf
open Go.Proofs.Ytdjdnfjfomeldaa.QD (encQ infoQ row_ne_blk highest highest_none highest_some)
attribute [local go_sem] Oper.semAt_some

theorem flat_same {f : En → List Value} {e e' : En} (hf : f e' = f e) : ∀ {st : List En} {i : Nat}, st[i]? = some e → (st.set i e').flatMap f = st.flatMap f
  | [], i, h => by simp at h
  | a :: st, 0, h => by simp at h; subst h; simp [hf]
  | a :: st, i + 1, h => by
    rw [List.set_cons_succ, List.flatMap_cons, List.flatMap_cons, flat_same hf (by simpa using h)]

theorem row_ne_row {w : World} {e e' : TypeId} {sz sz' n n' : Nat} {v v' : Value} {xs xs' : List Value} (hne : e ≠ e') (h : Row w e sz v n xs) (h' : Row w e' sz' v' n' xs') {k : Nat} (hk : v.ownBlock = some k) : v'.ownBlock ≠ some k := fun ho => by
  rcases h.2 with ⟨rfl, _⟩ | ⟨g, cap, cur, rfl, _, hh, _⟩
  · simp [Value.ownBlock] at hk
  rcases h'.2 with ⟨rfl, _⟩ | ⟨g', cap', cur', rfl, _, hh', _⟩
  · simp [Value.ownBlock] at ho
  simp [Value.ownBlock] at hk ho
  subst hk
  subst ho
  rw [hh'] at hh
  simp at hh
  exact hne hh.2.symm
theorem LV.ne_row {w : World} {e' : TypeId} {sz' n' : Nat} {v v' : Value} {l : List Int} {xs' : List Value} (hne : 3 ≠ e') (h : LV w v l) (h' : Row w e' sz' v' n' xs') {k : Nat} (hk : v.ownBlock = some k) : v'.ownBlock ≠ some k := fun ho => by
  obtain ⟨cs, f, hh⟩ := h.lt hk
  rcases h'.2 with ⟨rfl, _⟩ | ⟨g', cap', cur', rfl, _, hh', _⟩
  · simp [Value.ownBlock] at ho
  simp [Value.ownBlock] at ho
  subst ho
  rw [hh'] at hh
  simp at hh
  exact hne hh.2.1.symm

section
variable {w : World} {p : Nat} {d : Dd} {st : List En}

/-- one row's list is set -/
theorem IsD.setL (hs : IsD w p d st) {i gL : Nat} {e e' : En} {v' : Value} (hx : st[i]? = some e) (hg : d.aL = some ⟨gL, 0, none⟩) (h1 : e'.1 = e.1) (h2 : e'.2.1 = e.2.1) (h3 : e'.2.2.1 = e.2.2.1) (h4 : e'.2.2.2.length ≤ e'.2.1)
    (hv : LV w v' e'.2.2.2) (hne : ∀ k, v'.ownBlock = some k → (Value.slice d.aH st.length d.cH).ownBlock ≠ some k) :
    IsD (w.setCell ⟨gL, i, none⟩ v') p { d with vs := d.vs.set i v' } (st.set i e') := by
  have hl := hs.lists
  have hi := (List.getElem?_eq_some_iff.1 hx).1
  rw [hg] at hl
  have o1 : (Value.slice d.aR st.length d.cR).ownBlock ≠ some gL := fun h => row_ne_row (by decide) hl hs.rows (k := gL) rfl h
  have o2 : (Value.slice d.aH st.length d.cH).ownBlock ≠ some gL := fun h => row_ne_row (by decide) hl hs.highs (k := gL) rfl h
  have o3 : gL ≠ p := fun h => row_ne_blk (by decide) hl hs.blk (by rw [← h]; rfl)
  have o4 : ∀ {v : Value} {l : List Int}, LV w v l → LV (w.setCell ⟨gL, i, none⟩ v') v l := fun {v l} h => h.heap (fun g hg' => Below.heap_setCell _ ⟨gL, i, none⟩ _ _ (fun e => (h.ne_row (by decide) hl hg') (by rw [e]; rfl)))
  refine ⟨?_, ?_, ?_, ?_, ?_, ?_, hs.falls.set hx h1 h2 h4⟩
  · rw [List.length_set]; exact hs.blk.other (p := ⟨gL, i, none⟩) o3 _
  · rw [List.length_set, flat_same (by unfold encR; rw [h1, h2]) hx]; exact row_setCell_other hs.rows (a := ⟨gL, i, none⟩) o1 _
  · rw [List.length_set, hg]; exact row_set hl i v'
  · rw [List.length_set, List.map_set]
    have : (st.map encH).set i (encH e') = st.map encH := by
      refine List.ext_getElem? fun j => ?_
      rw [List.getElem?_set]
      split
      · rename_i hij
        subst hij
        rw [if_pos (by simpa using hi), List.getElem?_map, hx]
        simp [encH, h3]
      · rfl
    rw [this]; exact row_setCell_other hs.highs (a := ⟨gL, i, none⟩) o2 _
  · intro j a v ha hvj
    rw [List.getElem?_set] at ha hvj
    by_cases hij : i = j
    · subst hij
      rw [if_pos rfl, if_pos hi] at ha
      rw [if_pos rfl, if_pos (by rw [hs.vlen]; exact hi)] at hvj
      cases ha; cases hvj
      exact o4 hv
    · rw [if_neg hij] at ha hvj
      exact o4 (hs.shown j a v ha hvj)
  · intro v hvm k hk
    rw [List.length_set]
    rcases List.mem_or_eq_of_mem_set hvm with h | rfl
    · exact hs.apart v h k hk
    · exact hne k hk

/-- one row's high is set -/
theorem IsD.setH (hs : IsD w p d st) {i gH : Nat} {e e' : En} (hx : st[i]? = some e) (hg : d.aH = some ⟨gH, 0, none⟩) (h1 : e'.1 = e.1) (h2 : e'.2.1 = e.2.1) (h3 : e'.2.2.2 = e.2.2.2) :
    IsD (w.setCell ⟨gH, i, none⟩ (.int .i64 e'.2.2.1)) p d (st.set i e') := by
  have hl := hs.highs
  have hi := (List.getElem?_eq_some_iff.1 hx).1
  rw [hg] at hl
  have o1 : (Value.slice d.aR st.length d.cR).ownBlock ≠ some gH := fun h => row_ne_row (by decide) hl hs.rows (k := gH) rfl h
  have o2 : (Value.slice d.aL st.length d.cL).ownBlock ≠ some gH := fun h => row_ne_row (by decide) hl hs.lists (k := gH) rfl h
  have o3 : gH ≠ p := fun h => row_ne_blk (by decide) hl hs.blk (by rw [← h]; rfl)
  refine ⟨?_, ?_, ?_, ?_, ?_, ?_, hs.falls.set hx h1 h2 (by rw [h3, h2]; exact hs.falls.len e (List.mem_of_getElem? hx))⟩
  · rw [List.length_set]; exact hs.blk.other (p := ⟨gH, i, none⟩) o3 _
  · rw [List.length_set, flat_same (by unfold encR; rw [h1, h2]) hx]; exact row_setCell_other hs.rows (a := ⟨gH, i, none⟩) o1 _
  · rw [List.length_set]; exact row_setCell_other hs.lists (a := ⟨gH, i, none⟩) o2 _
  · rw [List.length_set, List.map_set, hg]; exact row_set hl i _
  · intro j a v ha hvj
    have hap := hs.apart v (List.mem_of_getElem? hvj)
    rw [hg] at hap
    have o4 : ∀ {l : List Int}, LV w v l → LV (w.setCell ⟨gH, i, none⟩ (.int .i64 e'.2.2.1)) v l := fun h => h.heap (fun g hg' => Below.heap_setCell _ ⟨gH, i, none⟩ _ _ (fun e => hap g hg' (by rw [e]; rfl)))
    rw [List.getElem?_set] at ha
    by_cases hij : i = j
    · subst hij
      rw [if_pos rfl, if_pos hi] at ha
      cases ha
      rw [h3]
      exact o4 (hs.shown i e v hx hvj)
    · rw [if_neg hij] at ha
      exact o4 (hs.shown j a v ha hvj)
  · intro v hvm k hk
    rw [List.length_set]
    exact hs.apart v hvm k hk

def nilE (e : En) : En := (e.1, e.2.1, e.2.2.1, [])
def clearK (st : List En) (k : Nat) : List En := (st.take k).map nilE ++ st.drop k
theorem clearK_zero (st : List En) : clearK st 0 = st := by simp [clearK]
theorem clearK_all (st : List En) : clearK st st.length = clearQ st := by simp [clearK, clearQ, nilE]
theorem clearK_at {k : Nat} {e : En} (hx : st[k]? = some e) : (clearK st k)[k]? = some e := by
  have hk := (List.getElem?_eq_some_iff.1 hx).1
  unfold clearK
  rw [List.getElem?_append_right (by simp; omega)]
  simp [List.length_take, Nat.min_eq_left (Nat.le_of_lt hk), hx]
theorem clearK_succ {k : Nat} {e : En} (hx : st[k]? = some e) : clearK st (k + 1) = (clearK st k).set k (nilE e) := by
  have hk := (List.getElem?_eq_some_iff.1 hx).1
  unfold clearK
  rw [List.set_append_right k (nilE e) (by simp; omega)]
  have h0 : k - ((st.take k).map nilE).length = 0 := by simp [Nat.min_eq_left (Nat.le_of_lt hk)]
  rw [h0, List.take_add_one, hx, List.map_append]
  have hd : st.drop k = e :: st.drop (k + 1) := by
    rw [List.drop_eq_getElem_cons hk, (List.getElem?_eq_some_iff.1 hx).2]
  rw [hd]
  simp
theorem clearK_len (st : List En) (k : Nat) : (clearK st k).length = st.length := by
  unfold clearK
  rw [List.length_append, List.length_map, ← List.length_append, List.take_append_drop]

/-- one step of a call on the document's queue: its blocks of rows and highs are written alone -/
structure Dstep (w w' : World) (p : Nat) (d d' : Dd) (st' : List En) : Prop where
  q : IsD w' p d' st'
  kept : Kept (fun k => (∃ a, d.aL = some a ∧ a.block = k) ∨ (∃ a, d.aH = some a ∧ a.block = k)) w w'
  foot : ∀ i, dfoot p d' i → dfoot p d i ∨ w.heap.size ≤ i
theorem Dstep.same {w' wf : World} {d' : Dd} {st' : List En} (h : Dstep w w' p d d' st') (k : Kept (fun _ => False) w' wf) : Dstep w wf p d d' st' :=
  ⟨h.q.same k, h.kept.then k (fun _ x => x.elim), h.foot⟩
theorem IsD.dstep {w' : World} (hs : IsD w p d st) (k : Kept (fun _ => False) w w') : Dstep w w' p d d st := ⟨hs.same k, k.mono (fun _ _ x => x.elim), fun _ h => Or.inl h⟩

set_option maxRecDepth 100000 in
set_option maxHeartbeats 4000000 in
theorem clear_ok (hs : IsD w p d st) : Calls Try.prog 24 #[.pointer (some ⟨p, 0, none⟩)] w fun e w' =>
    ∃ d', e = .returned (.int .i64 (allQ st).length) ∧ Dstep w w' p d d' (clearQ st) := by
  have hln := hs.hln
  have hal := all_ok hs
  have hlq := allQ_le hs.falls
  obtain ⟨L, hL⟩ : ∃ L, (allQ st).length = L := ⟨_, rfl⟩
  rw [hL] at hlq
  simp only [hL] at hal ⊢
  have HS := Lib.hid hs
  clear hs
  go_enter Try.func24, Try.ntmps24
  go_upto_region 2 with (go_at_call 12; refine hal.mono ?_; rintro e w1 ⟨ao, c, rfl, _, _, k1⟩)
  have D0 : Hid (Dstep w w1 p d d (clearK st 0)) := by rw [clearK_zero]; exact HS.out.dstep k1
  clear k1 hal hL
  go_wp2
  go_loopw [4] (fun i wr => ∃ (k : Nat) (d' : Dd), k ≤ st.length ∧ i = .int .i64 k ∧ d'.aL = d.aL ∧ d'.aH = d.aH ∧ d'.aR = d.aR ∧ Hid (Dstep w wr p d d' (clearK st k))) (fun i _ => st.length - (intOf i).toNat)
  case atStart => exact ⟨0, d, Nat.zero_le _, rfl, rfl, rfl, rfl, D0⟩
  case round =>
    clear D0
    obtain ⟨k, d', hk, rfl, hdL, hdH, hdR, hD⟩ := hrel
    have c1 := hD.out.q.blk.cell 1 rfl
    rw [clearK_len] at c1
    by_cases hkl : k < st.length
    · obtain ⟨e, hx⟩ : ∃ e, st[k]? = some e := ⟨_, List.getElem?_eq_getElem hkl⟩
      have hk0 : (0 : Int) ≤ (k : Int) := by omega
      have hk1 : (k : Int) < (st.length : Int) := by omega
      have hxk := clearK_at hx
      obtain ⟨gR, gL, gH, v, e1, e2, e3, hvv, hv, b1, _, b2, _⟩ := hD.out.q.at hxk
      have hlr := hD.out.q.lists
      rw [e2] at c1 hlr
      have hfz := row_frozen hlr k
      have hset := hD.out.q.setL (e' := nilE e) (v' := .slice none 0 0) hxk e2 rfl rfl rfl (by simp [nilE]) (Or.inl ⟨rfl, rfl⟩) (by simp [Value.ownBlock])
      rw [← clearK_succ hx] at hset
      have hst : Hid (Dstep w (wr.setCell ⟨gL, k, none⟩ (.slice none 0 0)) p d { d' with vs := d'.vs.set k (.slice none 0 0) } (clearK st (k + 1))) := by
        refine ⟨hset, hD.out.kept.set (b := gL) k (Or.inl (Or.inl ⟨⟨gL, 0, none⟩, by rw [← hdL]; exact e2, rfl⟩)) _, fun i hi => hD.out.foot i ?_⟩
        rcases hi with h | h | h | h | ⟨v', hv', hk'⟩
        · exact Or.inl h
        · exact Or.inr (Or.inl h)
        · exact Or.inr (Or.inr (Or.inl h))
        · exact Or.inr (Or.inr (Or.inr (Or.inl h)))
        · rcases List.mem_or_eq_of_mem_set hv' with h | rfl
          · exact Or.inr (Or.inr (Or.inr (Or.inr ⟨v', h, hk'⟩)))
          · simp [Value.ownBlock] at hk'
      have HL := Lib.hid hdL
      have HH := Lib.hid hdH
      have HR := Lib.hid hdR
      clear hset hxk hx e1 e2 e3 hlr hdL hdH hdR hD
      go_wp2
      go_roundw
      case rel => exact ⟨k + 1, { d' with vs := d'.vs.set k (.slice none 0 0) }, by omega, by go_num, HL.out, HH.out, HR.out, hst⟩
      case measure => simp [intOf]; omega
    · obtain rfl : k = st.length := by omega
      rw [clearK_all] at hD
      have HD := Lib.hid hD.out
      clear hD hdL hdH hdR
      go_wp2
      go_ret
      exact ⟨_, rfl, HD.out⟩

/-- the list without its first -/
theorem LV.tail {v : Value} {x : Int} {l : List Int} (h : LV w v (x :: l)) : ∃ g o c o', v = .slice (some ⟨g, o, none⟩) (l.length + 1) c ∧ l.length + 1 ≤ c ∧ w.cell? ⟨g, o, none⟩ = some (.int .i64 x) ∧ LV w (.slice (some ⟨g, o', none⟩) l.length (c - 1)) l ∧
    ∀ w : World, (Instr.sliceAt 75 (.slice (some ⟨g, o, none⟩) (l.length + 1) c) (some (.int .i64 1)) none none).run Try.prog w = .ok (.slice (some ⟨g, o', none⟩) l.length (c - 1)) w := by
  rcases h with ⟨_, h0⟩ | ⟨g, o, c, rfl, h1, h2, h3⟩
  · cases h0
  · simp only [List.length_cons] at h1
    refine ⟨g, o, c, if c = 1 then o else o + 1, rfl, h1, h3 0 x rfl, Or.inr ⟨g, _, c - 1, rfl, by omega, h2, fun j y hy => ?_⟩, fun w => ?_⟩
    · have hl : 0 < l.length := by have := (List.getElem?_eq_some_iff.1 hy).1; omega
      rw [if_neg (show ¬ c = 1 by omega), show o + 1 + j = o + (j + 1) by omega]
      exact h3 (j + 1) y (by simpa using hy)
    · have hs : (sizeOf (Try.prog.elem 75)).run Try.prog w = .ok 1 w := by kernel_rfl
      have hi : Try.prog.underlying 75 = some (.slice (Try.prog.elem 75)) := by kernel_rfl
      rw [run_sliceAt_slice (h := hi), run_slice_l (ht := hi) (kl := .i64) (l := 1) (h0 := by omega) (h1 := by omega), hs]
      by_cases hc : c = 1
      · simp [Result.andThen, sliced, hc]
      · simp [Result.andThen, sliced, hc, Addr.add]
end
end Go.Proofs.Ytdjdnfjfomeldaa.DQ
