/- The document's queue: All, Clear. -/
import Derived.Test.YtdjdnfjfomeldaaRdyE
namespace Go.Proofs.Ytdjdnfjfomeldaa.DQ
open Go.RowKit Go.Fr Go.Rq Go.Shelf
open Go.Proofs.Ytdjdnfjfomeldaa.QD (encQ infoQ)
attribute [local go_sem] Oper.semAt_some

section
variable {w : World} {p : Nat} {d : Dd} {st : List En}
theorem allQ_snoc {k : Nat} {e : En} (hx : st[k]? = some e) : allQ (st.take (k + 1)) = allQ (st.take k) ++ e.2.2.2.map (fun x => ((e.1 : Int), x)) := by
  unfold allQ
  rw [List.take_add_one, hx, Option.toList_some, List.flatMap_append]
  simp
theorem allQ_take_le (_ : Falls st) (k : Nat) : (allQ (st.take k)).length ≤ (allQ st).length := by
  have h : allQ st = allQ (st.take k) ++ allQ (st.drop k) := by
    unfold allQ
    rw [← List.flatMap_append, List.take_append_drop]
  rw [h, List.length_append]; omega
/-- the ids told so far -/
def upTo (st : List En) (k j : Nat) (e : En) : List (Int × Int) := allQ (st.take k) ++ (e.2.2.2.take j).map (fun x => ((e.1 : Int), x))
theorem upTo_zero (k : Nat) (e : En) : upTo st k 0 e = allQ (st.take k) := by simp [upTo]
theorem upTo_all {k : Nat} {e : En} (hx : st[k]? = some e) : upTo st k e.2.2.2.length e = allQ (st.take (k + 1)) := by rw [allQ_snoc hx, upTo, List.take_length]
theorem upTo_succ (k : Nat) {j : Nat} {e : En} {x : Int} (hj : e.2.2.2[j]? = some x) : upTo st k (j + 1) e = upTo st k j e ++ [((e.1 : Int), x)] := by
  unfold upTo
  rw [List.take_add_one, hj, List.append_assoc]; simp
theorem upTo_le (hF : Falls st) {k j : Nat} {e : En} (hx : st[k]? = some e) : (upTo st k j e).length ≤ 4194304 := by
  have h1 := allQ_take_le hF (k + 1)
  rw [allQ_snoc hx] at h1
  have h2 := allQ_le hF
  simp only [upTo, List.length_append, List.length_map, List.length_take] at h1 ⊢
  omega

/-- what the call has built -/
structure Bld (w wr : World) (p : Nat) (d : Dd) (st : List En) (ao : Option Addr) (c : Nat) (O : List (Int × Int)) : Prop where
  row : Row wr 40 2 (.slice ao O.length c) O.length (O.flatMap encQ)
  own : ∀ g, (Value.slice ao O.length c).ownBlock = some g → w.heap.size ≤ g
  kept : Kept (fun _ => False) w wr
  q : IsD wr p d st
theorem Bld.same {wr wf : World} {ao : Option Addr} {c : Nat} {O : List (Int × Int)} (h : Bld w wr p d st ao c O) (k : Kept (fun _ => False) wr wf) : Bld w wf p d st ao c O :=
  ⟨row_kept h.row k (fun _ _ x => x), h.own, h.kept.then k (fun _ x => x.elim), h.q.same k⟩

set_option maxRecDepth 100000 in
set_option maxHeartbeats 4000000 in
theorem all_ok (hs : IsD w p d st) : Calls Try.prog 12 #[.pointer (some ⟨p, 0, none⟩)] w fun e w' =>
    ∃ ao c, e = .returned (.slice ao (allQ st).length c) ∧ Row w' 40 2 (.slice ao (allQ st).length c) (allQ st).length ((allQ st).flatMap encQ) ∧ (∀ g, (Value.slice ao (allQ st).length c).ownBlock = some g → w.heap.size ≤ g) ∧ Kept (fun _ => False) w w' := by
  obtain ⟨i0, hi, hz0, hz1, hz2⟩ := info_parts infoQ
  have hln := hs.hln
  have hF := Lib.hid hs.falls
  have hQ := Lib.hid hs
  have B0 : Hid (Bld w w p d st none 0 []) := ⟨World.ownsRow_nil _ _ _ _, by simp [Value.ownBlock], Kept.refl _ _, hs⟩
  clear hs
  go_enter Try.func12, Try.ntmps12
  go_wp2
  go_loopw [3, 4] (fun l i wr => ∃ (k : Nat) (ao : Option Addr) (c : Nat), k ≤ st.length ∧ i = .int .i64 k ∧ l = .slice ao (allQ (st.take k)).length c ∧ Hid (Bld w wr p d st ao c (allQ (st.take k)))) (fun _ i _ => st.length - (intOf i).toNat)
  case atStart => exact ⟨0, none, 0, Nat.zero_le _, rfl, rfl, B0⟩
  case round =>
    clear B0
    obtain ⟨k, ao, c, hk, rfl, rfl, hB⟩ := hrel
    have c0 := hB.out.q.blk.cell 0 rfl
    have c1 := hB.out.q.blk.cell 1 rfl
    by_cases hkl : k < st.length
    · obtain ⟨e, hx⟩ : ∃ e, st[k]? = some e := ⟨_, List.getElem?_eq_getElem hkl⟩
      have hk0 : (0 : Int) ≤ (k : Int) := by omega
      have hk1 : (k : Int) < (st.length : Int) := by omega
      have hel := hB.out.q.idl hx
      have hup := fun j => upTo_le hF.out hx (j := j)
      have hua := upTo_all hx
      rw [← upTo_zero k e] at hB ⊢
      go_wp2
      go_loopw [3, 5] (fun l i wx => ∃ (j : Nat) (ao : Option Addr) (c : Nat), j ≤ e.2.2.2.length ∧ i = .int .i64 j ∧ l = .slice ao (upTo st k j e).length c ∧ Hid (Bld w wx p d st ao c (upTo st k j e))) (fun _ i _ => e.2.2.2.length - (intOf i).toNat)
      case atStart => exact ⟨0, ao, c, Nat.zero_le _, rfl, rfl, hB⟩
      case round =>
        clear hB c0 c1
        obtain ⟨j, ao, c, hj, rfl, rfl, hB⟩ := hrel
        have c0 := hB.out.q.blk.cell 0 rfl
        have c1 := hB.out.q.blk.cell 1 rfl
        obtain ⟨gR, gL, gH, v, e1, e2, _, _, hv, b1, _, b2, _⟩ := hB.out.q.at hx
        rw [e1] at c0
        rw [e2] at c1
        clear e1 e2
        by_cases hjl : j < e.2.2.2.length
        · obtain ⟨x, hxj⟩ : ∃ x, e.2.2.2[j]? = some x := ⟨_, List.getElem?_eq_getElem hjl⟩
          rcases hv with ⟨_, h0⟩ | ⟨g, o, cv, rfl, hcv, _, hcc⟩
          · rw [h0] at hjl; simp at hjl
          have hc3 := hcc j x hxj
          have hus := upTo_succ k (st := st) hxj
          have hj0 : (0 : Int) ≤ (j : Int) := by omega
          have hj1 : (j : Int) < (e.2.2.2.length : Int) := by omega
          have hul := hup j
          obtain ⟨O, hO⟩ : ∃ O, upTo st k j e = O := ⟨_, rfl⟩
          rw [hO] at hus hB hul ⊢
          have HU := Lib.hid hus
          clear hus hO hcc hx hxj hup hua
          have hone : ∀ u ∈ encQ ((e.1 : Int), x), u.oneCell' = true := by intro u hu; simp only [encQ, encKK, List.mem_cons, List.not_mem_nil, or_false] at hu; rcases hu with rfl | rfl <;> rfl
          go_wp2
          refine wp_region_noPanic ?_
          go_region_law (refine step_append_any (by rfl) (.tmp 27) (.tmp 47) 34 (by rfl) 40 i0 (.agg #[.int .i64 0, .int .i64 0]) 2 16 Try.underlying34 hi hz0 hz1 hz2 (by rfl) (by decide) ao O.length c (O.flatMap encQ) (by simp [Act.eval]) (row_alloc hB.out.row _) (some ⟨wr.heap.size, 0, none⟩) 1 1 (encQ ((e.1 : Int), x)) (by simp [Act.eval]) (shows_new _ _ _ (by simp) (by rfl)) hone (by unfold maxLen; omega) (by omega) ?_; intro ao3 c3 wc r1 r2 r3)
          all_goals
            refine NoPanic.normal ?_
            have hb3 : Hid (Bld w wc p d st ao3 c3 (upTo st k (j + 1) e)) := by
              rw [HU.out]
              have kc : Kept (fun i => (Value.slice ao O.length c).ownBlock = some i) wr wc := (((Kept.refl _ wr).alloc _).drew).grown r2 (fun i e => Or.inl e)
              have hk2 := hB.out.kept.then kc (fun i hi => Or.inr (hB.out.own i hi))
              have hl : (O ++ [((e.1 : Int), x)]).length = O.length + 1 := by simp
              refine ⟨?_, ?_, hk2, hQ.out.same hk2⟩
              · rw [hl, List.flatMap_append]; exact r1
              · rw [hl]
                intro g hg
                rcases r3 g hg with h | h
                · exact hB.out.own g h
                · have h2 : (wr.alloc (.cells (encQ ((e.1 : Int), x)).toArray 40)).heap.size ≤ g := h
                  rw [World.size_alloc] at h2
                  have := hB.out.kept.size; omega
            have hl3 : (upTo st k (j + 1) e).length = O.length + 1 := by rw [HU.out]; simp
            have HL := Lib.hid hl3
            clear r1 r2 r3 hB hl3
            go_wp2
            go_roundw
            case rel => exact ⟨j + 1, _, _, by omega, by go_num, by rw [HL.out], hb3.out.same (by exact (Kept.refl (fun _ => False) _).same rfl rfl rfl rfl)⟩
            case measure => simp [intOf]; omega
        · obtain rfl : j = e.2.2.2.length := by omega
          rw [hua] at hB ⊢
          obtain ⟨av, cv, rfl⟩ := hv.form
          have HB := Lib.hid hB.out
          clear hx hup hua hB
          go_wp2
          go_roundw
          case rel => exact ⟨k + 1, _, _, by omega, by go_num, rfl, HB.out⟩
          case measure => simp [intOf]; omega
    · obtain rfl : k = st.length := by omega
      rw [List.take_length] at hB ⊢
      have HB := Lib.hid hB.out
      clear hB
      go_wp2
      go_ret
      exact ⟨_, _, rfl, HB.out.row, HB.out.own, HB.out.kept⟩
end
end Go.Proofs.Ytdjdnfjfomeldaa.DQ
