/- The document's clock: Tick. -/
import Derived.Test.YtialldmepphloaaCkT
import Derived.StillTailTactics
namespace Go.Proofs.Ytialldmepphloaa.CR
open Go.RowKit Go.Fr Go.Proofs.Ytialldmepphloaa.CK

theorem rnext_ok (g n : Nat) (hg : g ≤ 4294967295) (hn : n ≤ 4294967295) (w : World) :
    Calls Try.prog 13 #[.int .u32 g, .int .u32 n] w fun e w' => e = .returned (.int .u32 (after g n 1)) ∧ ∃ k, w' = w.drewN k := by
  go_enter Try.func13, Try.ntmps13
  go_wp2_with fail
  refine (rafter_ok g n 1 hg hn (by decide) w).mono ?_
  rintro e w1 ⟨rfl, k, rfl⟩
  go_wp2
  go_ret
  exact ⟨rfl, k, rfl⟩

section
variable {w : World} {b : Nat} {v : Value} {nm : ByteArray} {bs m n x : Nat} {l : List (Bool × Nat × Nat)}

theorem IsRef.setValue {x' : Nat} (hs : IsRef w b v nm bs m n x l) : IsRef (w.setCell ⟨b, 5, none⟩ (.int .u32 x')) b v nm bs m n x' l :=
  ⟨hs.1.set 5 _, row_setCell_other hs.2.1 hs.2.2 _, hs.2.2⟩
theorem IsRef.putA {g c k N : Nat} {a : Bool × Nat × Nat} (a' : Bool × Nat × Nat) (hN : l.length = N) (hs : IsRef w b (.slice (some ⟨g, 0, none⟩) N c) nm bs m n x l) (h : l[k]? = some a) :
    IsRef (((w.setCell ⟨g, k * 3, none⟩ (.bool a'.1)).setCell ⟨g, k * 3 + 1, none⟩ (.int .u64 a'.2.1)).setCell ⟨g, k * 3 + 2, none⟩ (.int .u32 a'.2.2)) b (.slice (some ⟨g, 0, none⟩) N c) nm bs m n x (l.set k a') := by
  have hg : g ≠ b := fun e => hs.2.2 (by rw [← e]; rfl)
  subst hN
  exact ⟨((hs.1.other (p := ⟨g, k * 3, none⟩) hg _).other (p := ⟨g, k * 3 + 1, none⟩) hg _).other (p := ⟨g, k * 3 + 2, none⟩) hg _, by rw [List.length_set]; exact rowa_set a' hs.2.1 h, hs.2.2⟩

/-- the tick under way -/
structure Ticks (w : World) (b : Nat) (v : Value) (nm : ByteArray) (bs m n x : Nat) (l : List (Bool × Nat × Nat)) (k : Nat) (r : Value) (wr : World) : Prop where
  clk : IsRef wr b v nm bs m n x (mid l k)
  row : Row wr 3 1 r (fired (l.take k) 0).length ((fired (l.take k) 0).map (Value.int .i64))
  own : ∀ g, r.ownBlock = some g → w.heap.size ≤ g
  kept : Kept (foot b v) w wr

theorem Ticks.skip {k : Nat} {r : Value} {wr w0 wf : World} {a : Bool × Nat × Nat} (hT : Ticks w0 b v nm bs m n x l k r wr) (h : l[k]? = some a) (e : tick1 a = a) (hf : fires a = false) (kk : Kept (fun _ => False) wr wf) : Ticks w0 b v nm bs m n x l (k + 1) r wf := by
  have hfd : fired (l.take (k + 1)) 0 = fired (l.take k) 0 := by rw [fired_succ h, hf]; simp
  exact ⟨by rw [mid_same h e]; exact hT.clk.kept kk (fun _ _ h => h), by rw [hfd]; exact row_kept hT.row kk (fun _ _ h => h), hT.own, hT.kept.then kk (fun _ h => False.elim h)⟩

/-- the same clock and row in a world where nothing of them has been written; then alarm k is written anew -/
theorem Ticks.next {k g c : Nat} {r r' : Value} {wr w0 wc : World} {a a' : Bool × Nat × Nat} (_ : Ticks w0 b (.slice (some ⟨g, 0, none⟩) l.length c) nm bs m n x l k r wr) (h : l[k]? = some a) (ha : tick1 a = a')
    (hc : IsRef wc b (.slice (some ⟨g, 0, none⟩) l.length c) nm bs m n x (mid l k)) (hr : Row wc 3 1 r' (fired (l.take (k + 1)) 0).length ((fired (l.take (k + 1)) 0).map (Value.int .i64))) (ho : ∀ i, r'.ownBlock = some i → w0.heap.size ≤ i)
    (hk : Kept (foot b (.slice (some ⟨g, 0, none⟩) l.length c)) w0 wc) (hg : g < w0.heap.size) :
    Ticks w0 b (.slice (some ⟨g, 0, none⟩) l.length c) nm bs m n x l (k + 1) r' (((wc.setCell ⟨g, k * 3, none⟩ (.bool a'.1)).setCell ⟨g, k * 3 + 1, none⟩ (.int .u64 a'.2.1)).setCell ⟨g, k * 3 + 2, none⟩ (.int .u32 a'.2.2)).drew := by
  have hne : r'.ownBlock ≠ some g := fun e => by have := ho _ e; omega
  refine ⟨by rw [← mid_succ h, ha]; exact hc.putA a' (mid_length l k) (mid_at h), row_setCell_other (row_setCell_other (row_setCell_other hr (a := ⟨g, k * 3, none⟩) hne _) (a := ⟨g, k * 3 + 1, none⟩) hne _) (a := ⟨g, k * 3 + 2, none⟩) hne _, ho, ?_⟩
  exact (((hk.setCell (p := ⟨g, k * 3, none⟩) (Or.inl (Or.inr rfl)) _).setCell (p := ⟨g, k * 3 + 1, none⟩) (Or.inl (Or.inr rfl)) _).setCell (p := ⟨g, k * 3 + 2, none⟩) (Or.inl (Or.inr rfl)) _).drew

set_option maxRecDepth 100000 in
set_option maxHeartbeats 4000000 in
theorem tick_ok (hs : IsRef w b v nm bs m n x l) (hfn : Fine m n x l) : Calls Try.prog 51 #[.pointer (some ⟨b, 0, none⟩)] w fun e w' =>
    ∃ ao c, e = .returned (.slice ao (fired l 0).length c) ∧ IsRef w' b v nm bs m n (after m x 1) (l.map tick1) ∧ Kept (foot b v) w w' ∧
      Row w' 3 1 (.slice ao (fired l 0).length c) (fired l 0).length ((fired l 0).map (Value.int .i64)) ∧ (∀ g, (Value.slice ao (fired l 0).length c).ownBlock = some g → w.heap.size ≤ g) := by
  have hm := hfn.hmost
  have hv := hfn.hvalue
  have hl := hfn.hlen
  have c0 := hs.1.cell 0 rfl
  have c2 := hs.1.cell 2 rfl
  have c5 := hs.1.cell 5 rfl
  have f5 := hs.1.frozen 5
  obtain ⟨i0, hi, hz0, hz1, hz2⟩ := info_parts info_i
  have hnx : ∀ w, Calls Try.prog 13 #[.int .u32 m, .int .u32 x] w fun e w' => e = .returned (.int .u32 (after m x 1)) ∧ ∃ k, w' = w.drewN k := fun w => rnext_ok m x (by omega) (by omega) w
  obtain ⟨x', hx'⟩ : ∃ x', after m x 1 = x' := ⟨_, rfl⟩
  simp only [hx'] at hnx ⊢
  clear hx'
  go_enter Try.func51, Try.ntmps51
  go_upto_region 3 with fail
  go_cut [] from 11 to 24 (fun wx => ∃ k, wx = (w.setCell ⟨b, 5, none⟩ (.int .u32 x')).drewN k)
  case first =>
    go_region_with (first
      | (go_at_call 13; refine (hnx _).mono ?_; rintro e w5 ⟨rfl, q, rfl⟩))
    all_goals (go_wp2_with fail; go_meet; exact ⟨q + 1, by show _ = _; rw [Nat.add_comm]; rfl⟩)
  case rest =>
    obtain ⟨q, rfl⟩ := hcut
    have hs1 : IsRef ((w.setCell ⟨b, 5, none⟩ (.int .u32 x')).drewN q) b v nm bs m n (x') l := hs.setValue
    have k1 : Kept (foot b v) w ((w.setCell ⟨b, 5, none⟩ (.int .u32 x')).drewN q) := ((Kept.refl _ w).setCell (p := ⟨b, 5, none⟩) (Or.inl (Or.inl rfl)) _).drewN q
    obtain ⟨w1, hw1⟩ : ∃ w1, (w.setCell ⟨b, 5, none⟩ (.int .u32 x')).drewN q = w1 := ⟨_, rfl⟩
    rw [hw1] at hs1 k1 ⊢
    have hlt := hs.lt
    clear hw1 c0 c2 c5 f5 hs hnx
    obtain ⟨ao, c, rfl, hc⟩ := row_any hs1.2.1
    have HF := Lib.hid hfn
    clear hfn
    have hT0 : Hid (Ticks w b (.slice ao l.length c) nm bs m n x' l 0 (.slice none 0 0) w1) := ⟨by simpa [mid] using hs1, World.ownsRow_nil _ _ _ _, by simp [Value.ownBlock], k1⟩
    clear hs1 k1
    go_wp2
    go_loopw [3, 4] (fun r i wr => ∃ (k : Nat) (ao' : Option Addr) (c' : Nat), k ≤ l.length ∧ i = .int .i64 k ∧ r = .slice ao' (fired (l.take k) 0).length c' ∧ Hid (Ticks w b (.slice ao l.length c) nm bs m n x' l k (.slice ao' (fired (l.take k) 0).length c') wr)) (fun _ i _ => l.length - (intOf i).toNat)
    case atStart => exact ⟨0, none, 0, Nat.zero_le _, rfl, rfl, hT0⟩
    case round =>
      obtain ⟨k, ao', c', hk, rfl, rfl, hT⟩ := hrel
      clear hT0
      by_cases hkl : k < l.length
      · obtain ⟨a, ha⟩ : ∃ a, l[k]? = some a := ⟨_, List.getElem?_eq_getElem hkl⟩
        obtain ⟨s, lf, cy⟩ := a
        have hk0 : (0 : Int) ≤ (k : Int) := Int.natCast_nonneg _
        have hk1 : (k : Int) < (l.length : Int) := by omega
        obtain ⟨g, c2, hv', hgb, e0, e1, e2, z0, z1, z2⟩ := hT.out.clk.spot (mid_at ha)
        rw [mid_length] at hv'
        cases hv'
        have c6 := hT.out.clk.1.cell 6 rfl
        cases s with
        | false =>
          go_wp2
          go_roundw
          case rel =>
            have hfd : fired (l.take (k + 1)) 0 = fired (l.take k) 0 := by rw [fired_succ ha]; simp [fires]
            exact ⟨k + 1, ao', c', by omega, by go_num, by rw [hfd], by rw [hfd]; exact hT.out.skip ha rfl rfl ((Kept.refl _ _).alloc _)⟩
          case measure => simp [intOf]; omega
        | true =>
          have hlf := HF.out.hset _ (List.mem_of_getElem? ha) rfl
          have hlf2 := HF.out.hleft _ (List.mem_of_getElem? ha)
          simp only at hlf hlf2
          by_cases h2 : 2 ≤ lf
          · have hw : IntKind.u64.wrap ((lf : Int) - 1) = ((lf - 1 : Nat) : Int) := by rw [IntWalk.u64_in _ (by omega)]; omega
            have hn0 : ((((lf - 1 : Nat) : Int)) == 0) = false := by simp; omega
            have hn1 : ¬ ((((lf - 1 : Nat) : Int)) = 0) := by omega
            go_wp2
            have nb := Blk.new wr [.bool true, .int .u64 ((lf - 1 : Nat) : Int), .int .u32 cy] 87
            have kc : Kept (fun i => wr.heap.size ≤ i) wr (wr.alloc (.cells #[.bool true, .int .u64 ((lf - 1 : Nat) : Int), .int .u32 cy] 87)) := (Kept.refl _ wr).alloc _
            obtain ⟨S, hS⟩ : ∃ S, wr.heap.size = S := ⟨_, rfl⟩
            rw [hS] at nb kc ⊢
            obtain ⟨wc, hwc⟩ : ∃ wc, wr.alloc (.cells #[.bool true, .int .u64 ((lf - 1 : Nat) : Int), .int .u32 cy] 87) = wc := ⟨_, rfl⟩
            rw [hwc] at nb kc ⊢
            clear hwc
            have hfo : ∀ i, foot b (.slice (some ⟨g, 0, none⟩) l.length c) i → i < S := fun i hi => by rw [← hS]; exact hT.out.clk.lt i hi
            have hc' : IsRef wc b (.slice (some ⟨g, 0, none⟩) l.length c) nm bs m n x' (mid l k) := hT.out.clk.kept kc (fun i hi h => by have := hfo i hi; omega)
            have hr' := row_kept hT.out.row kc (fun i hi h => by have := row_lt hT.out.row hi; omega)
            have hk' := hT.out.kept.then kc (fun i hi => Or.inr (by have := hT.out.kept.size; omega))
            have ht : tick1 (true, lf, cy) = (true, lf - 1, cy) := by simp [tick1]; omega
            have hfd : fired (l.take (k + 1)) 0 = fired (l.take k) 0 := by rw [fired_succ ha]; simp [fires]; omega
            have q := hT.out.next (r' := .slice ao' (fired (l.take k) 0).length c') ha ht hc' (by rw [hfd]; exact hr') hT.out.own hk' (hlt g (Or.inr rfl))
            clear e0 e1 e2 z0 z1 z2 c6
            have y0 := nb.cell 0 rfl
            have y1 := nb.cell 1 rfl
            have y2 := nb.cell 2 rfl
            obtain ⟨g', c2', hv2, hgb2, e0, e1, e2, z0, z1, z2⟩ := hc'.spot (mid_at ha)
            rw [mid_length] at hv2
            cases hv2
            have c6 := hc'.1.cell 6 rfl
            have Q := Lib.hid q
            clear q hT nb kc hr' hk' hc'
            go_still_tail 7, (by kernel_rfl)
            go_wp2
            go_roundw
            case rel => exact ⟨k + 1, ao', c', by omega, by go_num, by rw [hfd], by rw [hfd]; exact Q.out⟩
            case measure => simp [intOf]; omega
          · obtain rfl : lf = 1 := by omega
            have hflen := fired_length (l.take k) 0
            rw [List.length_take] at hflen
            go_wp2_with ((at_builtin; refine wpList_append_any rfl (.tmp 50) (.tmp 52) 39 rfl 3 i0 (.int .i64 0) 1 8 Try.underlying39 hi hz0 hz1 hz2 rfl (by decide) _ _ _ ((fired (l.take k) 0).map (Value.int .i64)) rfl ?hrow _ 1 1 [.int .i64 k] rfl ?hnew (by simp [Value.oneCell']) ?b1 ?b2 ?_))
            case hrow => exact row_alloc (row_alloc hT.out.row _) _
            case hnew => exact shows_new _ [_] _ (by simp) rfl
            case b1 => unfold maxLen; omega
            case b2 => omega
            intro ao3 c3 wc r1 r2 r3
            obtain ⟨S, hS⟩ : ∃ S, wr.heap.size = S := ⟨_, rfl⟩
            have hrl : ∀ i, (Value.slice ao' (fired (l.take k) 0).length c').ownBlock = some i → i < S := fun i hi => by rw [← hS]; exact row_lt hT.out.row hi
            have nb0 := blk_after r2 ((Blk.new wr [.bool true, .int .u64 0, .int .u32 cy] 87).alloc _) rfl (fun e => by have := hrl _ e; omega)
            have kc : Kept (fun i => wr.heap.size ≤ i ∨ (Value.slice ao' (fired (l.take k) 0).length c').ownBlock = some i) wr wc := (((Kept.refl _ wr).alloc _).alloc _).grown r2 (fun i e => Or.inl (Or.inr e))
            rw [hS] at nb0 kc
            have hfo : ∀ i, foot b (.slice (some ⟨g, 0, none⟩) l.length c) i → i < S := fun i hi => by rw [← hS]; exact hT.out.clk.lt i hi
            have ho3 : ∀ i, (Value.slice ao3 ((fired (l.take k) 0).length + 1) c3).ownBlock = some i → w.heap.size ≤ i ∧ i ≠ S := fun i e => (r3 i e).elim (fun h => ⟨hT.out.own i h, fun e => by have := hrl i h; omega⟩) (fun h => ⟨by have := hT.out.kept.size; omega, by omega⟩)
            have hcA : IsRef wc b (.slice (some ⟨g, 0, none⟩) l.length c) nm bs m n x' (mid l k) := hT.out.clk.kept kc (fun i hi h => h.elim (fun h => by have := hfo i hi; omega) (fun h => by have := hT.out.own i h; have := hlt i hi; omega))
            have hkA := hT.out.kept.then kc (fun i hi => Or.inr (hi.elim (fun h => by have := hT.out.kept.size; omega) (fun h => hT.out.own i h)))
            have hfd : fired (l.take (k + 1)) 0 = fired (l.take k) 0 ++ [(k : Int)] := by rw [fired_succ ha]; rfl
            have hfl : (fired (l.take (k + 1)) 0).length = (fired (l.take k) 0).length + 1 := by rw [hfd]; simp
            have hrA : Row wc 3 1 (.slice ao3 ((fired (l.take k) 0).length + 1) c3) (fired (l.take (k + 1)) 0).length ((fired (l.take (k + 1)) 0).map (Value.int .i64)) := by rw [hfl, hfd, List.map_append]; exact r1
            have hcm := HF.out.hcycle _ (List.mem_of_getElem? ha)
            simp only at hcm
            have hwc : IntKind.u64.wrap (cy : Int) = (cy : Int) := IntWalk.u64_in _ (by omega)
            have ht : tick1 (true, 1, cy) = (decide (0 < cy), cy, cy) := by
              by_cases h : cy = 0
              · subst h; rfl
              · simp [tick1, h, show 0 < cy by omega]
            have hgt : decide ((0 : Int) < (cy : Int)) = decide (0 < cy) := by by_cases h : 0 < cy <;> simp [h]
            have nb := ((nb0.set 0 (.bool (decide (0 < cy)))).set 1 (.int .u64 cy)).set 2 (.int .u32 cy)
            have kS : Kept (fun i => i = S) wc (((wc.setCell ⟨S, 0, none⟩ (.bool (decide (0 < cy)))).setCell ⟨S, 1, none⟩ (.int .u64 cy)).setCell ⟨S, 2, none⟩ (.int .u32 cy)) := (((Kept.refl (fun i => i = S) wc).set (b := S) 0 (Or.inl rfl) _).set (b := S) 1 (Or.inl rfl) _).set (b := S) 2 (Or.inl rfl) _
            have hc' := hcA.kept kS (fun i hi h => by have := hfo i hi; omega)
            have hk' := hkA.then kS (fun i hi => Or.inr (by have := hT.out.kept.size; omega))
            have hr' := row_kept hrA kS (fun i hi h => (ho3 i hi).2 h)
            clear e0 e1 e2 z0 z1 z2 c6 r1 r2 r3 hcA hkA hrA
            have y0 := nb0.cell 0 rfl
            have y1 := nb0.cell 1 rfl
            have y2 := nb0.cell 2 rfl
            have g0 := nb0.frozen 0
            have g1 := nb0.frozen 1
            have g2 := nb0.frozen 2
            have NB := Lib.hid nb
            have KS := Lib.hid kS
            have HC := Lib.hid hc'
            have HK := Lib.hid hk'
            have HR := Lib.hid hr'
            clear nb kS hc' hk' hr' nb0 kc
            simp only [hS]
            go_upto_region 14 with fail
            obtain ⟨wd, hwd⟩ : ∃ wd, (((wc.setCell ⟨S, 0, none⟩ (.bool (decide (0 < cy)))).setCell ⟨S, 1, none⟩ (.int .u64 cy)).setCell ⟨S, 2, none⟩ (.int .u32 cy)) = wd := ⟨_, rfl⟩
            have nb := NB.out
            have hc' := HC.out
            have hk' := HK.out
            have hr' := HR.out
            rw [hwd] at nb hc' hk' hr' ⊢
            have q := hT.out.next (r' := .slice ao3 ((fired (l.take k) 0).length + 1) c3) ha ht hc' hr' (fun i e => (ho3 i e).1) hk' (hlt g (Or.inr rfl))
            clear hwd NB KS HC HK HR y0 y1 y2 g0 g1 g2
            have y0 := nb.cell 0 rfl
            have y1 := nb.cell 1 rfl
            have y2 := nb.cell 2 rfl
            obtain ⟨g', c2', hv2, hgb2, e0, e1, e2, z0, z1, z2⟩ := hc'.spot (mid_at ha)
            rw [mid_length] at hv2
            cases hv2
            have c6 := hc'.1.cell 6 rfl
            have Q := Lib.hid q
            clear q hT nb hk' hr' hc'
            go_still_tail 7, (by kernel_rfl)
            go_wp2
            go_roundw
            case rel => exact ⟨k + 1, ao3, c3, by omega, by go_num, by rw [hfl], by rw [hfl]; exact Q.out⟩
            case measure => simp [intOf]; omega
      · have hkk : k = l.length := by omega
        subst hkk
        have hN := hT.out
        have e1 : mid l l.length = l.map tick1 := by simp [mid]
        have h1 := hN.clk
        have h2 := hN.row
        have h3 := hN.own
        have c6 := hN.clk.1.cell 6 rfl
        rw [e1] at h1
        rw [List.take_length] at h2 h3
        clear e1
        go_wp2
        go_ret
        rw [List.take_length]
        exact ⟨ao', c', rfl, h1, hN.kept, h2, h3⟩
end
end Go.Proofs.Ytialldmepphloaa.CR
