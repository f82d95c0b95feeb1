/- The document's stack (tappetref14): Pop, Down, Find, Cut, Copy. -/
import Derived.Test.YtpbjmkdpeadjeaaRefS
namespace Go.Proofs.Ytpbjmkdpeadjeaa.RS
open Go.RowKit Go.Fr Go.Proofs.Ytpbjmkdpeadjeaa.SI
section
variable {w : World} {b : Nat} {v : Value} {m : Bool} {d h : Int} {l : List Int}

theorem pop_nil (hs : IsRef w b v false d h l) : Calls Try.prog 18 #[.pointer (some ⟨b, 0, none⟩)] w fun e w' => e = .returned (.tuple #[.int .i64 0, .int .i64 1]) ∧ w = w' := by
  have c0 := hs.1.cell 0 rfl
  go_enter Try.func18, Try.ntmps18
  go_wp2
  go_ret2
  exact ⟨rfl, rfl⟩

theorem pop_none (hs : IsRef w b v true d h []) : Calls Try.prog 18 #[.pointer (some ⟨b, 0, none⟩)] w fun e w' => e = .returned (.tuple #[.int .i64 0, .int .i64 142]) ∧ w = w' := by
  have c0 := hs.1.cell 0 rfl
  have c2 := hs.1.cell 2 rfl
  obtain ⟨ao, c, rfl, hc⟩ := row_any hs.2.1
  simp only [List.length_nil] at c2
  go_enter Try.func18, Try.ntmps18
  go_wp2
  go_ret2
  exact ⟨rfl, rfl⟩

set_option maxRecDepth 100000 in
set_option maxHeartbeats 400000 in
theorem pop_ok (x : Int) (hs : IsRef w b v true d h (l ++ [x])) : Calls Try.prog 18 #[.pointer (some ⟨b, 0, none⟩)] w fun e w' =>
    e = .returned (.tuple #[.int .i64 x, .int .i64 0]) ∧ ∃ v', IsRef w' b v' true d h l ∧ v'.ownBlock = v.ownBlock ∧ Kept (fun k => k = b) w w' := by
  obtain ⟨hb, hr, ho, hn⟩ := hs
  have c0 := hb.cell 0 rfl
  have c2 := hb.cell 2 rfl
  have f2 := hb.frozen 2
  have hlen : (l ++ [x]).length = l.length + 1 := by simp
  rw [hlen] at hr hn
  obtain ⟨g, c, rfl, hc, hm, hg⟩ := row_form hr
  have hx := row_cell hr l.length (u := .int .i64 x) (by simp)
  have hcut := row_cut hr l.length (by omega)
  go_enter Try.func18, Try.ntmps18
  go_wp2
  go_ret2
  have ho' : (Value.slice (some ⟨g, 0, none⟩) l.length c).ownBlock ≠ some b := by simpa [Value.ownBlock] using ho
  exact ⟨rfl, .slice (some ⟨g, 0, none⟩) l.length c, ⟨Blk.heap (hb.set 2 _) rfl, row_to (row_setCell_other hcut (a := ⟨b, 2, none⟩) ho' (.slice (some ⟨g, 0, none⟩) l.length c)) rfl (by simp) (fun _ _ => rfl), ho', by omega⟩, rfl,
    ((Kept.refl (fun k => k = b) w).set 2 (Or.inl rfl) _).same rfl rfl rfl rfl⟩

set_option maxRecDepth 100000 in
set_option maxHeartbeats 1000000 in
theorem down_ok (hs : IsRef w b v m d h l) : Calls Try.prog 29 #[.pointer (some ⟨b, 0, none⟩)] w fun e w' =>
    ∃ ao c, e = .returned (.slice ao l.length c) ∧ Row w' 3 1 (.slice ao l.length c) l.length (l.reverse.map (Value.int .i64)) ∧ (∀ g, (Value.slice ao l.length c).ownBlock = some g → w.heap.size ≤ g) ∧ Kept (fun _ => False) w w' := by
  have c2 := hs.1.cell 2 rfl
  have hn := hs.2.2.2
  have hbl := hs.1.lt
  have hlt := hs.lt
  obtain ⟨i0, hi, hz0, hz1, hz2⟩ := info_parts info
  obtain ⟨ao, c, rfl, hc⟩ := row_any hs.2.1
  go_enter Try.func29, Try.ntmps29
  go_wp2
  go_loopw [3, 4] (fun o i wr => ∃ (j : Nat) (z : Int) (ao' : Option Addr) (c' : Nat), i = .int .i64 z ∧ z + 1 = j ∧ j ≤ l.length ∧ o = .slice ao' (l.length - j) c' ∧ Row wr 3 1 (.slice ao' (l.length - j) c') (l.length - j) ((l.drop j).reverse.map (Value.int .i64)) ∧
      Hid (∀ g, (Value.slice ao' (l.length - j) c').ownBlock = some g → w.heap.size ≤ g) ∧ Kept (fun _ => False) w wr) (fun _ i _ => (intOf i + 1).toNat)
  case atStart => exact ⟨l.length, _, none, 0, rfl, by omega, Nat.le_refl _, by simp, by simpa using World.ownsRow_nil w 0 _ 1, (fun g hg => by simp [Value.ownBlock] at hg), Kept.refl _ _⟩
  case round =>
    obtain ⟨j, z, ao', c', rfl, hz, hj, rfl, hrow, hfr, hk⟩ := hrel
    have c2' : wr.cell? ⟨b, 2, none⟩ = some (.slice ao l.length c) := (hk.cell (p := ⟨b, 2, none⟩) hbl (fun h => h)).trans c2
    rcases Nat.eq_zero_or_pos j with rfl | hpos
    · obtain rfl : z = -1 := by omega
      clear hz
      go_wp2
      go_ret
      exact ⟨ao', c', rfl, by simpa using hrow, hfr.out, hk⟩
    · obtain ⟨p, rfl⟩ : ∃ p, j = p + 1 := ⟨j - 1, by omega⟩
      obtain rfl : z = (p : Int) := by omega
      clear hz hpos
      have hp : p < l.length := by omega
      obtain ⟨x, hx⟩ : ∃ x, l[p]? = some x := ⟨_, List.getElem?_eq_getElem hp⟩
      have hp0 : (0 : Int) ≤ (p : Int) := Int.natCast_nonneg _
      have hp1 : (p : Int) < (l.length : Int) := by omega
      have hcx : ∃ g, ao = some ⟨g, 0, none⟩ ∧ wr.cell? ⟨g, p, none⟩ = some (.int .i64 x) := by
        rcases row_forms hs.2.1 with ⟨_, h0⟩ | ⟨g, c', hv, _, _, hgl⟩
        · omega
        · cases hv
          exact ⟨g, rfl, (hk.cell (p := ⟨g, p, none⟩) hgl (fun h => h)).trans (row_cell hs.2.1 p (by rw [List.getElem?_map, hx]; rfl))⟩
      obtain ⟨g, rfl, hcl⟩ := hcx
      have e2 : (l.drop p).reverse = (l.drop (p + 1)).reverse ++ [x] := by
        rw [List.drop_eq_getElem_cons hp, List.reverse_cons]
        rw [List.getElem?_eq_getElem hp] at hx
        cases hx; rfl
      have E2 := Lib.hid e2
      have e3 : l.length - (p + 1) + 1 = l.length - p := by omega
      have E3 := Lib.hid e3
      clear e2 e3 hx
      go_wp2_with (at_builtin; refine wpList_append_any rfl (.tmp 15) (.tmp 23) 35 rfl 3 i0 (.int .i64 0) 1 8 Try.underlying35 hi hz0 hz1 hz2 rfl (by decide) _ _ _ ((l.drop (p + 1)).reverse.map (Value.int .i64)) rfl ?hrow _ 1 1 [.int .i64 x] rfl ?hnew (by simp [Value.oneCell']) ?b1 ?b2 ?_)
      case hrow => exact row_alloc hrow _
      case hnew => exact shows_new _ [_] _ (by simp) rfl
      case b1 => unfold maxLen; omega
      case b2 => omega
      intro ao3 c3 w3 r1 r2 r3
      go_wp2
      go_roundw
      case rel =>
        refine ⟨p, _, ao3, c3, rfl, by omega, by omega, by rw [E3.out], ?_, ?_, ?_⟩
        · rw [E3.out] at r1; rw [E2.out]; exact row_to r1 rfl (by simp) (fun _ _ => rfl)
        · rw [E3.out] at r3
          exact fun g hg => (r3 g hg).elim (hfr.out g) (fun h => by have := hk.size; omega)
        · exact (hk.alloc _).grown r2 (fun k hk' => Or.inr (hfr.out k hk'))
      case measure => simp [intOf]

set_option maxRecDepth 100000 in
set_option maxHeartbeats 1000000 in
theorem find_ok (x : Int) (hs : IsRef w b v m d h l) : Calls Try.prog 20 #[.pointer (some ⟨b, 0, none⟩), .int .i64 x] w fun e w' =>
    e = .returned (.tuple #[.int .i64 (fidx l x), .bool (decide (x ∈ l))]) ∧ Kept (fun _ => False) w w' := by
  have hn := hs.2.2.2
  go_enter Try.func20, Try.ntmps20
  go_wp2_with fail
  refine (down_ok hs).mono ?_
  rintro e w1 ⟨ao, c, rfl, hrow, hfr, hk⟩
  go_wp2_with fail
  go_loop [7] (fun n => ∃ k : Nat, k ≤ l.length ∧ n = .int .i64 k ∧ Hid (∀ j, j < k → l.reverse[j]? ≠ some x)) (fun n => l.length - (intOf n).toNat)
  case atStart => exact ⟨0, Nat.zero_le _, rfl, fun j hj => by omega⟩
  case round =>
    obtain ⟨k, hk', rfl, hno⟩ := hrel
    by_cases hlt : k < l.length
    · have hk0 : (0 : Int) ≤ (k : Int) := Int.natCast_nonneg _
      have hk1 : (k : Int) < (l.length : Int) := by omega
      obtain ⟨y, hy⟩ : ∃ y, l.reverse[k]? = some y := ⟨_, List.getElem?_eq_getElem (by simpa using hlt)⟩
      have hcell : ∃ g, ao = some ⟨g, 0, none⟩ ∧ w1.cell? ⟨g, k, none⟩ = some (.int .i64 y) := by
        rcases row_forms hrow with ⟨_, h0⟩ | ⟨g, c', hv, _⟩
        · omega
        · cases hv
          exact ⟨g, rfl, row_cell hrow k (by rw [List.getElem?_map, hy]; rfl)⟩
      obtain ⟨g, rfl, hcl⟩ := hcell
      have Hy := Lib.hid hy
      clear hy
      by_cases hyx : y = x
      · have hfd := Lib.hid (fidx_found hno.out (hyx ▸ Hy.out))
        have hq : (y == x) = true := by simpa using hyx
        clear hyx
        go_wp2
        go_ret2
        exact ⟨by rw [hfd.out.1]; simp [hfd.out.2], hk⟩
      · have hnx : l.reverse[k]? ≠ some x := by rw [Hy.out]; simpa using hyx
        have hnx' := Lib.hid hnx
        have hq : (y == x) = false := by simpa using hyx
        clear hyx hnx
        go_wp2
        go_round
        case rel => exact ⟨k + 1, by omega, by go_num, fun j hj => by
          rcases Nat.lt_or_ge j k with h1 | h1
          · exact hno.out j h1
          · obtain rfl : j = k := by omega
            exact hnx'.out⟩
        case measure => simp [intOf]; omega
    · have hfd := Lib.hid (fidx_not (l := l) (x := x) (fun j hj => hno.out j (by omega)))
      go_wp2
      go_ret2
      exact ⟨by rw [hfd.out.1]; simp [hfd.out.2], hk⟩

theorem cut_nil (n : Int) (hs : IsRef w b v false d h l) : Calls Try.prog 47 #[.pointer (some ⟨b, 0, none⟩), .int .i64 n] w fun e w' => e = .returned (.tuple #[.slice none 0 0, .int .i64 1]) ∧ w = w' := by
  have c0 := hs.1.cell 0 rfl
  go_enter Try.func47, Try.ntmps47
  go_wp2
  go_ret2
  exact ⟨rfl, rfl⟩

theorem cut_neg (n : Int) (hs : IsRef w b v true d h l) (h0 : n < 0) : Calls Try.prog 47 #[.pointer (some ⟨b, 0, none⟩), .int .i64 n] w fun e w' => e = .returned (.tuple #[.slice none 0 0, .int .i64 2]) ∧ w = w' := by
  have c0 := hs.1.cell 0 rfl
  go_enter Try.func47, Try.ntmps47
  go_wp2
  go_ret2
  exact ⟨rfl, rfl⟩

theorem cut_big (n : Int) (hs : IsRef w b v true d h l) (h0 : l.length < n) : Calls Try.prog 47 #[.pointer (some ⟨b, 0, none⟩), .int .i64 n] w fun e w' => e = .returned (.tuple #[.slice none 0 0, .int .i64 142]) ∧ w = w' := by
  have c0 := hs.1.cell 0 rfl
  have c2 := hs.1.cell 2 rfl
  obtain ⟨ao, c, rfl, hc⟩ := row_any hs.2.1
  have h1 : ¬ n < 0 := by omega
  go_enter Try.func47, Try.ntmps47
  go_wp2
  go_ret2
  exact ⟨rfl, rfl⟩

set_option maxRecDepth 100000 in
set_option maxHeartbeats 1000000 in
theorem cut_ok (n : Nat) (hs : IsRef w b v true d h l) (h0 : n ≤ l.length) : Calls Try.prog 47 #[.pointer (some ⟨b, 0, none⟩), .int .i64 n] w fun e w' =>
    ∃ ao c v', e = .returned (.tuple #[.slice ao (l.length - n) c, .int .i64 0]) ∧ IsRef w' b v' true d h (l.take n) ∧ v'.ownBlock = v.ownBlock ∧ Kept (fun k => k = b) w w' ∧
      Row w' 3 1 (.slice ao (l.length - n) c) (l.length - n) ((l.drop n).reverse.map (Value.int .i64)) ∧ (∀ g, (Value.slice ao (l.length - n) c).ownBlock = some g → w.heap.size ≤ g) := by
  have hs' := hs
  obtain ⟨hb, hr, ho, hn⟩ := hs
  have c0 := hb.cell 0 rfl
  have c2 := hb.cell 2 rfl
  have hbl := hb.lt
  obtain ⟨ao, c, rfl, hc⟩ := row_any hr
  have h1 : ¬ (n : Int) < 0 := by omega
  have h2 : ¬ (l.length : Int) < n := by omega
  have w1 : IntKind.i64.wrap ((l.length : Int) - (n : Int)) = ((l.length - n : Nat) : Int) := by rw [IntWalk.i64_in _ (by omega)]; omega
  go_enter Try.func47, Try.ntmps47
  go_wp2_with fail
  refine (down_ok hs').mono ?_
  rintro e w1 ⟨do_, dc, rfl, hrow, hfr, hk⟩
  have hs1 := hs'.kept hk (fun _ _ h => h)
  have hb1 := hs1.1
  have k2 := hb1.cell 2 rfl
  have f2 := hb1.frozen 2
  have hdc : l.length ≤ dc + n := by have := row_cap hrow; omega
  have ho' : (Value.slice ao n c).ownBlock ≠ some b := by cases ao <;> exact ho
  have hcut := row_setCell_other (row_cut' hs1.2.1 n h0) (a := ⟨b, 2, none⟩) ho' (.slice ao n c)
  have hd' : (Value.slice do_ l.length dc).ownBlock ≠ some b := fun e => by have := hfr b e; omega
  have hd'' : (Value.slice do_ (l.length - n) dc).ownBlock ≠ some b := by cases do_ <;> exact hd'
  have hq := row_setCell_other (row_cut' hrow (l.length - n) (by omega)) (a := ⟨b, 2, none⟩) hd'' (.slice ao n c)
  have hb2 := hb1.set 2 (.slice ao n c)
  have hk2 := (hk.mono (S' := fun k => k = b) (fun _ _ h => h.elim)).set (b := b) 2 (Or.inl rfl) (.slice ao n c)
  have hfr2 : ∀ g, (Value.slice do_ (l.length - n) dc).ownBlock = some g → w.heap.size ≤ g := fun g hg => hfr g (by cases do_ <;> exact hg)
  have HC := Lib.hid hcut
  have HQ := Lib.hid hq
  have HF := Lib.hid hfr2
  clear hcut hq hfr2
  go_wp2
  go_ret2
  refine ⟨do_, dc, _, rfl, ⟨Blk.heap hb2 rfl, row_to HC.out (by simp; omega) (by simp) (fun _ _ => rfl), ho', by simp; omega⟩, by cases ao <;> rfl, hk2.same rfl rfl rfl rfl, row_to HQ.out rfl ?_ (fun _ _ => rfl), HF.out⟩
  rw [Nat.mul_one, ← List.map_take, List.reverse_drop]

set_option maxRecDepth 100000 in
set_option maxHeartbeats 2000000 in
theorem copy_ok (hs : IsRef w b v m d h l) : Calls Try.prog 32 #[.pointer (some ⟨b, 0, none⟩)] w fun e w' =>
    ∃ b' v', e = .returned (.pointer (some ⟨b', 0, none⟩)) ∧ IsRef w' b' v' m d h l ∧ (∀ i, foot b' v' i → w.heap.size ≤ i) ∧ Kept (fun _ => False) w w' := by
  obtain ⟨hb, hr, ho, hn⟩ := hs
  have hbl := hb.lt
  have c0 := hb.cell 0 rfl
  have c1 := hb.cell 1 rfl
  have c2 := hb.cell 2 rfl
  have c3 := hb.cell 3 rfl
  obtain ⟨i0, hi, hz0, hz1, hz2⟩ := info_parts info
  obtain ⟨ao, c, rfl, hc⟩ := row_any hr
  have hown : ∀ g, (Value.slice ao l.length c).ownBlock = some g → g < w.heap.size := fun g hg => row_lt hr hg
  have hbs : ¬ b = w.heap.size := by omega
  go_enter Try.func32, Try.ntmps32
  go_wp2
  go_region_held3 (fun w' => w'.cell? ⟨b, 0, none⟩ = some (.bool m) ∧ w'.cell? ⟨b, 1, none⟩ = some (.int .i64 d) ∧ w'.cell? ⟨b, 3, none⟩ = some (.int .i64 h))
    (first
      | (simp [*, World.cell?_alloc_some, World.cell?_setCell_far]; done)
      | fail)
    (fail)
  go_wp2
  have hnb := Blk.new w [.bool m, .int .i64 d, .slice none 0 0, .int .i64 h] 37
  have hr1 := row_alloc hr (.cells #[.bool m, .int .i64 d, .slice none 0 0, .int .i64 h] 37)
  have n2 := hnb.cell 2 rfl
  refine wp_region_noPanic ?_
  go_region_law (refine step_append_any (by rfl) (.tmp 22) (.tmp 26) 35 (by rfl) 3 i0 (.int .i64 0) 1 8 Try.underlying35 hi hz0 hz1 hz2 (by rfl) (by decide) none 0 0 [] (by simp [Act.eval, Act.put]) (World.ownsRow_nil _ _ _ _) ao l.length c (l.map (Value.int .i64)) (by simp [Act.eval, Act.put]) (hr1.shows.heap (fun _ _ => rfl)) (ints_one l) (by unfold maxLen; omega) (by omega) ?_; intro ao' c' w1 r1 r2 r3; have hn1 := blk_after r2 hnb rfl (by simp [Value.ownBlock]); have k2 := hn1.frozen 2; have k3 := hn1.cell 2 rfl)
  all_goals
    refine NoPanic.normal ?_
    go_wp2
    go_ret
    simp only [Nat.zero_add, List.nil_append] at r1 r3
    have hge : ∀ g, (Value.slice ao' l.length c').ownBlock = some g → w.heap.size + 1 ≤ g := fun g hg => (r3 g hg).elim (fun e => by cases e) (fun h => by simpa using h)
    have hne : (Value.slice ao' l.length c').ownBlock ≠ some w.heap.size := fun e => by have := hge _ e; omega
    refine ⟨w.heap.size, .slice ao' l.length c', rfl, ⟨Blk.heap (hn1.set 2 _) rfl, row_to (row_setCell_other r1 (a := ⟨w.heap.size, 2, none⟩) hne (.slice ao' l.length c')) rfl rfl (fun _ _ => rfl), hne, hn⟩, ?_, ?_⟩
    · rintro i (rfl | hi)
      · exact Nat.le_refl _
      · have := hge i hi; omega
    · exact (((((Kept.refl (fun _ => False) w).alloc (.cells #[.bool m, .int .i64 d, .slice none 0 0, .int .i64 h] 37)).grown (w' := w1) (row := none) ⟨r2.os, r2.tape, r2.output, r2.size, r2.block⟩ (fun k hk => by cases hk))).set (b := w.heap.size) 2 (Or.inr (Nat.le_refl _)) (.slice ao' l.length c')).same rfl rfl rfl rfl
end
end Go.Proofs.Ytpbjmkdpeadjeaa.RS
