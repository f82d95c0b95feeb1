/- Copy, Cut of stack.Stack[int]. -/
import Derived.Test.YtpbjmkdpeadjeaaStkU
namespace Go.Proofs.Ytpbjmkdpeadjeaa.SI
open Go.RowKit Go.Fr
section
variable {w : World} {b : Nat} {v : Value} {d h : Int} {l : List Int}

set_option maxRecDepth 100000 in
set_option maxHeartbeats 400000 in
theorem top_none (hs : IsStk w b v d h []) : Calls Try.prog 33 #[.pointer (some ⟨b, 0, none⟩)] w fun e w' =>
    e = .returned (.tuple #[.int .i64 0, .bool false]) ∧ w = w' := by
  obtain ⟨hb, hr, ho, hn⟩ := hs
  have c0 := hb.cell 0 rfl
  have c2 := hb.cell 2 rfl
  obtain ⟨ao, c, rfl, hc⟩ := row_any hr
  simp only [List.length_nil] at c2
  go_enter Try.func33, Try.ntmps33
  go_wp2
  go_ret2
  exact ⟨rfl, rfl⟩

set_option maxRecDepth 100000 in
set_option maxHeartbeats 400000 in
theorem top_ok (x : Int) (hs : IsStk w b v d h (l ++ [x])) : Calls Try.prog 33 #[.pointer (some ⟨b, 0, none⟩)] w fun e w' =>
    e = .returned (.tuple #[.int .i64 x, .bool true]) ∧ ∃ n, w' = w.drewN n := by
  obtain ⟨hb, hr, ho, hn⟩ := hs
  have c0 := hb.cell 0 rfl
  have c2 := hb.cell 2 rfl
  have hlen : (l ++ [x]).length = l.length + 1 := by simp
  rw [hlen] at hr hn
  obtain ⟨g, c, rfl, hc, hm, hg⟩ := row_form hr
  have hx := row_cell hr l.length (u := .int .i64 x) (by simp)
  go_enter Try.func33, Try.ntmps33
  go_wp2
  go_quiet (fail)
  go_wp2
  go_ret2
  exact ⟨rfl, _, rfl⟩
end

/-- how many lie above a thing (0 if it is not there) -/
def fidx (l : List Int) (x : Int) : Nat := if x ∈ l then l.reverse.idxOf x else 0

theorem idxOf_of {l : List Int} {x : Int} : ∀ {k : Nat}, (∀ j, j < k → l[j]? ≠ some x) → l[k]? = some x → l.idxOf x = k := by
  induction l with
  | nil => intro k _ h; simp at h
  | cons a l ih =>
    intro k hno hx
    cases k with
    | zero => simp at hx; simp [hx]
    | succ k =>
      have ha : a ≠ x := by have := hno 0 (by omega); simpa using this
      have hb : (a == x) = false := by simpa using ha
      rw [List.idxOf_cons, hb]
      have := ih (k := k) (fun j hj => by have := hno (j + 1) (by omega); simpa using this) (by simpa using hx)
      simp [this]

theorem fidx_found {l : List Int} {x : Int} {k : Nat} (hno : ∀ j, j < k → l.reverse[j]? ≠ some x) (hx : l.reverse[k]? = some x) : fidx l x = k ∧ x ∈ l := by
  have hmem : x ∈ l := by simpa using List.mem_of_getElem? hx
  exact ⟨by unfold fidx; rw [if_pos hmem, idxOf_of hno hx], hmem⟩

theorem fidx_not {l : List Int} {x : Int} (hno : ∀ j, j < l.length → l.reverse[j]? ≠ some x) : fidx l x = 0 ∧ ¬ x ∈ l := by
  have hmem : ¬ x ∈ l := by
    intro h
    obtain ⟨j, hj⟩ := List.getElem?_of_mem (show x ∈ l.reverse by simpa using h)
    have := (List.getElem?_eq_some_iff.1 hj).1
    exact hno j (by simpa using this) hj
  exact ⟨by unfold fidx; rw [if_neg hmem], hmem⟩

theorem find_ok {w : World} {b : Nat} {v : Value} {d h : Int} {l : List Int} (x : Int) (hs : IsStk w b v d h l) : Calls Try.prog 46 #[.pointer (some ⟨b, 0, none⟩), .int .i64 x] w fun e w' =>
    e = .returned (.tuple #[.int .i64 (fidx l x), .bool (decide (x ∈ l))]) ∧ ∃ n, w' = w.drewN n := by
  refine (find_any x hs).mono ?_
  rintro e w' ⟨r, ok, rfl, hf, hw⟩
  refine ⟨?_, hw⟩
  rcases hf with ⟨rfl, h1, h2⟩ | ⟨rfl, rfl, h1⟩
  · obtain ⟨h3, h4⟩ := fidx_found h2 h1
    rw [h3]; simp [h4]
  · obtain ⟨h3, h4⟩ := fidx_not h1
    rw [h3]; simp [h4]

theorem info_stk : (Try.prog.info? 73).map (fun i => i.size) = some 4 := by kernel_rfl

theorem ints_one (l : List Int) : ∀ u ∈ l.map (Value.int .i64), u.oneCell' = true := by
  intro u hu
  obtain ⟨_, _, rfl⟩ := List.mem_map.1 hu
  rfl

set_option maxRecDepth 100000 in
set_option maxHeartbeats 1000000 in
theorem copy_ok {w : World} {b : Nat} {v : Value} {d h : Int} {l : List Int} (hs : IsStk w b v d h l) : Calls Try.prog 31 #[.pointer (some ⟨b, 0, none⟩)] w fun e w' =>
    ∃ b' v', e = .returned (.pointer (some ⟨b', 0, none⟩)) ∧ IsStk w' b' v' d h l ∧ (∀ i, foot b' v' i → w.heap.size ≤ i) ∧ Kept (fun _ => False) w w' := by
  obtain ⟨hb, hr, ho, hn⟩ := hs
  have c0 := hb.cell 0 rfl
  have c1 := hb.cell 1 rfl
  have c2 := hb.cell 2 rfl
  have c3 := hb.cell 3 rfl
  obtain ⟨i0, hi, hz0, hz1, hz2⟩ := info_parts info
  obtain ⟨ao, c, rfl, hc⟩ := row_any hr
  go_enter Try.func31, Try.ntmps31
  go_wp2
  go_region_held3 (fun w' => w'.cell? ⟨b, 1, none⟩ = some (.int .i64 d) ∧ w'.cell? ⟨b, 2, none⟩ = some (.slice ao l.length c) ∧ w'.cell? ⟨b, 3, none⟩ = some (.int .i64 h))
    (first
      | (simp [*, World.cell?_alloc_some, World.cell?_setCell_far]; done)
      | (go_split_ands
         refine ⟨?_, ?_, ?_⟩
         · exact grown_cell r2 (by assumption) (by simp [Value.ownBlock])
         · exact grown_cell r2 (by assumption) (by simp [Value.ownBlock])
         · exact grown_cell r2 (by assumption) (by simp [Value.ownBlock]))
      | fail)
    ((refine step_append_any (by rfl) (.const (.slice none 0 0)) (.tmp 13) 35 (by rfl) 3 i0 (.int .i64 0) 1 8 Try.underlying35 hi hz0 hz1 hz2 (by rfl) (by decide) none 0 0 [] (by rfl) (World.ownsRow_nil _ _ _ _) ao l.length c (l.map (Value.int .i64)) (by rfl) (by exact hr.shows) (ints_one l) (by unfold maxLen; omega) (by omega) ?_; intro ao' c' w1 r1 r2 r3))
  go_wp2
  go_ret
  simp only [Nat.zero_add, List.nil_append] at r1 r3
  have k1 : Kept (fun _ => False) w w1 := ((Kept.refl _ w).drew).grown r2 (fun k hk => by cases hk)
  have hge : ∀ g, (Value.slice ao' l.length c').ownBlock = some g → w.heap.size ≤ g := fun g hg => (r3 g hg).elim (fun e => by cases e) id
  refine ⟨w1.heap.size, .slice ao' l.length c', rfl, ⟨Blk.new _ _ _, row_alloc r1 _, fun e => by have := row_lt r1 e; omega, hn⟩, ?_, k1.alloc _⟩
  rintro i (rfl | hi)
  · exact k1.size
  · exact hge i hi


theorem cut_neg {w : World} {b : Nat} {v : Value} {d h : Int} {l : List Int} (n : Int) (hs : IsStk w b v d h l) (h0 : n < 0) : Calls Try.prog 23 #[.pointer (some ⟨b, 0, none⟩), .int .i64 n] w fun e w' =>
    e = .returned (.tuple #[.slice none 0 0, .int .i64 2]) ∧ w = w' := by
  go_enter Try.func23, Try.ntmps23
  go_wp2_with (go_at_call 44; refine (alive_ok hs).mono ?_; rintro e w' ⟨rfl, rfl⟩)
  go_ret2
  exact ⟨rfl, rfl⟩

theorem cut_big {w : World} {b : Nat} {v : Value} {d h : Int} {l : List Int} (n : Int) (hs : IsStk w b v d h l) (h0 : l.length < n) : Calls Try.prog 23 #[.pointer (some ⟨b, 0, none⟩), .int .i64 n] w fun e w' =>
    e = .returned (.tuple #[.slice none 0 0, .int .i64 142]) ∧ w = w' := by
  have c2 := hs.1.cell 2 rfl
  obtain ⟨ao, c, rfl, hc⟩ := row_any hs.2.1
  have h1 : ¬ n < 0 := by omega
  go_enter Try.func23, Try.ntmps23
  go_wp2_with (go_at_call 44; refine (alive_ok hs).mono ?_; rintro e w' ⟨rfl, rfl⟩)
  go_ret2
  exact ⟨rfl, rfl⟩

set_option maxRecDepth 100000 in
set_option maxHeartbeats 1000000 in
theorem cut_ok {w : World} {b : Nat} {v : Value} {d h : Int} {l : List Int} (n : Nat) (hs : IsStk w b v d h l) (h0 : n ≤ l.length) : Calls Try.prog 23 #[.pointer (some ⟨b, 0, none⟩), .int .i64 n] w fun e w' =>
    ∃ ao c v', e = .returned (.tuple #[.slice ao (l.length - n) c, .int .i64 0]) ∧ IsStk w' b v' d h (l.take n) ∧ v'.ownBlock = v.ownBlock ∧ Kept (foot b v) w w' ∧
      Row w' 3 1 (.slice ao (l.length - n) c) (l.length - n) ((l.drop n).reverse.map (Value.int .i64)) ∧ (∀ g, (Value.slice ao (l.length - n) c).ownBlock = some g → w.heap.size ≤ g) := by
  have c2 := hs.1.cell 2 rfl
  have hn := hs.2.2.2
  have hbl := hs.1.lt
  obtain ⟨ao, c, rfl, hc⟩ := row_any hs.2.1
  have h1 : ¬ (n : Int) < 0 := by omega
  have h2 : ¬ (l.length : Int) < n := by omega
  have h3 : decide (l.length < n) = false := by simp; omega
  have h4 : decide ((n : Int) < 0) = false := by simp
  obtain ⟨i0, hi, hz0, hz1, hz2⟩ := info_parts info
  go_enter Try.func23, Try.ntmps23
  go_wp2_with (go_at_call 44; refine (alive_ok hs).mono ?_; rintro e w' ⟨rfl, rfl⟩)
  go_loopw [6] (fun o wr => ∃ (m : Nat) (ao' : Option Addr) (c' : Nat) (v' : Value), n ≤ m ∧ m ≤ l.length ∧ o = .slice ao' (l.length - m) c' ∧ IsStk wr b v' d h (l.take m) ∧ Hid (v'.ownBlock = (Value.slice ao l.length c).ownBlock) ∧
      Kept (foot b (.slice ao l.length c)) w wr ∧ Row wr 3 1 (.slice ao' (l.length - m) c') (l.length - m) ((l.drop m).reverse.map (Value.int .i64)) ∧ Hid (∀ g, (Value.slice ao' (l.length - m) c').ownBlock = some g → w.heap.size ≤ g))
    (fun o _ => l.length - slen o)
  case atStart => exact ⟨l.length, none, 0, _, h0, Nat.le_refl _, by simp, by simpa using hs, rfl, Kept.refl _ _, by simpa using World.ownsRow_nil w 0 _ 1, fun g hg => by simp [Value.ownBlock] at hg⟩
  case round =>
    obtain ⟨m, ao', c', v', hm1, hm2, rfl, hI, hv', hk, hrow, hfr⟩ := hrel
    have c2' := hI.1.cell 2 rfl
    have hlm : (l.take m).length = m := by simp; omega
    obtain ⟨ao2, k2, rfl, hc2⟩ := row_any hI.2.1
    rw [hlm] at c2'
    have hv2 : ∀ k, (Value.slice ao2 k k2).ownBlock = (Value.slice ao l.length c).ownBlock := fun k => by have := hv'.out; cases ao2 <;> simpa [Value.ownBlock] using this
    have hv3 := Lib.hid hv2
    clear hv2
    by_cases hgt : n < m
    · obtain ⟨p, rfl⟩ : ∃ p, m = p + 1 := ⟨m - 1, by omega⟩
      have hp : p < l.length := by omega
      obtain ⟨x, hx⟩ : ∃ x, l[p]? = some x := ⟨_, List.getElem?_eq_getElem hp⟩
      have e1 : l.take (p + 1) = l.take p ++ [x] := by rw [List.take_add_one, hx]; rfl
      have e2 : (l.drop p).reverse = (l.drop (p + 1)).reverse ++ [x] := by
        rw [List.drop_eq_getElem_cons hp, List.reverse_cons]
        rw [List.getElem?_eq_getElem hp] at hx
        cases hx; rfl
      have hpop := pop_ok x (e1 ▸ hI)
      have E2 := Lib.hid e2
      have e3 : l.length - (p + 1) + 1 = l.length - p := by omega
      have E3 := Lib.hid e3
      clear e1 e2 e3 hx
      go_wp2_with (first
        | (go_at_call 25; refine hpop.mono ?_; clear hpop; rintro e w1 ⟨rfl, v1, hI1, hv1, hk1⟩)
        | (at_builtin; refine wpList_append_any rfl (.tmp 36) (.tmp 38) 35 rfl 3 i0 (.int .i64 0) 1 8 Try.underlying35 hi hz0 hz1 hz2 rfl (by decide) _ _ _ ((l.drop (p + 1)).reverse.map (Value.int .i64)) rfl ?hrow _ 1 1 [.int .i64 x] rfl ?hnew (by simp [Value.oneCell']) ?b1 ?b2 ?_))
      case hrow => exact row_alloc (row_kept hrow hk1 (fun g hg e => by have := hfr.out g hg; omega)) _
      case hnew => exact shows_new _ [_] _ (by simp) rfl
      case b1 => unfold maxLen; omega
      case b2 => omega
      intro ao3 c3 w3 r1 r2 r3
      go_wp2
      go_roundw
      case rel =>
        have hne : ∀ i, foot b v1 i → (Value.slice ao' (l.length - (p + 1)) c').ownBlock ≠ some i := by
          rintro i (rfl | hi') e
          · have := hfr.out _ e; omega
          · rw [hv1, hv3.out] at hi'
            have := hfr.out _ e
            have := row_lt hs.2.1 hi'
            omega
        have hI3 : IsStk w3 b v1 d h (l.take p) := (hI1.kept (S := fun _ => False) ((Kept.refl _ _).alloc _) (fun _ _ h => h)).kept (S := fun i => (Value.slice ao' (l.length - (p + 1)) c').ownBlock = some i) ((Kept.refl _ _).grown r2 (fun k hk => Or.inl hk)) hne
        refine ⟨p, ao3, c3, v1, by omega, by omega, ?_, hI3, hv1.trans (hv3.out _), ?_, ?_, ?_⟩
        · rw [E3.out]
        · exact ((hk.then hk1 (fun i hi' => Or.inl (Or.inl hi'))).alloc _).grown r2 (fun k hk' => Or.inr (hfr.out k hk'))
        · rw [E3.out] at r1; rw [E2.out]; simpa using r1
        · rw [E3.out] at r3
          intro g hg
          rcases r3 g hg with h3 | h3
          · exact hfr.out g h3
          · have := hk.size; have := hk1.size; omega
      case measure => show l.length - (l.length - (p + 1) + 1) < l.length - (l.length - (p + 1)); omega
    · obtain rfl : m = n := by omega
      go_wp2_with fail
      go_ret2
      exact ⟨ao', c', _, rfl, hI, hv'.out, hk, hrow, hfr.out⟩

end Go.Proofs.Ytpbjmkdpeadjeaa.SI
