/- tappetlaw14: same, told. -/
import Derived.Test.YtpbjmkdpeadjeaaRefT
import Derived.Test.YtpbjmkdpeadjeaaStkAll
import Derived.Test.YtpbjmkdpeadjeaaAlive
namespace Go.Proofs.Ytpbjmkdpeadjeaa.L
open Go.RowKit Go.Fr Go.Proofs.Ytpbjmkdpeadjeaa.SI Go.Proofs.Ytpbjmkdpeadjeaa.RS

set_option maxRecDepth 100000 in
set_option maxHeartbeats 1000000 in
theorem same_ok {w : World} {ao bo : Option Addr} {c c' : Nat} {l : List Int} (ha : Row w 3 1 (.slice ao l.length c) l.length (l.map (Value.int .i64))) (hb : Row w 3 1 (.slice bo l.length c') l.length (l.map (Value.int .i64))) (hn : l.length ≤ 2147483647) :
    Calls Try.prog 48 #[.slice ao l.length c, .slice bo l.length c'] w fun e w' => e = .returned (.bool true) ∧ Kept (fun _ => False) w w' := by
  go_enter Try.func48, Try.ntmps48
  go_wp2
  go_loopw [5] (fun n wr => ∃ k m : Nat, k ≤ l.length ∧ n = .int .i64 k ∧ wr = w.drewN m) (fun n _ => l.length - (intOf n).toNat)
  case atStart => exact ⟨0, 0, Nat.zero_le _, rfl, rfl⟩
  case round =>
    obtain ⟨k, m, hk, rfl, rfl⟩ := hrel
    by_cases hlt : k < l.length
    · have hk0 : (0 : Int) ≤ (k : Int) := Int.natCast_nonneg _
      have hk1 : (k : Int) < (l.length : Int) := by omega
      obtain ⟨x, hx⟩ : ∃ x, l[k]? = some x := ⟨_, List.getElem?_eq_getElem hlt⟩
      have key : ∀ {ao : Option Addr} {c : Nat}, Row w 3 1 (.slice ao l.length c) l.length (l.map (Value.int .i64)) → ∃ g, ao = some ⟨g, 0, none⟩ ∧ w.cell? ⟨g, k, none⟩ = some (.int .i64 x) := by
        intro ao c h
        rcases row_forms h with ⟨_, h0⟩ | ⟨g, c', hv, _⟩
        · omega
        · cases hv
          exact ⟨g, rfl, row_cell h k (by rw [List.getElem?_map, hx]; rfl)⟩
      obtain ⟨g, rfl, hg⟩ := key ha
      obtain ⟨g', rfl, hg'⟩ := key hb
      clear key hx
      go_wp2
      go_quiet (fail)
      go_wp2
      go_roundw
      case rel => exact ⟨k + 1, _, by omega, by go_num, rfl⟩
      case measure => simp [intOf]; omega
    · go_wp2
      go_ret
      exact ⟨rfl, (Kept.refl _ _).drewN _⟩

theorem same_ok' {w : World} {ao bo : Option Addr} {c c' N : Nat} {l : List Int} (e : l.length = N) (ha : Row w 3 1 (.slice ao N c) N (l.map (Value.int .i64))) (hb : Row w 3 1 (.slice bo N c') N (l.map (Value.int .i64))) (hn : N ≤ 2147483647) :
    Calls Try.prog 48 #[.slice ao N c, .slice bo N c'] w fun e w' => e = .returned (.bool true) ∧ Kept (fun _ => False) w w' := by
  subst e; exact same_ok ha hb hn

/-- a stack and the document's, with the same things -/
structure Both (w : World) (s b : Nat) (D : Nat) (v v' : Value) (h : Int) (l : List Int) : Prop where
  hs : IsStk w s v D h l
  hr : IsRef w b v' true D h l
  dis : Dis (foot s v) (foot b v')
  room : l.length ≤ D
  high : l.length ≤ h
  top : D ≤ 1024

theorem stk_drew {w : World} {b : Nat} {v : Value} {d h : Int} {l : List Int} (n : Nat) (hs : IsStk w b v d h l) : IsStk (w.drewN n) b v d h l := hs

theorem stk_lt {w : World} {b : Nat} {v : Value} {d h : Int} {l : List Int} (hs : IsStk w b v d h l) : ∀ i, foot b v i → i < w.heap.size := by
  rintro i (rfl | hi)
  · exact hs.1.lt
  · exact row_lt hs.2.1 hi

theorem Both.kept {w w' : World} {s b D : Nat} {v v' : Value} {h : Int} {l : List Int} {S : Nat → Prop} (hb : Both w s b D v v' h l) (k : Kept S w w') (hn : ∀ i, foot s v i → ¬ S i) (hn' : ∀ i, foot b v' i → ¬ S i) : Both w' s b D v v' h l :=
  ⟨hb.hs.kept k hn, hb.hr.kept k hn', hb.dis, hb.room, hb.high, hb.top⟩

set_option maxRecDepth 100000 in
set_option maxHeartbeats 2000000 in
theorem told_ok {w : World} {s b D : Nat} {v v' : Value} {h : Int} {l : List Int} (hB : Both w s b D v v' h l) :
    Calls Try.prog 30 #[.pointer (some ⟨s, 0, none⟩), .pointer (some ⟨b, 0, none⟩)] w fun e w' => e = .returned (.bool true) ∧ Kept (fun _ => False) w w' := by
  have hn := hB.hs.2.2.2
  rcases List.eq_nil_or_concat l with rfl | ⟨l0, x, hl0⟩
  · go_enter Try.func30, Try.ntmps30
    go_wp2_with fail
    refine (top_none hB.hs).mono ?_
    rintro e w1 ⟨rfl, rfl⟩
    go_wp2_with fail
    refine (down_ok hB.hr).mono ?_
    rintro e w1 ⟨ao, c, rfl, hrow, hfr, hk⟩
    have hB1 := hB.kept hk (fun _ _ h => h) (fun _ _ h => h)
    go_wp2_with fail
    have hr1 := hB1.hr
    have d0 := hr1.1.cell 1 rfl
    have d2 := hr1.1.cell 3 rfl
    have d1 := hr1.1.cell 2 rfl
    obtain ⟨aw, cw, rfl, hcw⟩ := row_any hr1.2.1
    have hblt := hr1.1.lt
    refine wp_region_noPanic ?_
    go_region_held3 (fun w' => w'.cell? ⟨b, 1, none⟩ = some (.int .i64 D) ∧ w'.cell? ⟨b, 2, none⟩ = some (.slice aw 0 cw) ∧ w'.cell? ⟨b, 3, none⟩ = some (.int .i64 h))
      (first
        | (simp [*]; done)
        | (go_split_ands
           refine ⟨?_, ?_, ?_⟩ <;> (first | exact (k5.cell (p := ⟨b, _, none⟩) (Nat.lt_of_lt_of_le hblt k4.undrew.size) (fun h => h)).trans (by assumption) | exact (k4.undrew.cell (p := ⟨b, _, none⟩) hblt (fun h => h)).trans (by assumption) | fail))
        | fail)
      (first
        | (go_at_call 24; refine (len_ok (stk_drew _ hB1.hs)).mono ?_; rintro e w' ⟨rfl, rfl⟩)
        | (go_at_call 34; refine (depth_ok (stk_drew _ hB1.hs)).mono ?_; rintro e w' ⟨rfl, rfl⟩)
        | (go_at_call 26; refine (high_ok (stk_drew _ hB1.hs)).mono ?_; rintro e w' ⟨rfl, rfl⟩)
        | (go_at_call 50; refine (all_law (stk_drew _ hB1.hs)).mono ?_; rintro e w4 ⟨a4, c4, rfl, r4, f4, k4⟩)
        | (go_at_call 48; refine (same_ok (l := ([] : List Int).reverse) r4 (row_kept hrow k4.undrew (fun _ _ h => h)) (by simp)).mono ?_; rintro e w5 ⟨rfl, k5⟩))
    refine NoPanic.normal ?_
    go_wp2
    go_ret
    exact ⟨rfl, (hk.then k4.undrew (fun _ h => Or.inl h)).then k5 (fun _ h => Or.inl h)⟩
  · rw [List.concat_eq_append] at hl0
    have hs0 : IsStk w s v D h (l0 ++ [x]) := hl0 ▸ hB.hs
    go_enter Try.func30, Try.ntmps30
    go_wp2_with fail
    refine (top_ok x hs0).mono ?_
    rintro e w0 ⟨rfl, n0, rfl⟩
    go_wp2_with fail
    refine (down_ok (hB.hr.drew n0)).mono ?_
    rintro e w1 ⟨ao, c, rfl, hrow, hfr, hk'⟩
    have hk := hk'.undrew
    clear hk'
    have hB1 := hB.kept hk (fun _ _ h => h) (fun _ _ h => h)
    obtain ⟨ga, rfl, hga⟩ : ∃ g, ao = some ⟨g, 0, none⟩ ∧ w1.cell? ⟨g, 0, none⟩ = some (.int .i64 x) := by
      rcases row_forms hrow with ⟨_, h0⟩ | ⟨g, c', hv, _⟩
      · rw [hl0] at h0; simp at h0
      · cases hv
        exact ⟨g, rfl, row_cell hrow 0 (by rw [hl0]; simp)⟩
    have hlen' : (0 : Nat) < l.length := by rw [hl0]; simp
    have hlen : (0 : Int) < (l.length : Int) := by omega
    clear hl0 hs0
    go_wp2_with fail
    have hr1 := hB1.hr
    have d0 := hr1.1.cell 1 rfl
    have d2 := hr1.1.cell 3 rfl
    have d1 := hr1.1.cell 2 rfl
    obtain ⟨aw, cw, rfl, hcw⟩ := row_any hr1.2.1
    have hblt := hr1.1.lt
    refine wp_region_noPanic ?_
    go_region_held3 (fun w' => w'.cell? ⟨b, 1, none⟩ = some (.int .i64 D) ∧ w'.cell? ⟨b, 2, none⟩ = some (.slice aw l.length cw) ∧ w'.cell? ⟨b, 3, none⟩ = some (.int .i64 h))
      (first
        | (simp [*]; done)
        | (go_split_ands
           refine ⟨?_, ?_, ?_⟩ <;> (first | exact (k5.cell (p := ⟨b, _, none⟩) (Nat.lt_of_lt_of_le hblt k4.undrew.size) (fun h => h)).trans (by assumption) | exact (k4.undrew.cell (p := ⟨b, _, none⟩) hblt (fun h => h)).trans (by assumption) | fail))
        | fail)
      (first
        | (go_at_call 24; refine (len_ok (stk_drew _ hB1.hs)).mono ?_; rintro e w' ⟨rfl, rfl⟩)
        | (go_at_call 34; refine (depth_ok (stk_drew _ hB1.hs)).mono ?_; rintro e w' ⟨rfl, rfl⟩)
        | (go_at_call 26; refine (high_ok (stk_drew _ hB1.hs)).mono ?_; rintro e w' ⟨rfl, rfl⟩)
        | (go_at_call 50; refine (all_law (stk_drew _ hB1.hs)).mono ?_; rintro e w4 ⟨a4, c4, rfl, r4, f4, k4⟩)
        | (go_at_call 48; refine (same_ok' (l := l.reverse) List.length_reverse r4 (row_kept hrow k4.undrew (fun _ _ h => h)) hn).mono ?_; rintro e w5 ⟨rfl, k5⟩))
    refine NoPanic.normal ?_
    go_wp2
    go_ret
    exact ⟨rfl, (hk.then k4.undrew (fun _ h => Or.inl h)).then k5 (fun _ h => Or.inl h)⟩

end Go.Proofs.Ytpbjmkdpeadjeaa.L
