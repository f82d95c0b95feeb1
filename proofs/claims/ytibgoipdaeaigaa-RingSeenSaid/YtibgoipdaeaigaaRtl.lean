/- tappetlaw12: same, told. -/
import Derived.Test.YtibgoipdaeaigaaRrf
import Derived.Test.YtibgoipdaeaigaaRngAll
import Derived.Test.YtibgoipdaeaigaaRngA
namespace Go.Proofs.Ytibgoipdaeaigaa.L
open Go.RowKit Go.Fr Go.Proofs.Ytibgoipdaeaigaa.RI Go.Proofs.Ytibgoipdaeaigaa.RR

set_option maxRecDepth 100000 in
set_option maxHeartbeats 1000000 in
theorem same_ok {w : World} {ao bo : Option Addr} {c c' : Nat} {l : List Int} (ha : Row w 3 1 (.slice ao l.length c) l.length (l.map (Value.int .i64))) (hb : Row w 3 1 (.slice bo l.length c') l.length (l.map (Value.int .i64))) (hn : l.length ≤ 2147483647) :
    Calls Try.prog 55 #[.slice ao l.length c, .slice bo l.length c'] w fun e w' => e = .returned (.bool true) ∧ Kept (fun _ => False) w w' := by
  go_enter Try.func55, Try.ntmps55
  go_wp2
  go_loopw [5] (fun n wr => ∃ k m : Nat, k ≤ l.length ∧ n = .int .i64 k ∧ wr = w.drewN m) (fun n _ => l.length - (intOf n).toNat)
  case atStart => exact ⟨0, 0, Nat.zero_le _, rfl, rfl⟩
  case round =>
    obtain ⟨k, m, hk, rfl, rfl⟩ := hrel
    by_cases hlt : k < l.length
    · have hk0 : (0 : Int) ≤ (k : Int) := Int.natCast_nonneg _
      have hk1 : (k : Int) < (l.length : Int) := by omega
      obtain ⟨x, hx⟩ : ∃ x, l[k]? = some x := ⟨_, List.getElem?_eq_getElem hlt⟩
      have key : ∀ {ao : Option Addr} {c : Nat}, Row w 3 1 (.slice ao l.length c) l.length (l.map (Value.int .i64)) → ∃ g, ao = some ⟨g, 0, none⟩ ∧ w.cell? ⟨g, k, none⟩ = some (.int .i64 x) := by
        intro ao c h
        rcases row_forms h with ⟨_, h0⟩ | ⟨g, c', hv, _⟩
        · omega
        · cases hv
          exact ⟨g, rfl, row_cell h k (by rw [List.getElem?_map, hx]; rfl)⟩
      obtain ⟨g, rfl, hg⟩ := key ha
      obtain ⟨g', rfl, hg'⟩ := key hb
      clear key hx
      go_wp2
      go_quiet (fail)
      go_wp2
      go_roundw
      case rel => exact ⟨k + 1, _, by omega, by go_num, rfl⟩
      case measure => simp [intOf]; omega
    · go_wp2
      go_ret
      exact ⟨rfl, (Kept.refl _ _).drewN _⟩

theorem same_ok' {w : World} {ao bo : Option Addr} {c c' N : Nat} {l : List Int} (e : l.length = N) (ha : Row w 3 1 (.slice ao N c) N (l.map (Value.int .i64))) (hb : Row w 3 1 (.slice bo N c') N (l.map (Value.int .i64))) (hn : N ≤ 2147483647) :
    Calls Try.prog 55 #[.slice ao N c, .slice bo N c'] w fun e w' => e = .returned (.bool true) ∧ Kept (fun _ => False) w w' := by
  subst e; exact same_ok ha hb hn

/-- a ring of some cells -/
def IsRg (w : World) (b : Nat) (v : Value) (room : Nat) (high : Int) (l : List Int) : Prop := ∃ f cs, IsRing w b v room f high cs l

section
variable {w w' : World} {b : Nat} {v : Value} {room : Nat} {high : Int} {l : List Int}
theorem IsRg.kept {S : Nat → Prop} (hs : IsRg w b v room high l) (k : Kept S w w') (hn : ∀ i, foot b v i → ¬ S i) : IsRg w' b v room high l := by
  obtain ⟨f, cs, hs⟩ := hs; exact ⟨f, cs, hs.kept k hn⟩
theorem IsRg.lt (hs : IsRg w b v room high l) : ∀ i, foot b v i → i < w.heap.size := by obtain ⟨f, cs, hs⟩ := hs; exact hs.lt
theorem IsRg.drewN (n : Nat) (hs : IsRg w b v room high l) : IsRg (w.drewN n) b v room high l := hs
theorem IsRg.len (hs : IsRg w b v room high l) : l.length ≤ room ∧ room ≤ 65536 := by obtain ⟨f, cs, hs⟩ := hs; exact ⟨hs.len, hs.2.2.2.2.1⟩

theorem rg_len (hs : IsRg w b v room high l) : Calls Try.prog 26 #[.pointer (some ⟨b, 0, none⟩)] w fun e w' => e = .returned (.int .i64 l.length) ∧ w = w' := by obtain ⟨f, cs, hs⟩ := hs; exact len_ok hs
theorem rg_room (hs : IsRg w b v room high l) : Calls Try.prog 35 #[.pointer (some ⟨b, 0, none⟩)] w fun e w' => e = .returned (.int .i64 room) ∧ w = w' := by obtain ⟨f, cs, hs⟩ := hs; exact room_ok hs
theorem rg_high (hs : IsRg w b v room high l) : Calls Try.prog 28 #[.pointer (some ⟨b, 0, none⟩)] w fun e w' => e = .returned (.int .i64 high) ∧ w = w' := by obtain ⟨f, cs, hs⟩ := hs; exact high_ok hs
theorem rg_full (hs : IsRg w b v room high l) : Calls Try.prog 36 #[.pointer (some ⟨b, 0, none⟩)] w fun e w' => e = .returned (.bool (decide (room ≤ l.length))) ∧ ∃ n, w' = w.drewN n := by obtain ⟨f, cs, hs⟩ := hs; exact full_ok hs
theorem rg_all (hs : IsRg w b v room high l) : Calls Try.prog 56 #[.pointer (some ⟨b, 0, none⟩)] w fun e w' =>
    ∃ ao c, e = .returned (.slice ao l.length c) ∧ Row w' 3 1 (.slice ao l.length c) l.length (l.map (Value.int .i64)) ∧ (∀ g, (Value.slice ao l.length c).ownBlock = some g → w.heap.size ≤ g) ∧ Kept (fun _ => False) w w' := by obtain ⟨f, cs, hs⟩ := hs; exact all_law hs
end

/-- a ring and the document's, with the same things -/
structure Both (w : World) (s b : Nat) (D : Nat) (v v' : Value) (h : Int) (l : List Int) : Prop where
  hs : IsRg w s v D h l
  hr : IsRef w b v' true D h l
  dis : Dis (foot s v) (foot b v')

theorem Both.kept {w w' : World} {s b D : Nat} {v v' : Value} {h : Int} {l : List Int} {S : Nat → Prop} (hb : Both w s b D v v' h l) (k : Kept S w w') (hn : ∀ i, foot s v i → ¬ S i) (hn' : ∀ i, foot b v' i → ¬ S i) : Both w' s b D v v' h l :=
  ⟨hb.hs.kept k hn, hb.hr.kept k hn', hb.dis⟩

set_option maxRecDepth 100000 in
set_option maxHeartbeats 4000000 in
theorem told_ok {w : World} {s b D : Nat} {v v' : Value} {h : Int} {l : List Int} (hB : Both w s b D v v' h l) :
    Calls Try.prog 31 #[.pointer (some ⟨s, 0, none⟩), .pointer (some ⟨b, 0, none⟩)] w fun e w' => e = .returned (.bool true) ∧ Kept (fun _ => False) w w' := by
  have hn := hB.hs.len
  have hr1 := hB.hr
  have d0 := hr1.1.cell 1 rfl
  have d2 := hr1.1.cell 3 rfl
  have d1 := hr1.1.cell 2 rfl
  obtain ⟨aw, cw, rfl, hcw⟩ := row_any hr1.2.1
  have hblt := hr1.1.lt
  have hfe : (decide (D ≤ l.length) == decide ((D : Int) ≤ (l.length : Int))) = true := by simp
  go_enter Try.func31, Try.ntmps31
  go_wp2_with fail
  refine wp_region_noPanic ?_
  go_region_held3 (fun w' => w'.cell? ⟨b, 1, none⟩ = some (.int .i64 D) ∧ w'.cell? ⟨b, 2, none⟩ = some (.slice aw l.length cw) ∧ w'.cell? ⟨b, 3, none⟩ = some (.int .i64 h))
    (first
      | (simp [*]; done)
      | (go_split_ands
         refine ⟨?_, ?_, ?_⟩ <;> (first | exact (k5.cell (p := ⟨b, _, none⟩) (Nat.lt_of_lt_of_le hblt k4.undrew.size) (fun h => h)).trans (by assumption) | exact (k4.undrew.cell (p := ⟨b, _, none⟩) hblt (fun h => h)).trans (by assumption) | fail))
      | fail)
    (first
      | (go_at_call 26; refine (rg_len (hB.hs.drewN _)).mono ?_; rintro e w' ⟨rfl, rfl⟩)
      | (go_at_call 35; refine (rg_room (hB.hs.drewN _)).mono ?_; rintro e w' ⟨rfl, rfl⟩)
      | (go_at_call 28; refine (rg_high (hB.hs.drewN _)).mono ?_; rintro e w' ⟨rfl, rfl⟩)
      | (go_at_call 36; refine (rg_full (hB.hs.drewN _)).mono ?_; rintro e w' ⟨rfl, nf, rfl⟩)
      | (go_at_call 54; refine (RR.full_ok (hB.hr.drew _)).mono ?_; rintro e w' ⟨rfl, nr, rfl⟩)
      | (go_at_call 56; refine (rg_all (hB.hs.drewN _)).mono ?_; rintro e w4 ⟨a4, c4, rfl, r4, f4, k4⟩)
      | (go_at_call 55; refine (same_ok r4 (row_kept hr1.2.1 k4.undrew (fun _ _ h => h)) (by omega)).mono ?_; rintro e w5 ⟨rfl, k5⟩))
  refine NoPanic.normal ?_
  go_wp2
  go_ret
  exact ⟨rfl, k4.undrew.then k5 (fun _ h => Or.inl h)⟩
end Go.Proofs.Ytibgoipdaeaigaa.L
