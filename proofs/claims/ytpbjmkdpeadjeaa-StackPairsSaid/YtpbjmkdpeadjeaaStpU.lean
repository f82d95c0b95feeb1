/- Pop, Find of the stack of pairs. -/
import Derived.Test.YtpbjmkdpeadjeaaStpT
import Derived.StillTailTactics
import Derived.Laws.ResultCell
namespace Go.Proofs.Ytpbjmkdpeadjeaa.SP
open Go.RowKit Go.Fr
section
variable {w : World} {b : Nat} {v : Value} {d h : Int} {l : List Pr}

set_option maxRecDepth 100000 in
set_option maxHeartbeats 4000000 in
theorem pop_none (hs : IsStk w b v d h []) : Calls Try.prog 17 #[.pointer (some ⟨b, 0, none⟩)] w fun e w' =>
    e = .returned (.tuple #[.agg #[.int .i64 0, .string ⟨#[]⟩], .int .i64 142]) ∧ Kept (fun _ => False) w w' := by
  have kA := ((Kept.refl (fun _ => False) w).alloc (.cells #[.int .i64 0, .string ⟨#[]⟩] 31)).alloc (.cells #[.int .i64 0, .string ⟨#[]⟩] 31)
  have hs2 := hs.kept kA (fun _ _ h => h)
  have hal := alive_ok hs2
  obtain ⟨hb, hr, ho, hn⟩ := hs2
  have c2 := hb.cell 2 rfl
  obtain ⟨ao, c, rfl, hc⟩ := row_any hr
  simp only [List.length_nil] at c2
  go_enter Try.func17, Try.ntmps17
  go_wp2_with (go_at_call 42; refine hal.mono ?_; rintro e w' ⟨rfl, rfl⟩)
  refine bodyPost_ret (v := .tuple #[.agg #[.int .i64 0, .string ⟨#[]⟩], .int .i64 142]) (by rw [results_cell_tmp rfl]; go_simp) rfl ⟨rfl, kA⟩

set_option maxRecDepth 100000 in
set_option maxHeartbeats 4000000 in
theorem pop_ok (x : Pr) (hs : IsStk w b v d h (l ++ [x])) : Calls Try.prog 17 #[.pointer (some ⟨b, 0, none⟩)] w fun e w' =>
    e = .returned (.tuple #[valP x, .int .i64 0]) ∧ ∃ v', IsStk w' b v' d h l ∧ v'.ownBlock = v.ownBlock ∧ Kept (fun k => k = b) w w' := by
  have kA := ((Kept.refl (fun _ => False) w).alloc (.cells #[.int .i64 0, .string ⟨#[]⟩] 31)).alloc (.cells #[.int .i64 0, .string ⟨#[]⟩] 31)
  have hs2 := hs.kept kA (fun _ _ h => h)
  have hal := alive_ok hs2
  have hblt := hs.1.lt
  obtain ⟨hb, hr, ho, hn⟩ := hs2
  have c2 := hb.cell 2 rfl
  have f2 := hb.frozen 2
  have hlen : (l ++ [x]).length = l.length + 1 := by simp
  rw [hlen] at hr hn
  obtain ⟨g, c, rfl, hc, hm, hg⟩ := row_form hr
  have hx0 : ((w.alloc (.cells #[.int .i64 0, .string ⟨#[]⟩] 31)).alloc (.cells #[.int .i64 0, .string ⟨#[]⟩] 31)).cell? ⟨g, l.length * 2, none⟩ = some (.int .i64 x.1) := rows_cell (k := l.length) (i := 0) (u := .int .i64 x.1) encP_len hr (by simp) rfl
  have hx1 : ((w.alloc (.cells #[.int .i64 0, .string ⟨#[]⟩] 31)).alloc (.cells #[.int .i64 0, .string ⟨#[]⟩] 31)).cell? ⟨g, l.length * 2 + 1, none⟩ = some (.string x.2) := rows_cell (k := l.length) (i := 1) (u := .string x.2) encP_len hr (by simp) rfl
  have hcut := row_cut hr l.length (by omega)
  have w1 : IntKind.i64.wrap (l.length : Int) = (l.length : Int) := IntWalk.i64_in _ (by omega)
  go_enter Try.func17, Try.ntmps17
  go_wp2_with (go_at_call 42; refine hal.mono ?_; rintro e w' ⟨rfl, rfl⟩)
  have hy0 : ∀ n (o : Obj), ((((w.alloc (.cells #[.int .i64 0, .string ⟨#[]⟩] 31)).alloc (.cells #[.int .i64 0, .string ⟨#[]⟩] 31)).drewN n).alloc o).cell? ⟨g, l.length * 2, none⟩ = some (.int .i64 x.1) := fun n o => rows_cell (k := l.length) (i := 0) (u := .int .i64 x.1) encP_len (row_alloc (row_drewN hr n) o) (by simp) rfl
  have hy1 : ∀ n (o : Obj), ((((w.alloc (.cells #[.int .i64 0, .string ⟨#[]⟩] 31)).alloc (.cells #[.int .i64 0, .string ⟨#[]⟩] 31)).drewN n).alloc o).cell? ⟨g, l.length * 2 + 1, none⟩ = some (.string x.2) := fun n o => rows_cell (k := l.length) (i := 1) (u := .string x.2) encP_len (row_alloc (row_drewN hr n) o) (by simp) rfl
  have hz0 : ∀ (o : Obj), (((w.alloc (.cells #[.int .i64 0, .string ⟨#[]⟩] 31)).alloc (.cells #[.int .i64 0, .string ⟨#[]⟩] 31)).alloc o).cell? ⟨g, l.length * 2, none⟩ = some (.int .i64 x.1) := fun o => rows_cell (k := l.length) (i := 0) (u := .int .i64 x.1) encP_len (row_alloc hr o) (by simp) rfl
  have hz1 : ∀ (o : Obj), (((w.alloc (.cells #[.int .i64 0, .string ⟨#[]⟩] 31)).alloc (.cells #[.int .i64 0, .string ⟨#[]⟩] 31)).alloc o).cell? ⟨g, l.length * 2 + 1, none⟩ = some (.string x.2) := fun o => rows_cell (k := l.length) (i := 1) (u := .string x.2) encP_len (row_alloc hr o) (by simp) rfl
  have cz : ∀ o : Obj, (((w.alloc (.cells #[.int .i64 0, .string ⟨#[]⟩] 31)).alloc (.cells #[.int .i64 0, .string ⟨#[]⟩] 31)).alloc o).cell? ⟨b, 2, none⟩ = some (.slice (some ⟨g, 0, none⟩) (l.length + 1) c) := fun o => (hb.alloc o).cell 2 rfl
  have cy : ∀ n (o : Obj), ((((w.alloc (.cells #[.int .i64 0, .string ⟨#[]⟩] 31)).alloc (.cells #[.int .i64 0, .string ⟨#[]⟩] 31)).drewN n).alloc o).cell? ⟨b, 2, none⟩ = some (.slice (some ⟨g, 0, none⟩) (l.length + 1) c) := fun n o => ((hb.drewN n).alloc o).cell 2 rfl
  have hi0 : (0 : Int) ≤ (l.length : Int) := by omega
  have hi1 : (l.length : Int) < (l.length : Int) + 1 := by omega
  go_cut [5] from 19 to 30 (fun t5 wx => t5 = .pointer (some ⟨w.heap.size + 1 + 1, 0, none⟩) ∧ ∃ n, wx = (((w.alloc (.cells #[.int .i64 0, .string ⟨#[]⟩] 31)).alloc (.cells #[.int .i64 0, .string ⟨#[]⟩] 31)).alloc (.cells #[.int .i64 x.1, .string x.2] 31)).drewN n)
  case first =>
    refine wp_region_noPanic ?_
    go_region_law fail
    all_goals
      refine NoPanic.normal ?_
      go_wp2_with fail
      go_meet
      exact ⟨rfl, 1, rfl⟩
  case rest =>
    obtain ⟨rfl, n, rfl⟩ := hcut
    have kX := (kA.alloc (.cells #[.int .i64 x.1, .string x.2] 31)).drewN n
    have hb3 := (hb.alloc (.cells #[.int .i64 x.1, .string x.2] 31)).drewN n
    have hcut3 := row_drewN (row_alloc hcut (.cells #[.int .i64 x.1, .string x.2] 31)) n
    have bx := (Blk.new ((w.alloc (.cells #[.int .i64 0, .string ⟨#[]⟩] 31)).alloc (.cells #[.int .i64 0, .string ⟨#[]⟩] 31)) [.int .i64 x.1, .string x.2] 31).drewN n
    have b2 := (((Blk.new w [.int .i64 0, .string ⟨#[]⟩] 31).alloc (.cells #[.int .i64 0, .string ⟨#[]⟩] 31)).alloc (.cells #[.int .i64 x.1, .string x.2] 31)).drewN n
    have hgl := row_lt hs.2.1 (k := g) rfl
    rw [World.size_alloc, World.size_alloc] at bx
    clear cz cy hy0 hy1 hz0 hz1 hx0 hx1 hi0 hi1 c2 f2 hb hr hcut hal kA
    obtain ⟨W3, hW3⟩ : ∃ W3, (((w.alloc (.cells #[.int .i64 0, .string ⟨#[]⟩] 31)).alloc (.cells #[.int .i64 0, .string ⟨#[]⟩] 31)).alloc (.cells #[.int .i64 x.1, .string x.2] 31)).drewN n = W3 := ⟨_, rfl⟩
    rw [hW3] at kX hb3 hcut3 bx b2 ⊢
    clear hW3
    have c2 := hb3.cell 2 rfl
    have f2 := hb3.frozen 2
    have ho' : (Value.slice (some ⟨g, 0, none⟩) l.length c).ownBlock ≠ some b := by simpa [Value.ownBlock] using ho
    have hgb : g ≠ b := fun e => ho (by rw [← e]; rfl)
    have nb2 : b ≠ w.heap.size := by omega
    have nb4 : b ≠ w.heap.size + 1 + 1 := by omega
    have ng2 : g ≠ w.heap.size := by omega
    have hi0 : (0 : Int) ≤ (l.length : Int) := by omega
    have hi1 : (l.length : Int) ≤ (l.length : Int) + 1 := by omega
    have hi2 : (l.length : Int) ≤ (c : Int) := by omega
    go_upto_region 7 with fail
    go_cut [] from 31 to 44 (fun wz => ∃ wx : World, wx = wz ∧ Blk wx b [.bool true, .int .i64 d, .slice (some ⟨g, 0, none⟩) l.length c, .int .i64 h] 77 ∧ Row wx 31 2 (.slice (some ⟨g, 0, none⟩) l.length c) l.length (l.flatMap encP) ∧ Blk wx (w.heap.size + 1 + 1) [.int .i64 x.1, .string x.2] 31 ∧ Blk wx w.heap.size [.int .i64 0, .string ⟨#[]⟩] 31 ∧ Kept (fun i => i = b) w wx)
    case first =>
      refine wp_region_noPanic ?_
      go_region
      all_goals
        refine NoPanic.normal ?_
        go_wp2_with fail
        go_meet
        refine ⟨_, rfl, Blk.heap (hb3.set 2 (.slice (some ⟨g, 0, none⟩) l.length c)) rfl, ?_, Blk.heap (bx.other (p := ⟨b, 2, none⟩) nb4 (.slice (some ⟨g, 0, none⟩) l.length c)) rfl, Blk.heap (b2.other (p := ⟨b, 2, none⟩) nb2 (.slice (some ⟨g, 0, none⟩) l.length c)) rfl, ?_⟩
        · have := row_setCell_other hcut3 (a := ⟨b, 2, none⟩) ho' (.slice (some ⟨g, 0, none⟩) l.length c)
          have e : (List.flatMap encP (l ++ [x])).take (l.length * 2) = l.flatMap encP := by
            rw [List.flatMap_append, List.take_append_of_le_length (by rw [flat_length encP_len]; omega), List.take_of_length_le (by rw [flat_length encP_len]; omega)]
          rw [e] at this
          exact row_heap this (fun _ _ => rfl)
        · exact ((kX.mono (S' := fun i => i = b) (fun _ _ h => h.elim)).set (b := b) 2 (Or.inl rfl) (.slice (some ⟨g, 0, none⟩) l.length c)).same rfl rfl rfl rfl
    case rest =>
      obtain ⟨wx, rfl, hb4, hr4, bx4, b24, k4⟩ := hcut
      clear hb3 hcut3 bx b2 kX c2 f2 hn
      have y0 := bx4.cell 0 rfl
      have y1 := bx4.cell 1 rfl
      have z0 := b24.cell 0 rfl
      have z1 := b24.cell 1 rfl
      have g0 := b24.frozen 0
      have g1 := b24.frozen 1
      have q : IsStk ((wx.setCell ⟨w.heap.size, 0, none⟩ (.int .i64 x.1)).setCell ⟨w.heap.size, 1, none⟩ (.string x.2)) b (.slice (some ⟨g, 0, none⟩) l.length c) d h l := by
        have h4 : IsStk wx b (.slice (some ⟨g, 0, none⟩) l.length c) d h l := ⟨hb4, hr4, ho', by have := hs.2.2.2; simp at this; omega⟩
        refine h4.kept (((Kept.refl (fun i => i = w.heap.size) wx).setCell (p := ⟨w.heap.size, 0, none⟩) (Or.inl rfl) (.int .i64 x.1)).setCell (p := ⟨w.heap.size, 1, none⟩) (Or.inl rfl) (.string x.2)) ?_
        rintro i (hi | hi) e
        · omega
        · simp [Value.ownBlock] at hi; omega
      have kf := (k4.setCell (p := ⟨w.heap.size, 0, none⟩) (Or.inr (Nat.le_refl _)) (.int .i64 x.1)).setCell (p := ⟨w.heap.size, 1, none⟩) (Or.inr (Nat.le_refl _)) (.string x.2)
      have Q := Lib.hid q
      have K := Lib.hid kf
      clear q kf hb4 hr4 bx4 k4 hs
      go_wp2
      refine bodyPost_ret (v := .tuple #[valP x, .int .i64 0]) (by rw [results_cell_tmp rfl]; go_simp) rfl ⟨rfl, _, Q.out, rfl, K.out⟩
end
end Go.Proofs.Ytpbjmkdpeadjeaa.SP
