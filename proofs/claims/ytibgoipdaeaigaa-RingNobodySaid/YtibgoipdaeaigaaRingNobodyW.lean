/- R1, the walk. -/
import Derived.Test.YtibgoipdaeaigaaRde
import Derived.Test.YtibgoipdaeaigaaRgt
namespace Go.Proofs.Ytibgoipdaeaigaa.ringNobodyW
open Go.RowKit Go.Fr Go.Shelf Go.Proofs.Ytibgoipdaeaigaa.RI Go.Proofs.Ytibgoipdaeaigaa.RR Go.Proofs.Ytibgoipdaeaigaa.L
attribute [local go_sem] Oper.semAt_some

set_option maxRecDepth 100000 in
set_option maxHeartbeats 2000000 in
theorem dead_in (n l Bn : Nat) (p : Option Addr) (J Jx : List Int → World → Prop) (W : World) (hn : 1 ≤ n) (hJ : J [] W)
    (hBn : W.cell? ⟨Bn, 0, none⟩ = some (.pointer p)) (hd : Dead W p) :
    CallsIn Fence.wide n Try.prog 52 #[.func (.yield l) #[] #[], .pointer (some ⟨Bn, 0, none⟩)] W fun e W' => (∃ v, e = .returned v) ∧
      ((∃ ys, ys = ([] : List Int) ∧ J ys W') ∨ (∃ pre, pre = ([] : List Int) ∧ Jx pre W')) := by
  refine callsIn_of_wp Try.func52 rfl trivial ?_ rfl
  simp only [Try.ntmps52, List.size_toArray, List.length_cons, List.length_nil, Nat.reduceAdd, Nat.reduceSub, Array.replicate_succ, Array.replicate_zero, List.push_toArray, List.append_toArray, List.nil_append, List.cons_append]
  gi_wp2_with (refine ⟨trivial, ?_⟩; gi_at_call 48; refine (callsIn_wide.2 (dead_alive hd)).mono ?_; rintro e w' ⟨rfl, rfl⟩)
  refine bodyPost_ret (results_none rfl _ _ _) rfl ?_
  exact ⟨⟨_, rfl⟩, .inl ⟨_, rfl, hJ⟩⟩

theorem Dead.below {w W : World} {p : Option Addr} (h : Dead w p) (k : Below w.heap.size w W) : Dead W p := by
  rcases h with h | ⟨b, h, hb⟩
  · exact Or.inl h
  · exact Or.inr ⟨b, h, Blk.heap hb (k.block _ hb.lt)⟩

theorem dead_stops (n Bn : Nat) (p : Option Addr) (w : World) (hn : 1 ≤ n) (hB : Bn < w.heap.size) (hBn : w.cell? ⟨Bn, 0, none⟩ = some (.pointer p)) (hd : Dead w p) :
    SeqStopsK Fence.wide n Try.prog 52 #[.pointer (some ⟨Bn, 0, none⟩)] (fun x : Int => #[Value.int .i64 x]) (fun _ _ => True) (fun ys => ys = []) (fun pre => pre = []) 0 w :=
  fun l J Jx W hW _ _ _ h0 => dead_in n l Bn p J Jx W hn h0 ((hW.cell (p := ⟨Bn, 0, none⟩) hB).trans hBn) (Dead.below hd hW)

set_option maxRecDepth 100000 in
set_option maxHeartbeats 4000000 in
theorem walk (w : World) (a0 : Option Addr) (cap0 : Nat) (l0 : List (Int × Int)) (hl0 : l0.length ≤ cap0) (hm0 : cap0 ≤ maxLen) (hc0 : CameL w 2 (encKK .i64 .i64) a0 l0)
    (hw0 : ∀ x ∈ l0, (Lit.int .i64 x.1).wf = true ∧ (Lit.int .i64 x.2).wf = true) (a1 : Bool) :
    Calls Try.prog 10 #[.slice a0 l0.length cap0, .bool a1] w fun e w' => e = .returned (.bool true) ∧ Below w.heap.size w w' := by
  unfold maxLen at hm0
  clear hw0
  have hnf := seq_nil
  refine callsIn_wide (n := 8) |>.1 ?_
  refine callsIn_of_wp_marks Try.func10 rfl trivial ?_ rfl
  simp only [Try.ntmps10, List.size_toArray, List.length_cons, List.length_nil, Nat.reduceAdd, Nat.reduceSub, Array.replicate_succ, Array.replicate_zero, List.push_toArray, List.append_toArray, List.nil_append, List.cons_append]
  cases a1
  · gi_wp2
    have hD : Dead (w.alloc (.cells #[.bool false, .int .i64 0, .slice none 0 0, .int .i64 0] 37)) none := Or.inl rfl
    have hR : DeadR (w.alloc (.cells #[.bool false, .int .i64 0, .slice none 0 0, .int .i64 0] 37)) w.heap.size := ⟨Blk.new w [.bool false, .int .i64 0, .slice none 0 0, .int .i64 0] _, World.ownsRow_nil _ _ _ _, by simp [Value.ownBlock], by simp⟩
    have hB : Below w.heap.size w (w.alloc (.cells #[.bool false, .int .i64 0, .slice none 0 0, .int .i64 0] 37)) := ((Kept.refl (fun _ => False) w).alloc _).below (Nat.le_refl _) (fun _ h => h.elim)
    have hP := Lib.hid (And.intro hD (And.intro hR hB))
    clear hD hR hB
    gi_loopw [7] (fun i wr => ∃ k : Nat, k ≤ l0.length ∧ i = .int .i64 k ∧ Hid (Dead wr none ∧ DeadR wr w.heap.size ∧ Below w.heap.size w wr ∧ w.heap.size ≤ wr.heap.size)) (fun i _ => l0.length - (intOf i).toNat)
    case atStart => exact ⟨0, Nat.zero_le _, rfl, hP.out.1, hP.out.2.1, hP.out.2.2, by simp⟩
    case round =>
      obtain ⟨k, hk, rfl, hD, hR, hB, hz⟩ := hrel
      by_cases hlt : k < l0.length
      · obtain ⟨x, y, hx⟩ := pair_at hlt
        obtain ⟨ab, off, rfl, hab, e1, e2⟩ := elem_pair hc0 hB hx
        have Hx := Lib.hid hx
        have Hc := Lib.hid hc0
        clear hx hc0
        have hk0 : (0 : Int) ≤ (k : Int) := Int.natCast_nonneg _
        have hk1 : (k : Int) < (l0.length : Int) := by omega
        have hpl := play_dead x y hD hR (fun a e => by cases e)
        gi_wp2_with (refine ⟨trivial, ?_⟩; gi_at_call 29; refine (callsIn_wide.2 hpl).mono ?_; rintro e w4 ⟨rfl, hD4, hR4, k4⟩)
        have hN : Hid (Dead w4 none ∧ DeadR w4 w.heap.size ∧ Below w.heap.size w w4 ∧ w.heap.size ≤ w4.heap.size) := ⟨hD4, hR4, hB.trans (k4.below hz (fun i e => by omega)), Nat.le_trans hz k4.size⟩
        clear k4 hpl hD hR hB hz e1 e2 hD4 hR4
        gi_wp2
        go_roundw
        case rel => exact ⟨k + 1, by omega, by go_num, hN⟩
        case measure => simp [intOf]; omega
      · clear hc0
        gi_wp2_with (refine ⟨trivial, ?_⟩; gi_at_call 30; refine (callsIn_wide.2 (dead_all _ _)).mono ?_; rintro e w' ⟨rfl, rfl⟩)
        have hD2 := hD.kept (((Kept.refl (fun _ => False) wr).alloc (.cells #[.pointer none] 53)).alloc (.cells #[.int .i64 0] 3))
        have bN := (Blk.new wr [.pointer none] 53).alloc (.cells #[.int .i64 0] 3)
        have bI := Blk.new (wr.alloc (.cells #[.pointer none] 53)) [.int .i64 0] 3
        have hB2 := hB.trans ((((Kept.refl (fun _ => False) wr).alloc (.cells #[.pointer none] 53)).alloc (.cells #[.int .i64 0] 3)).below hz (fun _ h => h.elim))
        have hsz : ((wr.alloc (.cells #[.pointer none] 53)).alloc (.cells #[.int .i64 0] 3)).heap.size = wr.heap.size + 2 := by simp
        rw [World.size_alloc] at bI
        obtain ⟨W0, hW0⟩ : ∃ W0, (wr.alloc (.cells #[.pointer none] 53)).alloc (.cells #[.int .i64 0] 3) = W0 := ⟨_, rfl⟩
        rw [hW0] at hD2 bN bI hB2 hsz ⊢
        clear hW0 hD hR hB
        refine wpIn_rangeFunc_ownG rfl (by decide) (gf := 52) (lb := #[.pointer (some ⟨wr.heap.size, 0, none⟩)]) rfl trivial (enters_of Try.func52 (by kernel_rfl) rfl)
          (dead_stops 7 wr.heap.size none W0 (by decide) (by omega) (bN.cell 0 rfl) hD2) (fun _ _ => trivial) (fun _ _ _ _ _ _ _ _ => trivial) (Below.refl _ _) (fun _ => rfl)
          (fun _ W => Kept (fun _ => False) W0 W) (fun _ _ _ => False) ?hI (fun _ _ _ _ _ hs _ _ => hs) (Kept.refl _ _) ?a1 ?assign ?body ?done ?stop
        case hI =>
          rintro s W W' row h4 hg hr
          exact h4.of_grown hg (n := W0.heap.size) (Nat.le_refl _) (fun r e => (hr r e).1)
        case assign =>
          intro l x W K hK
          gi_wp2
          exact hK
        case body =>
          intro l pre x W _ hlt
          exact absurd hlt (Nat.not_lt_zero _)
        case stop =>
          rintro D c pre W _ _ h _
          exact h.elim
        case done =>
          rintro D ys W hDD rfl hk hK
          have hD3 := hD2.kept hk
          have hc := (bI.kept hk (fun h => h)).cell 0 rfl
          have hDlt : D < W.heap.size := (Array.getElem?_eq_some_iff.1 hK).1
          have hB3 := hB2.trans (hk.below (by omega) (fun _ h => h.elim))
          gi_wp2_with (first
            | (refine ⟨trivial, ?_⟩; gi_at_call 36; refine (callsIn_wide.2 (dead_full hD3)).mono ?_; rintro e w' ⟨rfl, nf, rfl⟩)
            | (refine ⟨trivial, ?_⟩; gi_at_call 26; refine (callsIn_wide.2 (dead_len hD3)).mono ?_; rintro e w' ⟨rfl, rfl⟩)
            | (refine ⟨trivial, ?_⟩; gi_at_call 35; refine (callsIn_wide.2 (dead_room hD3)).mono ?_; rintro e w' ⟨rfl, rfl⟩)
            | (refine ⟨trivial, ?_⟩; gi_at_call 28; refine (callsIn_wide.2 (dead_high (Dead.kept hD3 ((Kept.refl (fun _ => False) _).drewN _)))).mono ?_; rintro e w' ⟨rfl, rfl⟩)
            | (refine ⟨trivial, ?_⟩; gi_at_call 32; refine (callsIn_wide.2 (dead_copy (Dead.kept hD3 ((Kept.refl (fun _ => False) _).drewN _)))).mono ?_; rintro e w' ⟨rfl, rfl⟩)
            | (refine ⟨trivial, ?_⟩; gi_at_call 14; refine (callsIn_wide.2 (RS.alive_law _)).mono ?_; rintro e w9 ⟨rfl, k9⟩))
          have hK9 : w9.heap[D]? = some (.deferred (some [])) := (k9.undrew.block D hDlt (fun h => h)).trans hK
          refine ⟨by simp, .inl ⟨_, _, rfl, run_takeDeferred hK9, ?_⟩⟩
          have hg := grownBy_putObj' w9 D (.deferred none)
          refine ⟨_, results_tmp rfl _ _ _, rfl, ?_⟩
          have kk : Kept (fun k => k = D) w9 (w9.putObj D (.deferred none)) := (Kept.refl _ _).grown hg (fun k e => Or.inl (by cases e; rfl))
          have z1 := k9.undrew.size
          have z2 := hk.size
          exact (hB3.trans (k9.undrew.below (by omega) (fun _ h => h.elim))).trans (kk.below (by omega) (fun k e => by omega))
  · gi_wp2
    have hD : Dead ((w.alloc (.cells #[.bool false, .int .i64 0, .slice none 0 0, .int .i64 0, .int .i64 0, .int .i64 0] 72)).alloc (.cells #[.bool false, .int .i64 0, .slice none 0 0, .int .i64 0] 37)) (some ⟨w.heap.size, 0, none⟩) := Or.inr ⟨_, rfl, (Blk.new w [.bool false, .int .i64 0, .slice none 0 0, .int .i64 0, .int .i64 0, .int .i64 0] _).alloc _⟩
    have hR : DeadR ((w.alloc (.cells #[.bool false, .int .i64 0, .slice none 0 0, .int .i64 0, .int .i64 0, .int .i64 0] 72)).alloc (.cells #[.bool false, .int .i64 0, .slice none 0 0, .int .i64 0] 37)) (w.heap.size + 1) := by
      have h := Blk.new (w.alloc (.cells #[.bool false, .int .i64 0, .slice none 0 0, .int .i64 0, .int .i64 0, .int .i64 0] 72)) [.bool false, .int .i64 0, .slice none 0 0, .int .i64 0] 37
      rw [World.size_alloc] at h
      exact ⟨h, World.ownsRow_nil _ _ _ _, by simp [Value.ownBlock], by simp⟩
    have hB : Below w.heap.size w ((w.alloc (.cells #[.bool false, .int .i64 0, .slice none 0 0, .int .i64 0, .int .i64 0, .int .i64 0] 72)).alloc (.cells #[.bool false, .int .i64 0, .slice none 0 0, .int .i64 0] 37)) := (((Kept.refl (fun _ => False) w).alloc _).alloc _).below (Nat.le_refl _) (fun _ h => h.elim)
    have hP := Lib.hid (And.intro hD (And.intro hR hB))
    clear hD hR hB
    gi_loopw [7] (fun i wr => ∃ k : Nat, k ≤ l0.length ∧ i = .int .i64 k ∧ Hid (Dead wr (some ⟨w.heap.size, 0, none⟩) ∧ DeadR wr (w.heap.size + 1) ∧ Below w.heap.size w wr ∧ w.heap.size ≤ wr.heap.size)) (fun i _ => l0.length - (intOf i).toNat)
    case atStart => exact ⟨0, Nat.zero_le _, rfl, hP.out.1, hP.out.2.1, hP.out.2.2, by simp; omega⟩
    case round =>
      obtain ⟨k, hk, rfl, hD, hR, hB, hz⟩ := hrel
      by_cases hlt : k < l0.length
      · obtain ⟨x, y, hx⟩ := pair_at hlt
        obtain ⟨ab, off, rfl, hab, e1, e2⟩ := elem_pair hc0 hB hx
        have Hx := Lib.hid hx
        have Hc := Lib.hid hc0
        clear hx hc0
        have hk0 : (0 : Int) ≤ (k : Int) := Int.natCast_nonneg _
        have hk1 : (k : Int) < (l0.length : Int) := by omega
        have hpl := play_dead x y hD hR (fun a e => by cases e; simp)
        gi_wp2_with (refine ⟨trivial, ?_⟩; gi_at_call 29; refine (callsIn_wide.2 hpl).mono ?_; rintro e w4 ⟨rfl, hD4, hR4, k4⟩)
        have hN : Hid (Dead w4 (some ⟨w.heap.size, 0, none⟩) ∧ DeadR w4 (w.heap.size + 1) ∧ Below w.heap.size w w4 ∧ w.heap.size ≤ w4.heap.size) := ⟨hD4, hR4, hB.trans (k4.below hz (fun i e => by omega)), Nat.le_trans hz k4.size⟩
        clear k4 hpl hD hR hB hz e1 e2 hD4 hR4
        gi_wp2
        go_roundw
        case rel => exact ⟨k + 1, by omega, by go_num, hN⟩
        case measure => simp [intOf]; omega
      · clear hc0
        gi_wp2_with (refine ⟨trivial, ?_⟩; gi_at_call 30; refine (callsIn_wide.2 (dead_all _ _)).mono ?_; rintro e w' ⟨rfl, rfl⟩)
        have hD2 := hD.kept (((Kept.refl (fun _ => False) wr).alloc (.cells #[.pointer (some ⟨w.heap.size, 0, none⟩)] 53)).alloc (.cells #[.int .i64 0] 3))
        have bN := (Blk.new wr [.pointer (some ⟨w.heap.size, 0, none⟩)] 53).alloc (.cells #[.int .i64 0] 3)
        have bI := Blk.new (wr.alloc (.cells #[.pointer (some ⟨w.heap.size, 0, none⟩)] 53)) [.int .i64 0] 3
        have hB2 := hB.trans ((((Kept.refl (fun _ => False) wr).alloc (.cells #[.pointer (some ⟨w.heap.size, 0, none⟩)] 53)).alloc (.cells #[.int .i64 0] 3)).below hz (fun _ h => h.elim))
        have hsz : ((wr.alloc (.cells #[.pointer (some ⟨w.heap.size, 0, none⟩)] 53)).alloc (.cells #[.int .i64 0] 3)).heap.size = wr.heap.size + 2 := by simp
        rw [World.size_alloc] at bI
        obtain ⟨W0, hW0⟩ : ∃ W0, (wr.alloc (.cells #[.pointer (some ⟨w.heap.size, 0, none⟩)] 53)).alloc (.cells #[.int .i64 0] 3) = W0 := ⟨_, rfl⟩
        rw [hW0] at hD2 bN bI hB2 hsz ⊢
        clear hW0 hD hR hB
        refine wpIn_rangeFunc_ownG rfl (by decide) (gf := 52) (lb := #[.pointer (some ⟨wr.heap.size, 0, none⟩)]) rfl trivial (enters_of Try.func52 (by kernel_rfl) rfl)
          (dead_stops 7 wr.heap.size (some ⟨w.heap.size, 0, none⟩) W0 (by decide) (by omega) (bN.cell 0 rfl) hD2) (fun _ _ => trivial) (fun _ _ _ _ _ _ _ _ => trivial) (Below.refl _ _) (fun _ => rfl)
          (fun _ W => Kept (fun _ => False) W0 W) (fun _ _ _ => False) ?hI2 (fun _ _ _ _ _ hs _ _ => hs) (Kept.refl _ _) ?a2 ?assign2 ?body2 ?done2 ?stop2
        case hI2 =>
          rintro s W W' row h4 hg hr
          exact h4.of_grown hg (n := W0.heap.size) (Nat.le_refl _) (fun r e => (hr r e).1)
        case assign2 =>
          intro l x W K hK
          gi_wp2
          exact hK
        case body2 =>
          intro l pre x W _ hlt
          exact absurd hlt (Nat.not_lt_zero _)
        case stop2 =>
          rintro D c pre W _ _ h _
          exact h.elim
        case done2 =>
          rintro D ys W hDD rfl hk hK
          have hD3 := hD2.kept hk
          have hc := (bI.kept hk (fun h => h)).cell 0 rfl
          have hDlt : D < W.heap.size := (Array.getElem?_eq_some_iff.1 hK).1
          have hB3 := hB2.trans (hk.below (by omega) (fun _ h => h.elim))
          gi_wp2_with (first
            | (refine ⟨trivial, ?_⟩; gi_at_call 36; refine (callsIn_wide.2 (dead_full hD3)).mono ?_; rintro e w' ⟨rfl, nf, rfl⟩)
            | (refine ⟨trivial, ?_⟩; gi_at_call 26; refine (callsIn_wide.2 (dead_len hD3)).mono ?_; rintro e w' ⟨rfl, rfl⟩)
            | (refine ⟨trivial, ?_⟩; gi_at_call 35; refine (callsIn_wide.2 (dead_room hD3)).mono ?_; rintro e w' ⟨rfl, rfl⟩)
            | (refine ⟨trivial, ?_⟩; gi_at_call 28; refine (callsIn_wide.2 (dead_high (Dead.kept hD3 ((Kept.refl (fun _ => False) _).drewN _)))).mono ?_; rintro e w' ⟨rfl, rfl⟩)
            | (refine ⟨trivial, ?_⟩; gi_at_call 32; refine (callsIn_wide.2 (dead_copy (Dead.kept hD3 ((Kept.refl (fun _ => False) _).drewN _)))).mono ?_; rintro e w' ⟨rfl, rfl⟩)
            | (refine ⟨trivial, ?_⟩; gi_at_call 14; refine (callsIn_wide.2 (RS.alive_law _)).mono ?_; rintro e w9 ⟨rfl, k9⟩))
          have hK9 : w9.heap[D]? = some (.deferred (some [])) := (k9.undrew.block D hDlt (fun h => h)).trans hK
          refine ⟨by simp, .inl ⟨_, _, rfl, run_takeDeferred hK9, ?_⟩⟩
          have hg := grownBy_putObj' w9 D (.deferred none)
          refine ⟨_, results_tmp rfl _ _ _, rfl, ?_⟩
          have kk : Kept (fun k => k = D) w9 (w9.putObj D (.deferred none)) := (Kept.refl _ _).grown hg (fun k e => Or.inl (by cases e; rfl))
          have z1 := k9.undrew.size
          have z2 := hk.size
          exact (hB3.trans (k9.undrew.below (by omega) (fun _ h => h.elim))).trans (kk.below (by omega) (fun k e => by omega))
end Go.Proofs.Ytibgoipdaeaigaa.ringNobodyW
