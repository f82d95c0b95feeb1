/- ReadyPlays: every script of calls. -/
import Derived.Test.YtdjdnfjfomeldaaRdyLd
namespace Go.Proofs.Ytdjdnfjfomeldaa.readyPlaysW
open Go.RowKit Go.Fr Go.Rq Go.Proofs.Ytdjdnfjfomeldaa.RL
attribute [local go_sem] Oper.semAt_some

theorem elem_tri {w wr : World} {ao : Option Addr} {rs : List (Int × Int × Int)} (hc : CameL w 3 (encKKK .i64 .i64 .i64) ao rs) (hb : Below w.heap.size w wr) {k : Nat} {x y z : Int} (hx : rs[k]? = some (x, y, z)) :
    ∃ ab off, ao = some ⟨ab, off, none⟩ ∧ ab < w.heap.size ∧ wr.cell? ⟨ab, off + k * 3, none⟩ = some (.int .i64 x) ∧ wr.cell? ⟨ab, off + k * 3 + 1, none⟩ = some (.int .i64 y) ∧ wr.cell? ⟨ab, off + k * 3 + 2, none⟩ = some (.int .i64 z) := by
  obtain ⟨ab, off, rfl, hab, hcl⟩ := hc (by rintro rfl; simp at hx)
  refine ⟨ab, off, rfl, hab, ?_, ?_, ?_⟩
  · rw [hb.cell (by exact hab)]; simpa using hcl k _ hx 0 _ rfl
  · rw [hb.cell (by exact hab)]; simpa using hcl k _ hx 1 _ rfl
  · rw [hb.cell (by exact hab)]; simpa using hcl k _ hx 2 _ rfl

set_option maxRecDepth 100000 in
set_option maxHeartbeats 8000000 in
theorem walk (w : World) (a0 : Option Addr) (cap0 : Nat) (l0 : List (Int × Int)) (hl0 : l0.length ≤ cap0) (hm0 : cap0 ≤ maxLen) (hc0 : CameL w 2 (encKK .i64 .i64) a0 l0)
    (_ : ∀ x ∈ l0, (Lit.int .i64 x.1).wf = true ∧ (Lit.int .i64 x.2).wf = true) (hr0 : l0.length * 16 ≤ 140737488351232)
    (a1 : Option Addr) (cap1 : Nat) (l1 : List (Int × Int × Int)) (hl1 : l1.length ≤ cap1) (hm1 : cap1 ≤ maxLen) (hc1 : CameL w 3 (encKKK .i64 .i64 .i64) a1 l1)
    (_ : ∀ x ∈ l1, (Lit.int .i64 x.1).wf = true ∧ (Lit.int .i64 x.2.1).wf = true ∧ (Lit.int .i64 x.2.2).wf = true) (_ : l1.length * 24 ≤ 140737488351232) :
    Calls Try.prog 6 #[.slice a0 l0.length cap0, .slice a1 l1.length cap1] w fun e w' => e = .returned (.bool true) ∧ Below w.heap.size w w' := by
  have hmx : l0.length ≤ maxLen := Nat.le_trans hl0 hm0
  have hmy : l1.length ≤ maxLen := Nat.le_trans hl1 hm1
  unfold maxLen at hmx hmy
  have hmade := made_ok a0 cap0 l0 w hmx (by omega) hc0
  have HC1 := Lib.hid hc1
  clear hc0 hc1
  go_enter Try.func6, Try.ntmps6
  go_upto_region 2 with (go_at_call 8; refine hmade.mono ?_; rintro e w1 (⟨rfl, k1⟩ | ⟨b0, p0, rfl, hq⟩))
  · have K1 := Lib.hid k1
    clear hmade k1
    go_wp2_with (go_at_call 9; refine (heads_ok _).mono ?_; rintro e w2 ⟨rfl, k2⟩)
    go_ret
    exact ⟨rfl, (K1.out.then k2 (fun _ x => x.elim)).below (Nat.le_refl _) (fun _ h => h.elim)⟩
  · obtain ⟨st0, hst0⟩ : ∃ st0, l0.map mkE = st0 := ⟨_, rfl⟩
    rw [hst0] at hq
    have HQ := Lib.hid hq
    clear hmade hq hst0
    go_wp2_with (go_at_call 9; refine (heads_ok _).mono ?_; rintro e w2 ⟨rfl, k2⟩)
    have P0 : Hid (Pq w w2 (fun _ => False) b0 p0 st0 st0) := HQ.out.same k2
    clear HQ k2
    go_loopw [5, 6, 8] (fun q p i wr => ∃ (k b p' : Nat) (st : List En), k ≤ l1.length ∧ q = .pointer (some ⟨b, 0, none⟩) ∧ p = .pointer (some ⟨p', 0, none⟩) ∧ i = .int .i64 k ∧ Hid (Pq w wr (fun _ => False) b p' st st)) (fun _ _ i _ => l1.length - (intOf i).toNat)
    case atStart => exact ⟨0, b0, p0, st0, Nat.zero_le _, rfl, rfl, rfl, P0⟩
    case round =>
      clear P0
      obtain ⟨k, b, p, st, hk, rfl, rfl, rfl, hP⟩ := hrel
      by_cases hkl : k < l1.length
      · obtain ⟨⟨kd, pr, id⟩, hx⟩ : ∃ x, l1[k]? = some x := ⟨_, List.getElem?_eq_getElem hkl⟩
        obtain ⟨ab, off, rfl, hab, e0, e1, e2⟩ := elem_tri HC1.out (hP.out.kept.below (Nat.le_refl _) (fun _ h => h.elim)) hx
        have hk0 : (0 : Int) ≤ (k : Int) := by omega
        have hk1 : (k : Int) < (l1.length : Int) := by omega
        have nb := Blk.new wr [.int .i64 kd, .int .i64 pr, .int .i64 id] 32
        have y0 := nb.cell 0 rfl
        have y1 := nb.cell 1 rfl
        have y2 := nb.cell 2 rfl
        have hPB := hP.out.box (.cells #[.int .i64 kd, .int .i64 pr, .int .i64 id] 32)
        obtain ⟨M, hM⟩ : ∃ M, wr.heap.size = M := ⟨_, rfl⟩
        have hMs : M < (wr.alloc (.cells #[.int .i64 kd, .int .i64 pr, .int .i64 id] 32)).heap.size := by rw [World.size_alloc]; omega
        simp only [hM] at y0 y1 y2 hPB
        clear hP nb hx
        go_upto_region 10 with fail
        obtain ⟨wb, hwb⟩ : ∃ wb, wr.alloc (.cells #[.int .i64 kd, .int .i64 pr, .int .i64 id] 32) = wb := ⟨_, rfl⟩
        rw [hwb] at y0 y1 y2 hPB hMs ⊢
        try rw [hM]
        have PB := Lib.hid hPB
        clear hPB hwb hM e0 e1 e2
        by_cases c1 : kd = 1
        · subst c1
          obtain ⟨PQ, hPQ⟩ : ∃ PQ, putQ st pr id false = PQ := ⟨_, rfl⟩
          have HA := fun n => (PB.out.same ((Kept.refl (fun _ => False) wb).drewN n)).tail pr id
          have HB := fun W (h : Pq w W (fun i => False ∨ i = M) b p PQ.1 st) => h.dtail pr id
          simp only [hPQ] at HA HB
          have HA := Lib.hid HA
          have HB := Lib.hid HB
          clear hPQ
          go_upto_region 12 with fail
          refine wp_region_noPanic ?_
          go_region_held3 (fun w' => w'.cell? ⟨M, 1, none⟩ = some (.int .i64 pr) ∧ w'.cell? ⟨M, 2, none⟩ = some (.int .i64 id))
            (first
              | (simp [*]; done)
              | (refine ⟨?_, ?_⟩ <;> (first | exact ((k2.cell (by exact Nat.lt_of_lt_of_le hMs k1.undrew.size) (fun h => h (Or.inr rfl))).trans ((k1.undrew.cell hMs (fun h => h (Or.inr rfl))).trans (by assumption))) | exact ((k1.undrew.cell hMs (fun h => h (Or.inr rfl))).trans (by assumption))))
              | fail)
            (first
              | (go_at_call 10; refine (HA.out _).mono ?_; rintro e w3 ⟨rfl, p1, k1⟩)
              | (go_at_call 11; refine (HB.out _ p1).mono ?_; rintro e w4 ⟨rfl, p2, k2⟩))
          refine NoPanic.normal ?_
          have HN : Hid (Pq w w4 (fun _ => False) b p PQ.1 PQ.1) := p2.less (fun _ x => x.elim)
          clear p1 p2 k1 k2 HA HB PB
          go_wp2_with fail
          go_roundw
          case rel => exact ⟨k + 1, b, p, PQ.1, by omega, rfl, rfl, by go_num, HN⟩
          case measure => simp [intOf]; omega
        by_cases c2 : kd = 2
        · subst c2
          obtain ⟨PQ, hPQ⟩ : ∃ PQ, putQ st pr id true = PQ := ⟨_, rfl⟩
          have HA := fun n => (PB.out.same ((Kept.refl (fun _ => False) wb).drewN n)).head pr id
          have HB := fun W (h : Pq w W (fun i => False ∨ i = M) b p PQ.1 st) => h.dhead pr id
          simp only [hPQ] at HA HB
          have HA := Lib.hid HA
          have HB := Lib.hid HB
          clear hPQ
          go_upto_region 15 with fail
          refine wp_region_noPanic ?_
          go_region_held3 (fun w' => w'.cell? ⟨M, 1, none⟩ = some (.int .i64 pr) ∧ w'.cell? ⟨M, 2, none⟩ = some (.int .i64 id))
            (first
              | (simp [*]; done)
              | (refine ⟨?_, ?_⟩ <;> (first | exact ((k2.cell (by exact Nat.lt_of_lt_of_le hMs k1.undrew.size) (fun h => h (Or.inr rfl))).trans ((k1.undrew.cell hMs (fun h => h (Or.inr rfl))).trans (by assumption))) | exact ((k1.undrew.cell hMs (fun h => h (Or.inr rfl))).trans (by assumption))))
              | fail)
            (first
              | (go_at_call 18; refine (HA.out _).mono ?_; rintro e w3 ⟨rfl, p1, k1⟩)
              | (go_at_call 22; refine (HB.out _ p1).mono ?_; rintro e w4 ⟨rfl, p2, k2⟩))
          refine NoPanic.normal ?_
          have HN : Hid (Pq w w4 (fun _ => False) b p PQ.1 PQ.1) := p2.less (fun _ x => x.elim)
          clear p1 p2 k1 k2 HA HB PB
          go_wp2_with fail
          go_roundw
          case rel => exact ⟨k + 1, b, p, PQ.1, by omega, rfl, rfl, by go_num, HN⟩
          case measure => simp [intOf]; omega
        by_cases c3 : kd = 3
        · subst c3
          obtain ⟨TQ, hTQ⟩ : ∃ TQ, takeQ st = TQ := ⟨_, rfl⟩
          have HA := PB.out.take
          have HB := fun W X (h : Pq w W X b p TQ.1 st) => h.dtake
          simp only [hTQ] at HA HB
          have HB := Lib.hid HB
          clear hTQ
          go_upto_region 19 with (go_at_call 14; refine HA.mono ?_; rintro e w3 ⟨rfl, p1, k1⟩)
          have n1 := Blk.new w3 [.int .i64 TQ.2.1.1, .int .i64 TQ.2.1.2] 40
          have P1 := p1.box (.cells #[.int .i64 TQ.2.1.1, .int .i64 TQ.2.1.2] 40)
          obtain ⟨w4, hw4⟩ : ∃ w4, w3.alloc (.cells #[.int .i64 TQ.2.1.1, .int .i64 TQ.2.1.2] 40) = w4 := ⟨_, rfl⟩
          obtain ⟨M1, hM1⟩ : ∃ M1, w3.heap.size = M1 := ⟨_, rfl⟩
          rw [hw4, hM1] at n1
          simp only [hw4, hM1] at P1
          rw [hw4, hM1]
          have HBB := HB.out _ _ P1
          clear hw4 hM1 p1 k1 HA HB P1 PB
          go_upto_region 20 with (go_at_call 15; refine HBB.mono ?_; rintro e w5 ⟨rfl, p2, k2⟩)
          have n2 := (n1.kept k2 (fun h => h (Or.inr rfl))).alloc (.cells #[.int .i64 TQ.2.1.1, .int .i64 TQ.2.1.2] 40)
          have n3 := Blk.new w5 [.int .i64 TQ.2.1.1, .int .i64 TQ.2.1.2] 40
          have z0 := n2.cell 0 rfl
          have z1 := n2.cell 1 rfl
          have z2 := n3.cell 0 rfl
          have z3 := n3.cell 1 rfl
          have HN : Hid (Pq w (w5.alloc (.cells #[.int .i64 TQ.2.1.1, .int .i64 TQ.2.1.2] 40)) (fun _ => False) b p TQ.1 TQ.1) := (p2.less (fun _ x => x.elim)).same ((Kept.refl _ w5).alloc _)
          clear n1 n2 n3 p2 k2 HBB
          go_wp2_with fail
          go_roundw
          case rel => exact ⟨k + 1, b, p, TQ.1, by omega, rfl, rfl, by go_num, HN⟩
          case measure => simp [intOf]; omega
        by_cases c4 : kd = 4
        · subst c4
          have HA := PB.out.clear
          have HB := fun W (h : Pq w W (fun i => False ∨ i = M) b p (clearQ st) st) => h.dclear
          obtain ⟨L, hL⟩ : ∃ L, (allQ st).length = L := ⟨_, rfl⟩
          obtain ⟨sc, hsc⟩ : ∃ sc, clearQ st = sc := ⟨_, rfl⟩
          simp only [hL, hsc] at HA HB
          have HB := Lib.hid HB
          clear hL hsc PB
          go_wp2_with (first
            | (go_at_call 23; refine HA.mono ?_; rintro e w3 ⟨rfl, p1, k1⟩)
            | (go_at_call 24; refine (HB.out _ p1).mono ?_; rintro e w4 ⟨rfl, p2, k2⟩))
          have HN : Hid (Pq w w4 (fun _ => False) b p sc sc) := p2.less (fun _ x => x.elim)
          clear p1 p2 k1 k2 HA HB
          go_roundw
          case rel => exact ⟨k + 1, b, p, sc, by omega, rfl, rfl, by go_num, HN⟩
          case measure => simp [intOf]; omega
        by_cases c5 : kd = 5
        · subst c5
          have HA := PB.out.copy
          obtain ⟨b2, hb2⟩ : ∃ b2, wb.heap.size = b2 := ⟨_, rfl⟩
          rw [hb2] at HA
          clear hb2 PB
          go_upto_region 28 with (go_at_call 25; refine HA.mono ?_; rintro e w3 ⟨rfl, k3, t3⟩)
          have HB := t3.dcopy
          clear HA t3
          go_upto_region 31 with (go_at_call 26; refine HB.mono ?_; rintro e w4 ⟨p2, rfl, k4, t4⟩)
          have HD := t4.clear
          have HT := fun W (h : Tq w W (fun i => False ∨ i = M) b b2 p2 (clearQ st) st st) => h.tail pr id
          obtain ⟨sc, hsc⟩ : ∃ sc, clearQ st = sc := ⟨_, rfl⟩
          rw [hsc] at HD
          simp only [hsc] at HT
          have hs4 : M < w4.heap.size := by have := k3.size; have := k4.size; omega
          have z1 := ((k3.then k4 (fun _ x => x.elim)).cell (p := ⟨M, 1, none⟩) hMs (fun x => x)).trans y1
          have z2 := ((k3.then k4 (fun _ x => x.elim)).cell (p := ⟨M, 2, none⟩) hMs (fun x => x)).trans y2
          clear HB t4 hsc k3 k4
          go_upto_region 32 with (go_at_call 23; refine HD.mono ?_; rintro e w5 ⟨rfl, t5, k5⟩)
          have v1 := (k5.cell (p := ⟨M, 1, none⟩) hs4 (fun h => h (Or.inr rfl))).trans z1
          have v2 := (k5.cell (p := ⟨M, 2, none⟩) hs4 (fun h => h (Or.inr rfl))).trans z2
          have HT5 := HT _ t5
          clear HT t5 k5 HD
          go_wp2_with (go_at_call 10; refine HT5.mono ?_; rintro e w6 ⟨rfl, t6, _⟩)
          have HN : Hid (Pq w w6 (fun _ => False) b2 p2 st st) := t6.pq.less (fun _ x => x.elim)
          clear t6 HT5
          go_roundw
          case rel => exact ⟨k + 1, b2, p2, st, by omega, rfl, rfl, by go_num, HN⟩
          case measure => simp [intOf]; omega
        by_cases c6 : kd = 6
        · subst c6
          have HT := PB.out.tells id
          have HP := Lib.hid PB.out
          clear PB
          go_wp2_with (go_at_call 16; refine HT.mono ?_; rintro e w3 ⟨rfl, k3⟩)
          have HN : Hid (Pq w w3 (fun _ => False) b p st st) := (HP.out.less (fun _ x => x.elim)).same k3
          clear k3 HT HP
          go_roundw
          case rel => exact ⟨k + 1, b, p, st, by omega, rfl, rfl, by go_num, HN⟩
          case measure => simp [intOf]; omega
        have d1 : decide (kd = 1) = false := by simpa using c1
        have d2 : decide (kd = 2) = false := by simpa using c2
        have d3 : decide (kd = 3) = false := by simpa using c3
        have d4 : decide (kd = 4) = false := by simpa using c4
        have d5 : decide (kd = 5) = false := by simpa using c5
        have d6 : decide (kd = 6) = false := by simpa using c6
        have b1 : (kd == 1) = false := by simpa using c1
        have b2 : (kd == 2) = false := by simpa using c2
        have b3 : (kd == 3) = false := by simpa using c3
        have b4 : (kd == 4) = false := by simpa using c4
        have b5 : (kd == 5) = false := by simpa using c5
        have b6 : (kd == 6) = false := by simpa using c6
        clear c1 c2 c3 c4 c5 c6
        have HN : Hid (Pq w wb (fun _ => False) b p st st) := PB.out.less (fun _ x => x.elim)
        clear PB
        go_wp2_with fail
        go_roundw
        case rel => exact ⟨k + 1, b, p, st, by omega, rfl, rfl, by go_num, HN⟩
        case measure => simp [intOf]; omega
      · obtain rfl : k = l1.length := by omega
        have HT := hP.out.tells (-2)
        have HK := Lib.hid hP.out.kept
        clear hP
        go_wp2_with (go_at_call 16; refine HT.mono ?_; rintro e w3 ⟨rfl, k3⟩)
        go_ret
        exact ⟨rfl, (HK.out.then k3 (fun _ x => x.elim)).below (Nat.le_refl _) (fun _ h => h.elim)⟩
end Go.Proofs.Ytdjdnfjfomeldaa.readyPlaysW
