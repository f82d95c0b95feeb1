/- P15.6, the walk: what is set is what the history says. -/
import Derived.Test.YtmljnhhjjaibbaaEvtD
import Derived.Laws.BitsAllLaws
namespace Go.Proofs.Ytmljnhhjjaibbaa.eventHistoryW
open Go.RowKit Go.Fr Go.Proofs.Ytmljnhhjjaibbaa.EV

theorem u32n {a : Int} (h : (Lit.int .u32 a).wf = true) : ∃ n : Nat, a = n ∧ n < 4294967296 := by
  have hx : 0 ≤ a ∧ a ≤ 4294967295 := by simpa [Lit.wf, IntKind.min, IntKind.max, IntKind.signed, IntKind.bits] using h
  exact ⟨a.toNat, by omega, by omega⟩
theorem or_lt {a b : Nat} (ha : a < 4294967296) (hb : b < 4294967296) : a ||| b < 4294967296 := Nat.or_lt_two_pow (n := 32) ha hb
theorem and_lt {a b : Nat} (ha : a < 4294967296) : a &&& b < 4294967296 := Nat.lt_of_le_of_lt Nat.and_le_left ha
theorem cast0 {n : Nat} : ((n : Int) == 0) = decide (n = 0) := by
  rw [Bool.eq_iff_iff]; simp

/-- the state behind k calls -/
structure Hist (w1 wr : World) (b m o wt : Nat) (g : Bool) : Prop where
  evt : IsEvt wr b 2 [(0, 0, 0, false), ((m : Int), (o : Int), (if g then (wt : Int) else 0), g)]
  kept : Kept (fun i => i = b) w1 wr
  olt : o < 4294967296
  wlt : wt < 4294967296
  no : g = true → o &&& wt = 0

set_option maxRecDepth 100000 in
set_option maxHeartbeats 4000000 in
theorem walk (w : World) (a0 : Int) (w0 : (Lit.int .u32 a0).wf = true) (a1 : Option Addr) (cap1 : Nat) (l1 : List (Int × Int × Int)) (hl1 : l1.length ≤ cap1) (hm1 : cap1 ≤ maxLen) (hc1 : CameL w 3 (encKKK .i64 .i64 .u32) a1 l1)
    (hw1 : ∀ x ∈ l1, (Lit.int .i64 x.1).wf = true ∧ (Lit.int .i64 x.2.1).wf = true ∧ (Lit.int .u32 x.2.2).wf = true) :
    Calls Try.prog 3 #[.int .u32 a0, .slice a1 l1.length cap1] w fun e w' => e = .returned (.bool true) ∧ Below w.heap.size w w' := by
  obtain ⟨m, rfl, hm⟩ := u32n w0
  unfold maxLen at hm1
  clear w0
  have hnew := new_ok (some ⟨w.heap.size, 0, none⟩) 2 [0, (m : Int)] (w.alloc (.cells #[.int .u32 0, .int .u32 m] 22)) (by simp) (came_new w [0, (m : Int)] 22 .u32)
  have k0 := (Kept.refl (fun _ => False) w).alloc (.cells #[.int .u32 0, .int .u32 m] 22)
  rw [World.size_alloc] at hnew
  go_enter Try.func3, Try.ntmps3
  go_wp2_with fail
  refine hnew.mono ?_
  rintro e w1 ⟨rfl, h1, k1⟩
  have g1 : IsEvt w1 (w.heap.size + 1) 2 [(0, 0, 0, false), (m, 0, 0, false)] := h1
  clear h1 hnew
  go_wp2_with fail
  refine (heads_law _).mono ?_
  rintro e w2 ⟨rfl, k2⟩
  have g2 := g1.kept k2 (fun h => h)
  have kk : Kept (fun _ => False) w w2 := (k0.then k1 (fun _ h => Or.inl h)).then k2 (fun _ h => Or.inl h)
  clear k0 k1 k2 g1
  by_cases hm0 : m = 0
  · subst hm0
    go_wp2_with fail
    refine (set_acc (k := 1) 1 g2 (by decide) rfl rfl).mono ?_
    rintro e w' ⟨rfl, rfl⟩
    go_wp2
    go_ret
    exact ⟨rfl, kk.below (Nat.le_refl _) (fun _ h => False.elim h)⟩
  · have hmf : (((m : Int)) == 0) = false := by simp; omega
    go_wp2
    obtain ⟨b, hb⟩ : ∃ b, w.heap.size + 1 = b := ⟨_, rfl⟩
    rw [hb] at g2
    simp only [hb]
    have hbw : w.heap.size ≤ b := by omega
    have H0 : Hid (Hist w2 w2 b m 0 0 false) := ⟨g2, Kept.refl _ _, by decide, by decide, fun h => by cases h⟩
    have KK := Lib.hid kk
    have HC := Lib.hid hc1
    have HW := Lib.hid hw1
    have hwz := kk.size
    clear hb g2 kk hc1 hw1 hm0
    go_loopw [9, 10, 11, 12] (fun on ws wa i wr => ∃ (k o wt : Nat) (g : Bool), k ≤ l1.length ∧ i = .int .i64 k ∧ on = .int .u32 o ∧ ws = .bool g ∧ wa = .int .u32 wt ∧ Hid (Hist w2 wr b m o wt g)) (fun _ _ _ i _ => l1.length - (intOf i).toNat)
    case atStart => exact ⟨0, 0, 0, false, Nat.zero_le _, rfl, rfl, rfl, rfl, H0⟩
    case round =>
      obtain ⟨k, o, wt, g, hk, rfl, rfl, rfl, rfl, HH⟩ := hrel
      clear H0
      by_cases hlt : k < l1.length
      · obtain ⟨⟨kd, tk, x⟩, hx⟩ : ∃ x, l1[k]? = some x := ⟨_, List.getElem?_eq_getElem hlt⟩
        obtain ⟨sb, so, rfl, hsb, hcc⟩ := HC.out (by rintro rfl; simp at hlt)
        obtain ⟨_, _, wx⟩ := HW.out _ (List.mem_of_getElem? hx)
        obtain ⟨x, rfl, hxl⟩ := u32n wx
        have hkb : sb ≠ b := by omega
        have hc0 : ∀ (j : Nat) (v : Value), (encKKK .i64 .i64 .u32 (kd, tk, (x : Int)))[j]? = some v → wr.cell? ⟨sb, so + k * 3 + j, none⟩ = some v := fun j v hv => by
          rw [HH.out.kept.cell (p := ⟨sb, so + k * 3 + j, none⟩) (by show sb < _; omega) hkb, KK.out.cell (p := ⟨sb, so + k * 3 + j, none⟩) hsb (fun h => h)]
          exact hcc k _ hx j v hv
        have q0 : wr.cell? ⟨sb, so + k * 3, none⟩ = some (.int .i64 kd) := hc0 0 _ rfl
        have q1 : wr.cell? ⟨sb, so + k * 3 + 1, none⟩ = some (.int .i64 tk) := hc0 1 _ rfl
        have q2 : wr.cell? ⟨sb, so + k * 3 + 2, none⟩ = some (.int .u32 x) := hc0 2 _ rfl
        have hk0 : (0 : Int) ≤ (k : Int) := by omega
        have hk1 : (k : Int) < (l1.length : Int) := by omega
        have hE0 := HH.out.evt.kept ((Kept.refl (fun _ => False) wr).alloc (.cells #[.int .i64 kd, .int .i64 tk, .int .u32 x] 34)) (fun h => h)
        have hK0 := Lib.hid (HH.out.kept.alloc (.cells #[.int .i64 kd, .int .i64 tk, .int .u32 x] 34))
        have ho := HH.out.olt
        have hbl := HH.out.evt.lt
        have hw := HH.out.wlt
        have hno := Lib.hid HH.out.no
        have hor := u32_or_nat o x ho hxl
        have han := u32_andNot_nat o x ho hxl
        have hax := u32_and_nat o x ho hxl
        clear hx hcc wx hc0 HH
        have hG : ∀ {wy : World} {s t : Int} {g : Bool}, IsEvt wy b 2 [(0, 0, 0, false), ((m : Int), s, t, g)] → Calls Try.prog 12 #[.pointer (some ⟨b, 0, none⟩), .int .i64 1] wy fun e w' => e = .returned (.tuple #[.int .u32 s, .int .i64 0]) ∧ wy = w' := fun h => get_ok (k := 1) h (by decide) rfl hmf
        have hW : ∀ {wy : World} {s t : Int} {g : Bool}, IsEvt wy b 2 [(0, 0, 0, false), ((m : Int), s, t, g)] → Calls Try.prog 13 #[.pointer (some ⟨b, 0, none⟩), .int .i64 1] wy fun e w' => e = .returned (.int .u32 t) ∧ wy = w' := fun h => waits_ok (k := 1) h (by decide) rfl hmf
        by_cases k1 : kd = 1
        · subst k1
          have hol := or_lt ho hxl
          have haw := u32_and_nat (o ||| x) wt hol hw
          have hwa := u32_and_nat wt (o ||| x) hw hol
          obtain ⟨o', ho'⟩ : ∃ o', o ||| x = o' := ⟨_, rfl⟩
          rw [ho'] at hol haw hwa hor
          clear ho'
          cases g with
          | false =>
            simp only [Bool.false_eq_true, if_false] at hE0
            go_wp2_with fail
            refine (set_off (k := 1) x hE0 (by decide) rfl hmf rfl).mono ?_
            rintro e w3 ⟨rfl, h3, k3⟩
            rw [hor] at h3
            have g3 : IsEvt w3 b 2 [(0, 0, 0, false), ((m : Int), (o' : Int), 0, false)] := h3
            have K3 := Lib.hid (hK0.out.then k3 (fun _ h => Or.inl h))
            have b2 : w3.cell? ⟨wr.heap.size, 2, none⟩ = some (.int .u32 x) := (k3.cell (p := ⟨wr.heap.size, 2, none⟩) (by simp) (by show ¬ wr.heap.size = b; omega)).trans ((Blk.new wr [.int .i64 1, .int .i64 tk, .int .u32 x] 34).cell 2 rfl)
            clear h3 k3 hE0
            go_wp2_with fail
            refine (hG g3).mono ?_
            rintro e w' ⟨rfl, rfl⟩
            go_wp2_with fail
            refine (hW g3).mono ?_
            rintro e w' ⟨rfl, rfl⟩
            go_wp2
            go_roundw
            case rel => exact ⟨k + 1, o', wt, false, by omega, by go_num, rfl, rfl, rfl, ⟨g3, K3.out, hol, hw, (fun h => by cases h)⟩⟩
            case measure => simp [intOf]; omega
          | true =>
            simp only [if_true] at hE0
            by_cases hz : o' &&& wt = 0
            · have hb1 : (bits BinOp.and IntKind.u32 (o' : Int) (wt : Int) == 0) = true := by rw [haw, hz]; rfl
              have hb2 : (bits BinOp.and IntKind.u32 (wt : Int) (o' : Int) == 0) = true := by rw [hwa, Nat.and_comm, hz]; rfl
              have hb3 : (bits BinOp.and IntKind.u32 (o' : Int) (wt : Int) != 0) = false := by rw [haw, hz]; rfl
              have hb4 : (bits BinOp.and IntKind.u32 (wt : Int) (o' : Int) != 0) = false := by rw [hwa, Nat.and_comm, hz]; rfl
              clear haw hwa
              go_wp2_with fail
              refine (set_not (k := 1) x hE0 (by decide) rfl hmf rfl (by rw [hor]; exact hb1)).mono ?_
              rintro e w3 ⟨rfl, h3, k3⟩
              rw [hor] at h3
              have g3 : IsEvt w3 b 2 [(0, 0, 0, false), ((m : Int), (o' : Int), (wt : Int), true)] := h3
              have K3 := Lib.hid (hK0.out.then k3 (fun _ h => Or.inl h))
              have b2 : w3.cell? ⟨wr.heap.size, 2, none⟩ = some (.int .u32 x) := (k3.cell (p := ⟨wr.heap.size, 2, none⟩) (by simp) (by show ¬ wr.heap.size = b; omega)).trans ((Blk.new wr [.int .i64 1, .int .i64 tk, .int .u32 x] 34).cell 2 rfl)
              clear h3 k3 hE0
              go_wp2_with fail
              refine (hG g3).mono ?_
              rintro e w' ⟨rfl, rfl⟩
              go_wp2_with fail
              refine (hW g3).mono ?_
              rintro e w' ⟨rfl, rfl⟩
              go_wp2
              go_roundw
              case rel => exact ⟨k + 1, o', wt, true, by omega, by go_num, rfl, rfl, rfl, ⟨g3, K3.out, hol, hw, (fun _ => hz)⟩⟩
              case measure => simp [intOf]; omega
            · have hb1 : (bits BinOp.and IntKind.u32 (o' : Int) (wt : Int) == 0) = false := by rw [haw]; simp; omega
              have hb3 : (bits BinOp.and IntKind.u32 (o' : Int) (wt : Int) != 0) = true := by rw [haw]; simp; omega
              clear haw hwa
              go_wp2_with fail
              refine (set_wake (k := 1) x hE0 (by decide) rfl hmf rfl (by rw [hor]; exact hb1)).mono ?_
              rintro e w3 ⟨rfl, h3, k3⟩
              rw [hor] at h3
              have g3 : IsEvt w3 b 2 [(0, 0, 0, false), ((m : Int), (o' : Int), 0, false)] := h3
              have K3 := Lib.hid (hK0.out.then k3 (fun _ h => Or.inl h))
              have b2 : w3.cell? ⟨wr.heap.size, 2, none⟩ = some (.int .u32 x) := (k3.cell (p := ⟨wr.heap.size, 2, none⟩) (by simp) (by show ¬ wr.heap.size = b; omega)).trans ((Blk.new wr [.int .i64 1, .int .i64 tk, .int .u32 x] 34).cell 2 rfl)
              clear h3 k3 hE0
              go_wp2_with fail
              refine (hG g3).mono ?_
              rintro e w' ⟨rfl, rfl⟩
              go_wp2_with fail
              refine (hW g3).mono ?_
              rintro e w' ⟨rfl, rfl⟩
              go_wp2
              go_roundw
              case rel => exact ⟨k + 1, o', wt, false, by omega, by go_num, rfl, rfl, rfl, ⟨g3, K3.out, hol, hw, (fun h => by cases h)⟩⟩
              case measure => simp [intOf]; omega

        · have d1 : (kd == 1) = false := by simpa using k1
          by_cases k2 : kd = 2
          · subst k2
            have hnl := and_lt (b := 4294967295 - x) ho
            have hwn := u32_and_nat wt (o &&& (4294967295 - x)) hw hnl
            have hno' : g = true → (o &&& (4294967295 - x)) &&& wt = 0 := fun h => by rw [Nat.and_assoc, Nat.and_comm (4294967295 - x), ← Nat.and_assoc, hno.out h, Nat.zero_and]
            obtain ⟨o', ho'⟩ : ∃ o', o &&& (4294967295 - x) = o' := ⟨_, rfl⟩
            rw [ho'] at hnl hwn han hno'
            clear ho'
            have hno2 := Lib.hid hno'
            clear hno'
            cases g with
            | false =>
              simp only [Bool.false_eq_true, if_false] at hE0
              clear hwn
              go_wp2_with fail
              refine (clear_ok (k := 1) x hE0 (by decide) rfl hmf).mono ?_
              rintro e w3 ⟨rfl, h3, k3⟩
              rw [han] at h3
              have g3 : IsEvt w3 b 2 [(0, 0, 0, false), ((m : Int), (o' : Int), 0, false)] := h3
              have K3 := Lib.hid (hK0.out.then k3 (fun _ h => Or.inl h))
              have b2 : w3.cell? ⟨wr.heap.size, 2, none⟩ = some (.int .u32 x) := (k3.cell (p := ⟨wr.heap.size, 2, none⟩) (by simp) (by show ¬ wr.heap.size = b; omega)).trans ((Blk.new wr [.int .i64 2, .int .i64 tk, .int .u32 x] 34).cell 2 rfl)
              clear h3 k3 hE0
              go_wp2_with fail
              refine (hG g3).mono ?_
              rintro e w' ⟨rfl, rfl⟩
              go_wp2_with fail
              refine (hW g3).mono ?_
              rintro e w' ⟨rfl, rfl⟩
              go_wp2
              go_roundw
              case rel => exact ⟨k + 1, o', wt, false, by omega, by go_num, rfl, rfl, rfl, ⟨g3, K3.out, hnl, hw, hno2.out⟩⟩
              case measure => simp [intOf]; omega
            | true =>
              simp only [if_true] at hE0
              have hb4 : (bits BinOp.and IntKind.u32 (wt : Int) (o' : Int) != 0) = false := by rw [hwn, Nat.and_comm, hno2.out rfl]; rfl
              clear hwn
              go_wp2_with fail
              refine (clear_ok (k := 1) x hE0 (by decide) rfl hmf).mono ?_
              rintro e w3 ⟨rfl, h3, k3⟩
              rw [han] at h3
              have g3 : IsEvt w3 b 2 [(0, 0, 0, false), ((m : Int), (o' : Int), (wt : Int), true)] := h3
              have K3 := Lib.hid (hK0.out.then k3 (fun _ h => Or.inl h))
              have b2 : w3.cell? ⟨wr.heap.size, 2, none⟩ = some (.int .u32 x) := (k3.cell (p := ⟨wr.heap.size, 2, none⟩) (by simp) (by show ¬ wr.heap.size = b; omega)).trans ((Blk.new wr [.int .i64 2, .int .i64 tk, .int .u32 x] 34).cell 2 rfl)
              clear h3 k3 hE0
              go_wp2_with fail
              refine (hG g3).mono ?_
              rintro e w' ⟨rfl, rfl⟩
              go_wp2_with fail
              refine (hW g3).mono ?_
              rintro e w' ⟨rfl, rfl⟩
              go_wp2
              go_roundw
              case rel => exact ⟨k + 1, o', wt, true, by omega, by go_num, rfl, rfl, rfl, ⟨g3, K3.out, hnl, hw, (fun _ => hno2.out trivial)⟩⟩
              case measure => simp [intOf]; omega

          · have d2 : (kd == 2) = false := by simpa using k2
            by_cases k4 : kd = 4
            · subst k4
              cases g with
              | true =>
                simp only [if_true] at hE0
                go_wp2_with fail
                refine (wait_state (k := 1) x hE0 (by decide) rfl hmf rfl).mono ?_
                rintro e w3 ⟨rfl, rfl⟩
                go_wp2
                go_roundw
                case rel => exact ⟨k + 1, o, wt, true, by omega, by go_num, rfl, rfl, rfl, ⟨hE0, hK0.out, ho, hw, (fun _ => hno.out trivial)⟩⟩
                case measure => simp [intOf]; omega
              | false =>
                simp only [Bool.false_eq_true, if_false] at hE0
                by_cases hz : o &&& x = 0
                · have hb1 : (bits BinOp.and IntKind.u32 (o : Int) (x : Int) == 0) = true := by rw [hax, hz]; rfl
                  have hb4 : (bits BinOp.and IntKind.u32 (x : Int) (o : Int) != 0) = false := by rw [u32_and_nat x o hxl ho, Nat.and_comm, hz]; rfl
                  clear hax
                  go_wp2_with fail
                  refine (wait_yes (k := 1) x hE0 (by decide) rfl hmf rfl hb1).mono ?_
                  rintro e w3 ⟨rfl, h3, k3⟩
                  have g3 : IsEvt w3 b 2 [(0, 0, 0, false), ((m : Int), (o : Int), (x : Int), true)] := h3
                  have K3 := Lib.hid (hK0.out.then k3 (fun _ h => Or.inl h))
                  have b2 : w3.cell? ⟨wr.heap.size, 2, none⟩ = some (.int .u32 x) := (k3.cell (p := ⟨wr.heap.size, 2, none⟩) (by simp) (by show ¬ wr.heap.size = b; omega)).trans ((Blk.new wr [.int .i64 4, .int .i64 tk, .int .u32 x] 34).cell 2 rfl)
                  clear h3 k3 hE0
                  go_wp2_with fail
                  refine (hG g3).mono ?_
                  rintro e w' ⟨rfl, rfl⟩
                  go_wp2_with fail
                  refine (hW g3).mono ?_
                  rintro e w' ⟨rfl, rfl⟩
                  go_wp2
                  go_roundw
                  case rel => exact ⟨k + 1, o, x, true, by omega, by go_num, rfl, rfl, rfl, ⟨g3, K3.out, ho, hxl, (fun _ => hz)⟩⟩
                  case measure => simp [intOf]; omega
                · have hb1 : (bits BinOp.and IntKind.u32 (o : Int) (x : Int) == 0) = false := by rw [hax]; simp; omega
                  clear hax
                  have b2 := (Blk.new wr [.int .i64 4, .int .i64 tk, .int .u32 x] 34).cell 2 rfl
                  go_wp2_with fail
                  refine (wait_no (k := 1) x hE0 (by decide) rfl hmf rfl hb1).mono ?_
                  rintro e w3 ⟨rfl, rfl⟩
                  go_wp2_with fail
                  refine (hG hE0).mono ?_
                  rintro e w' ⟨rfl, rfl⟩
                  go_wp2_with fail
                  refine (hW hE0).mono ?_
                  rintro e w' ⟨rfl, rfl⟩
                  go_wp2
                  go_roundw
                  case rel => exact ⟨k + 1, o, x, false, by omega, by go_num, rfl, rfl, rfl, ⟨hE0, hK0.out, ho, hxl, (fun h => by cases h)⟩⟩
                  case measure => simp [intOf]; omega

            · have d4 : (kd == 4) = false := by simpa using k4
              by_cases k6 : kd = 6
              · subst k6
                have b2 := (Blk.new wr [.int .i64 6, .int .i64 tk, .int .u32 x] 34).cell 2 rfl
                go_wp2_with fail
                refine (fresh_ok (k := 1) hE0 (by decide) rfl hmf).mono ?_
                rintro e w3 ⟨rfl, h3, k3⟩
                have g3 : IsEvt w3 b 2 [(0, 0, 0, false), ((m : Int), 0, 0, false)] := h3
                have K3 := Lib.hid (hK0.out.then k3 (fun _ h => Or.inl h))
                clear h3 k3 hE0
                go_wp2_with fail
                refine (hG g3).mono ?_
                rintro e w' ⟨rfl, rfl⟩
                go_wp2_with fail
                refine (hW g3).mono ?_
                rintro e w' ⟨rfl, rfl⟩
                go_wp2
                go_roundw
                case rel => exact ⟨k + 1, 0, wt, false, by omega, by go_num, rfl, rfl, rfl, ⟨g3, K3.out, by decide, hw, (fun h => by cases h)⟩⟩
                case measure => simp [intOf]; omega

              · have d6 : (kd == 6) = false := by simpa using k6
                cases g with
                | true =>
                  simp only [if_true] at hE0
                  have hb4 : (bits BinOp.and IntKind.u32 (wt : Int) (o : Int) != 0) = false := by rw [u32_and_nat wt o hw ho, Nat.and_comm, hno.out rfl]; rfl
                  go_wp2_with fail
                  refine (hG hE0).mono ?_
                  rintro e w' ⟨rfl, rfl⟩
                  go_wp2_with fail
                  refine (hW hE0).mono ?_
                  rintro e w' ⟨rfl, rfl⟩
                  go_wp2
                  go_roundw
                  case rel => exact ⟨k + 1, o, wt, true, by omega, by go_num, rfl, rfl, rfl, ⟨hE0, hK0.out, ho, hw, (fun _ => hno.out trivial)⟩⟩
                  case measure => simp [intOf]; omega
                | false =>
                  simp only [Bool.false_eq_true, if_false] at hE0
                  go_wp2_with fail
                  refine (hG hE0).mono ?_
                  rintro e w' ⟨rfl, rfl⟩
                  go_wp2_with fail
                  refine (hW hE0).mono ?_
                  rintro e w' ⟨rfl, rfl⟩
                  go_wp2
                  go_roundw
                  case rel => exact ⟨k + 1, o, wt, false, by omega, by go_num, rfl, rfl, rfl, ⟨hE0, hK0.out, ho, hw, hno.out⟩⟩
                  case measure => simp [intOf]; omega
      · have hkk : k = l1.length := by omega
        have hb9 : Below w.heap.size w wr := (KK.out.below (Nat.le_refl _) (fun _ h => False.elim h)).trans (HH.out.kept.below hwz (fun i h => by omega))
        clear HH HC
        go_wp2
        go_ret
        exact ⟨rfl, hb9⟩
end Go.Proofs.Ytmljnhhjjaibbaa.eventHistoryW
