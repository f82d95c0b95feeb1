/- tappetlaw13: tells. -/
import Derived.Test.YtdjdnfjfomeldaaRdyLa
import Derived.BigQuiet
namespace Go.Proofs.Ytdjdnfjfomeldaa.RL
open Go.RowKit Go.Fr Go.Rq Go.Shelf
open Go.Proofs.Ytdjdnfjfomeldaa.QD (IsQ qfoot encQ Stepped highQ highest)
open Go.Proofs.Ytdjdnfjfomeldaa.DQ (IsD dfoot Dd LV Dstep)
attribute [local go_sem] Oper.semAt_some
section
variable {w : World} {b p : Nat} {cells : List Value} {R : List QD.Rd} {d : Dd} {st : List En}
set_option maxRecDepth 100000 in
set_option maxHeartbeats 8000000 in
theorem tells_ok (x : Int) (hq : IsQ w b cells R st (bitsN st)) (hd : IsD w p d st) : Calls Try.prog 16 #[.pointer (some ⟨b, 0, none⟩), .pointer (some ⟨p, 0, none⟩), .int .i64 x] w fun e w' => e = .returned (.bool true) ∧ Kept (fun _ => False) w w' := by
  obtain ⟨i0, hi, hz0, hz1, hz2⟩ := info_parts RI.info
  have hlq := allQ_le hq.falls
  have hal := QD.qall_law hq
  have hHq := QD.highest_ok hq
  have hHd := DQ.highest_ok hd
  have HQ := Lib.hid hq
  have HD := Lib.hid hd
  obtain ⟨L, hL⟩ : ∃ L, allQ st = L := ⟨_, rfl⟩
  obtain ⟨hg, hhg⟩ : ∃ hg, highest st = hg := ⟨_, rfl⟩
  rw [hhg] at hHq hHd
  rw [hL] at hal hlq
  have HL := Lib.hid hL
  clear hq hd hL hhg
  go_enter Try.func16, Try.ntmps16
  go_upto_region 4 with (first
    | (go_at_call 30; refine hHq.mono ?_; rintro e w' ⟨rfl, rfl⟩)
    | (go_at_call 39; refine hHd.mono ?_; rintro e w' ⟨rfl, rfl⟩)
    | (go_at_call 17; refine hal.mono ?_; rintro e w1 ⟨a1, c1, rfl, r1, f1, k1⟩)
    | (go_at_call 12; refine (DQ.all_ok (HD.out.same k1)).mono ?_; rintro e w2 ⟨a2, c2, rfl, r2, f2, k2⟩)
    | (go_at_call 19; rw [HL.out] at r2 ⊢; refine (queued_ok (row_kept r1 k2 (fun _ _ x => x)) r2 (by omega)).mono ?_; rintro e w3 ⟨rfl, k3⟩))
  have K3 : Hid (Kept (fun _ => False) w w3) := (k1.then k2 (fun _ x => x.elim)).then k3 (fun _ x => x.elim)
  clear hal hHq hHd r1 f1 k1 r2 f2 k2 k3
  have HB1 := QD.bits_ok (HQ.out.same K3.out)
  have HB2 := DQ.bits_ok (HD.out.same K3.out)
  have HN1 := QD.len_ok (HQ.out.same K3.out)
  have HA2 := DQ.all_ok (HD.out.same K3.out)
  rw [HL.out] at HN1 HA2
  go_wp2_with (first
    | (go_at_call 21; refine HB1.mono ?_; rintro e w' ⟨rfl, rfl⟩)
    | (go_at_call 41; refine HB2.mono ?_; rintro e w' ⟨rfl, rfl⟩)
    | (go_at_call 20; refine HN1.mono ?_; rintro e w' ⟨rfl, rfl⟩)
    | (go_at_call 12; refine HA2.mono ?_; rintro e w4 ⟨a3, c3, rfl, r3, f3, k4⟩))
  have K4 : Hid (Kept (fun _ => False) w w4) := K3.out.then k4 (fun _ x => x.elim)
  clear r3 f3 k4 HB1 HB2 HN1 HA2 K3
  go_loopg [12] 67 (fun g i wx => ∃ k : Nat, g = 67 - k ∧ k ≤ 67 ∧ i = .int .i64 ((k : Int) - 1) ∧ Hid (Kept (fun _ => False) w wx))
  case atStart => exact ⟨0, rfl, by omega, rfl, K4⟩
  case round =>
    clear K4
    obtain ⟨k, rfl, hk, rfl, hK⟩ := hrel
    by_cases hk67 : k < 67
    · have hk0 : (k : Int) - 1 < 66 := by omega
      by_cases hk66 : k = 66
      · have hq65 : (k : Int) - 1 = 65 := by omega
        clear hk66
        have hR := QD.ring_ok x (HQ.out.same hK.out)
        have hil := idsAt_len' HQ.out.falls x
        obtain ⟨l, hl⟩ : ∃ l, idsAt st x = l := ⟨_, rfl⟩
        rw [hl] at hR hil
        have hRd := fun w' (kk : Kept (fun _ => False) wr w') => DQ.ring_ok x (HD.out.same (hK.out.then kk (fun _ x => x.elim)))
        simp only [hl] at hRd
        have HRD := Lib.hid hRd
        clear hl hRd
        go_upto_region 14 with (first
          | (go_at_call 42; refine hR.mono ?_; rintro e w1 ⟨a1', c1', rfl, r1, f1, k1⟩)
          | (go_at_call 44; refine (HRD.out _ k1).mono ?_; rintro e w2 ⟨⟨v, rfl, hv, _⟩, rfl⟩; obtain ⟨bo, cb, rfl⟩ := hv.form)
          | (go_at_call 43; refine (ints_ok r1 hv (by omega)).mono ?_; rintro e w3 ⟨rfl, k3⟩))
        have kk3 := k1.then k3 (fun _ x => x.elim)
        have r3 := row_kept r1 k3 (fun _ _ x => x)
        have KK := Lib.hid (hK.out.then kk3 (fun _ x => x.elim))
        have R3 : Hid (∃ ys, Row w3 3 1 (.slice a1' l.length c1') l.length ys) := ⟨_, r3⟩
        have F1 : Hid (∀ g, (Value.slice a1' l.length c1').ownBlock = some g → w.heap.size ≤ g) := fun g hg => by
          have h1 := f1 g hg
          have h2 := hK.out.size
          omega
        have H1 := QD.high_ok x (HQ.out.same KK.out)
        have H2 := DQ.most_ok x (HD.out.same KK.out)
        obtain ⟨hh, hhe⟩ : ∃ hh, highQ st x = hh := ⟨_, rfl⟩
        rw [hhe] at H1 H2
        clear k1 k3 r1 hv f1 kk3 r3 hR hhe HRD
        go_wp2_with (first
          | (go_at_call 45; refine H1.mono ?_; rintro e w' ⟨rfl, rfl⟩)
          | (go_at_call 46; refine H2.mono ?_; rintro e w' ⟨rfl, rfl⟩))
        clear H1 H2
        go_loopw [16] (fun j wr => ∃ m : Nat, m ≤ l.length ∧ j = .int .i64 m ∧ Hid ((∃ ys, Row wr 3 1 (.slice a1' l.length c1') l.length ys) ∧ Kept (fun _ => False) w wr)) (fun j _ => l.length - (intOf j).toNat)
        case atStart => exact ⟨0, Nat.zero_le _, rfl, ⟨R3.out, KK.out⟩⟩
        case round =>
          clear R3 KK
          obtain ⟨m, hm, rfl, hM⟩ := hrel
          by_cases hml : m < l.length
          · obtain ⟨⟨ys, hr⟩, kk⟩ := hM.out
            have hm0 : (0 : Int) ≤ (m : Int) := by omega
            have hm1 : (m : Int) < (l.length : Int) := by omega
            rcases row_forms hr with ⟨_, h0⟩ | ⟨g, c, hv, _⟩
            · omega
            cases hv
            have hyl : m < ys.length := by rw [hr.1]; omega
            have z1 := row_frozen hr m
            have z2 := row_cell hr m (List.getElem?_eq_getElem hyl)
            have hr2 := row_set hr m (.int .i64 (-9))
            have kk2 := kk.setCell (p := ⟨g, m, none⟩) (Or.inr (F1.out g rfl)) (.int .i64 (-9))
            have HN : Hid ((∃ ys, Row (wr.setCell ⟨g, m, none⟩ (.int .i64 (-9))) 3 1 (.slice (some ⟨g, 0, none⟩) l.length c1') l.length ys) ∧ Kept (fun _ => False) w (wr.setCell ⟨g, m, none⟩ (.int .i64 (-9)))) := ⟨⟨_, hr2⟩, kk2⟩
            clear hr hr2 kk kk2 hM
            go_wp2
            go_roundw
            case rel => exact ⟨m + 1, by omega, by go_num, HN⟩
            case measure => simp [intOf]; omega
          · obtain rfl : m = l.length := by omega
            go_wp2_with fail
            go_loopw [14, 17] (fun r j wr' => ∃ (m : Nat) (ao : Option Addr) (c : Nat), m ≤ 20 ∧ j = .int .i64 m ∧ r = .slice ao (l.length + m) c ∧ Hid ((∃ ys, Row wr' 3 1 (.slice ao (l.length + m) c) (l.length + m) ys) ∧ Kept (fun _ => False) w wr' ∧ ∀ g, (Value.slice ao (l.length + m) c).ownBlock = some g → w.heap.size ≤ g)) (fun _ j _ => 20 - (intOf j).toNat)
            case atStart => exact ⟨0, a1', c1', by omega, rfl, rfl, ⟨hM.out.1, hM.out.2, F1.out⟩⟩
            case round =>
              clear hM
              obtain ⟨m, ao, c, hm2, rfl, rfl, hM⟩ := hrel
              by_cases hml2 : m < 20
              · have hm1 : (m : Int) < 20 := by omega
                obtain ⟨N, hN⟩ : ∃ N, l.length + m = N := ⟨_, rfl⟩
                have HN := Lib.hid hN
                have hN2 : N ≤ 65556 := by omega
                rw [hN] at hM ⊢
                clear hN
                obtain ⟨⟨ys, hr⟩, kk, ho⟩ := hM.out
                clear hM
                go_wp2_with ((at_builtin; refine wpList_append_any rfl (.tmp 100) (.tmp 101) 75 rfl 3 i0 (.int .i64 0) 1 8 Try.underlying75 hi hz0 hz1 hz2 rfl (by decide) _ _ _ ys rfl (row_alloc hr _) _ 1 1 [.int .i64 (-9)] rfl (shows_new _ [_] _ (by simp) rfl) (by simp [Value.oneCell']) (by unfold maxLen; omega) (by omega) ?_))
                intro ao3 c3 wc r1 r2 r3
                have kc := (kk.alloc _).grown r2 (fun i e => Or.inr (ho i e))
                have z1 := kk.size
                have ho3 : ∀ g, (Value.slice ao3 (N + 1) c3).ownBlock = some g → w.heap.size ≤ g := fun g hg => (r3 g hg).elim (fun h => ho g h) (fun h => by omega)
                have HN2 : Hid ((∃ ys, Row wc 3 1 (.slice ao3 (N + 1) c3) (N + 1) ys) ∧ Kept (fun _ => False) w wc ∧ ∀ g, (Value.slice ao3 (N + 1) c3).ownBlock = some g → w.heap.size ≤ g) := ⟨⟨_, r1⟩, kc, ho3⟩
                have hNN : l.length + (m + 1) = N + 1 := by have := HN.out; omega
                clear r1 r2 r3 kc ho3 hr kk ho
                go_wp2
                go_roundw
                case rel => exact ⟨m + 1, ao3, c3, by omega, by go_num, by rw [hNN], by rw [hNN]; exact HN2⟩
                case measure => simp [intOf]; omega
              · obtain ⟨_, kk, _⟩ := hM.out
                have KE := Lib.hid kk
                obtain rfl : m = 20 := by omega
                clear kk hM
                go_wp2
                go_roundg (67 - (k + 1))
                case measure => omega
                case rel => exact ⟨k + 1, rfl, by omega, by congr 1; omega, KE⟩
      · have hq65 : ¬ ((k : Int) - 1 = 65) := by omega
        have hq66 : ¬ ((k : Int) = 66) := by omega
        have hR := QD.ring_ok ((k : Int) - 1) (HQ.out.same hK.out)
        have hil := idsAt_len' HQ.out.falls ((k : Int) - 1)
        obtain ⟨l, hl⟩ : ∃ l, idsAt st ((k : Int) - 1) = l := ⟨_, rfl⟩
        rw [hl] at hR hil
        have hRd := fun w' (kk : Kept (fun _ => False) wr w') => DQ.ring_ok ((k : Int) - 1) (HD.out.same (hK.out.then kk (fun _ x => x.elim)))
        simp only [hl] at hRd
        have HRD := Lib.hid hRd
        clear hl hRd
        go_upto_region 14 with (first
          | (go_at_call 42; refine hR.mono ?_; rintro e w1 ⟨a1', c1', rfl, r1, f1, k1⟩)
          | (go_at_call 44; refine (HRD.out _ k1).mono ?_; rintro e w2 ⟨⟨v, rfl, hv, _⟩, rfl⟩; obtain ⟨bo, cb, rfl⟩ := hv.form)
          | (go_at_call 43; refine (ints_ok r1 hv (by omega)).mono ?_; rintro e w3 ⟨rfl, k3⟩))
        have kk3 := k1.then k3 (fun _ x => x.elim)
        have r3 := row_kept r1 k3 (fun _ _ x => x)
        have KK := Lib.hid (hK.out.then kk3 (fun _ x => x.elim))
        have R3 : Hid (∃ ys, Row w3 3 1 (.slice a1' l.length c1') l.length ys) := ⟨_, r3⟩
        have F1 : Hid (∀ g, (Value.slice a1' l.length c1').ownBlock = some g → w.heap.size ≤ g) := fun g hg => by
          have h1 := f1 g hg
          have h2 := hK.out.size
          omega
        have H1 := QD.high_ok ((k : Int) - 1) (HQ.out.same KK.out)
        have H2 := DQ.most_ok ((k : Int) - 1) (HD.out.same KK.out)
        obtain ⟨hh, hhe⟩ : ∃ hh, highQ st ((k : Int) - 1) = hh := ⟨_, rfl⟩
        rw [hhe] at H1 H2
        clear k1 k3 r1 hv f1 kk3 r3 hR hhe HRD
        go_wp2_with (first
          | (go_at_call 45; refine H1.mono ?_; rintro e w' ⟨rfl, rfl⟩)
          | (go_at_call 46; refine H2.mono ?_; rintro e w' ⟨rfl, rfl⟩))
        clear H1 H2
        go_loopw [16] (fun j wr => ∃ m : Nat, m ≤ l.length ∧ j = .int .i64 m ∧ Hid ((∃ ys, Row wr 3 1 (.slice a1' l.length c1') l.length ys) ∧ Kept (fun _ => False) w wr)) (fun j _ => l.length - (intOf j).toNat)
        case atStart => exact ⟨0, Nat.zero_le _, rfl, ⟨R3.out, KK.out⟩⟩
        case round =>
          clear R3 KK
          obtain ⟨m, hm, rfl, hM⟩ := hrel
          by_cases hml : m < l.length
          · obtain ⟨⟨ys, hr⟩, kk⟩ := hM.out
            have hm0 : (0 : Int) ≤ (m : Int) := by omega
            have hm1 : (m : Int) < (l.length : Int) := by omega
            rcases row_forms hr with ⟨_, h0⟩ | ⟨g, c, hv, _⟩
            · omega
            cases hv
            have hyl : m < ys.length := by rw [hr.1]; omega
            have z1 := row_frozen hr m
            have z2 := row_cell hr m (List.getElem?_eq_getElem hyl)
            have hr2 := row_set hr m (.int .i64 (-9))
            have kk2 := kk.setCell (p := ⟨g, m, none⟩) (Or.inr (F1.out g rfl)) (.int .i64 (-9))
            have HN : Hid ((∃ ys, Row (wr.setCell ⟨g, m, none⟩ (.int .i64 (-9))) 3 1 (.slice (some ⟨g, 0, none⟩) l.length c1') l.length ys) ∧ Kept (fun _ => False) w (wr.setCell ⟨g, m, none⟩ (.int .i64 (-9)))) := ⟨⟨_, hr2⟩, kk2⟩
            clear hr hr2 kk kk2 hM
            go_wp2
            go_roundw
            case rel => exact ⟨m + 1, by omega, by go_num, HN⟩
            case measure => simp [intOf]; omega
          · obtain rfl : m = l.length := by omega
            go_wp2_with fail
            go_loopw [14, 17] (fun r j wr' => ∃ (m : Nat) (ao : Option Addr) (c : Nat), m ≤ 20 ∧ j = .int .i64 m ∧ r = .slice ao (l.length + m) c ∧ Hid ((∃ ys, Row wr' 3 1 (.slice ao (l.length + m) c) (l.length + m) ys) ∧ Kept (fun _ => False) w wr' ∧ ∀ g, (Value.slice ao (l.length + m) c).ownBlock = some g → w.heap.size ≤ g)) (fun _ j _ => 20 - (intOf j).toNat)
            case atStart => exact ⟨0, a1', c1', by omega, rfl, rfl, ⟨hM.out.1, hM.out.2, F1.out⟩⟩
            case round =>
              clear hM
              obtain ⟨m, ao, c, hm2, rfl, rfl, hM⟩ := hrel
              by_cases hml2 : m < 20
              · have hm1 : (m : Int) < 20 := by omega
                obtain ⟨N, hN⟩ : ∃ N, l.length + m = N := ⟨_, rfl⟩
                have HN := Lib.hid hN
                have hN2 : N ≤ 65556 := by omega
                rw [hN] at hM ⊢
                clear hN
                obtain ⟨⟨ys, hr⟩, kk, ho⟩ := hM.out
                clear hM
                go_wp2_with ((at_builtin; refine wpList_append_any rfl (.tmp 100) (.tmp 101) 75 rfl 3 i0 (.int .i64 0) 1 8 Try.underlying75 hi hz0 hz1 hz2 rfl (by decide) _ _ _ ys rfl (row_alloc hr _) _ 1 1 [.int .i64 (-9)] rfl (shows_new _ [_] _ (by simp) rfl) (by simp [Value.oneCell']) (by unfold maxLen; omega) (by omega) ?_))
                intro ao3 c3 wc r1 r2 r3
                have kc := (kk.alloc _).grown r2 (fun i e => Or.inr (ho i e))
                have z1 := kk.size
                have ho3 : ∀ g, (Value.slice ao3 (N + 1) c3).ownBlock = some g → w.heap.size ≤ g := fun g hg => (r3 g hg).elim (fun h => ho g h) (fun h => by omega)
                have HN2 : Hid ((∃ ys, Row wc 3 1 (.slice ao3 (N + 1) c3) (N + 1) ys) ∧ Kept (fun _ => False) w wc ∧ ∀ g, (Value.slice ao3 (N + 1) c3).ownBlock = some g → w.heap.size ≤ g) := ⟨⟨_, r1⟩, kc, ho3⟩
                have hNN : l.length + (m + 1) = N + 1 := by have := HN.out; omega
                clear r1 r2 r3 kc ho3 hr kk ho
                go_wp2
                go_roundw
                case rel => exact ⟨m + 1, ao3, c3, by omega, by go_num, by rw [hNN], by rw [hNN]; exact HN2⟩
                case measure => simp [intOf]; omega
              · obtain ⟨_, kk, _⟩ := hM.out
                have KE := Lib.hid kk
                obtain rfl : m = 20 := by omega
                clear kk hM
                go_wp2
                go_roundg (67 - (k + 1))
                case measure => omega
                case rel => exact ⟨k + 1, rfl, by omega, by go_num, KE⟩
    · obtain rfl : k = 67 := by omega
      go_wp2
      go_ret
      exact ⟨rfl, hK.out⟩
end
end Go.Proofs.Ytdjdnfjfomeldaa.RL
