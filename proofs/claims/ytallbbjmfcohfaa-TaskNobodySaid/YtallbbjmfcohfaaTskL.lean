/- tappetlaw18: told, on a table and the document's. -/
import Derived.Test.YtallbbjmfcohfaaTskV
namespace Go.Proofs.Ytallbbjmfcohfaa.L
open Go.RowKit Go.Fr Go.Proofs.Ytallbbjmfcohfaa.TK

def stV (l : List Tk) (i : Int) : Int := (at? l i).elim 0 (fun x => x.2.2.1)
def erV (l : List Tk) (i : Int) : Int := (at? l i).elim 3 (fun _ => 0)
def acV (l : List Tk) (i : Int) : Int := (at? l i).elim 0 (fun x => x.2.2.2)

/-- what told asks of a table -/
structure Tells (w : World) (tv : Value) (run : Int) (l : List Tk) : Prop where
  run : ∀ w', Kept (fun _ => False) w w' → Calls Try.prog 14 #[tv] w' fun e w'' => e = .returned (.int .i64 run) ∧ w' = w''
  state : ∀ i w', Kept (fun _ => False) w w' → Calls Try.prog 16 #[tv, .int .i64 i] w' fun e w'' => e = .returned (.tuple #[.int .i64 (stV l i), .int .i64 (erV l i)]) ∧ w' = w''
  active : ∀ i w', Kept (fun _ => False) w w' → Calls Try.prog 20 #[tv, .int .i64 i] w' fun e w'' => e = .returned (.int .i64 (acV l i)) ∧ w' = w''
  those : ∀ s w', Kept (fun _ => False) w w' → Calls Try.prog 22 #[tv, .int .i64 s] w' fun e w'' => ∃ ao c, e = .returned (.slice ao (those l s l.length).length c) ∧ Th w' w'' l s l.length (.slice ao (those l s l.length).length c)

theorem tells_ok {w : World} {b : Nat} {v : Value} {run : Int} {l : List Tk} (hs : IsTk w b v run l) : Tells w (.pointer (some ⟨b, 0, none⟩)) run l :=
  ⟨fun _ k => running_ok (hs.kept k (fun _ _ h => h)), fun i _ k => state_all i (hs.kept k (fun _ _ h => h)), fun i _ k => active_all i (hs.kept k (fun _ _ h => h)), fun s _ k => those_ok s (hs.kept k (fun _ _ h => h))⟩

/-- the two lists, the first being written over -/
structure Ov (w wx : World) (va vb : Value) (xs : List Int) (k : Nat) : Prop where
  ra : Row wx 3 1 va xs.length ((List.replicate k (-9) ++ xs.drop k).map (Value.int .i64))
  rb : Row wx 3 1 vb xs.length (xs.map (Value.int .i64))
  ap : ∀ g, va.ownBlock = some g → vb.ownBlock ≠ some g
  fa : ∀ g, va.ownBlock = some g → w.heap.size ≤ g
  kept : Kept (fun _ => False) w wx

theorem Ov.same {w wx wy : World} {va vb : Value} {xs : List Int} {k : Nat} (h : Ov w wx va vb xs k) (kk : Kept (fun _ => False) wx wy) : Ov w wy va vb xs k :=
  ⟨row_kept h.ra kk (fun _ _ h => h), row_kept h.rb kk (fun _ _ h => h), h.ap, h.fa, h.kept.then kk (fun _ h => False.elim h)⟩
theorem Ov.step {w wx : World} {g n c : Nat} {vb : Value} {xs : List Int} {k : Nat} (hn : n = xs.length) (h : Ov w wx (.slice (some ⟨g, 0, none⟩) n c) vb xs k) (hk : k < xs.length) : Ov w (wx.setCell ⟨g, k, none⟩ (.int .i64 (-9))) (.slice (some ⟨g, 0, none⟩) n c) vb xs (k + 1) := by
  subst hn
  have o : (Value.slice (some ⟨g, 0, none⟩) xs.length c).ownBlock = some g := rfl
  have hd : xs.drop k = xs[k] :: xs.drop (k + 1) := List.drop_eq_getElem_cons hk
  have hl : (List.replicate k (-9 : Int)).length = k := List.length_replicate
  refine ⟨?_, row_setCell_other h.rb (h.ap g o) _, h.ap, h.fa, h.kept.setCell (Or.inr (h.fa g o)) _⟩
  have e : (List.replicate (k + 1) (-9) ++ xs.drop (k + 1)).map (Value.int .i64) = ((List.replicate k (-9) ++ xs.drop k).map (Value.int .i64)).set k (.int .i64 (-9)) := by
    rw [← List.map_set, hd, List.set_append_right _ _ (by omega), hl, Nat.sub_self, List.set_cons_zero, List.replicate_succ', List.append_assoc]
    rfl
  rw [e]
  exact row_set h.ra k _
theorem Ov.cells {w wx : World} {va vb : Value} {xs : List Int} {k : Nat} {x : Int} (h : Ov w wx va vb xs k) (hx : xs[k]? = some x) : ∃ ga ca gb cb, va = .slice (some ⟨ga, 0, none⟩) xs.length ca ∧ vb = .slice (some ⟨gb, 0, none⟩) xs.length cb ∧
    wx.cell? ⟨ga, k, none⟩ = some (.int .i64 x) ∧ wx.cell? ⟨gb, k, none⟩ = some (.int .i64 x) ∧ wx.frozen? ⟨ga, k, none⟩ = false := by
  have hk := (List.getElem?_eq_some_iff.1 hx).1
  obtain ⟨ga, ca, rfl⟩ := TR.rowv h.ra (by omega)
  obtain ⟨gb, cb, rfl⟩ := TR.rowv h.rb (by omega)
  refine ⟨ga, ca, gb, cb, rfl, rfl, row_cell h.ra k ?_, row_cell h.rb k (by rw [List.getElem?_map, hx]; rfl), row_frozen h.ra k⟩
  rw [List.getElem?_map, List.getElem?_append_right (by simp), List.length_replicate, Nat.sub_self, List.getElem?_drop, Nat.add_zero, hx]
  rfl

section
variable {w : World} {b : Nat} {tv vr vs vn : Value} {m : Bool} {run : Int} {l : List Tk}

set_option maxRecDepth 100000 in
set_option maxHeartbeats 8000000 in
theorem told_ok (hT : Tells w tv run l) (hd : TR.IsRef w b vr vs vn m l) (ho : Ok run l) : Calls Try.prog 24 #[tv, .pointer (some ⟨b, 0, none⟩)] w fun e w' => e = .returned (.bool true) ∧ Kept (fun _ => False) w w' := by
  have hl256 := hd.n256
  have r1 := hT.run w (Kept.refl _ _)
  have r2 := TR.running_ok hd ho
  have s1 := fun i => hT.state i w (Kept.refl _ _)
  have s2 : ∀ i, Calls Try.prog 35 #[.pointer (some ⟨b, 0, none⟩), .int .i64 i] w fun e w'' => e = .returned (.tuple #[.int .i64 (stV l i), .int .i64 (erV l i)]) ∧ w = w'' := fun i => TR.get_all i hd
  have a1 := fun i => hT.active i w (Kept.refl _ _)
  have a2 : ∀ i, Calls Try.prog 36 #[.pointer (some ⟨b, 0, none⟩), .int .i64 i] w fun e w'' => e = .returned (.int .i64 (acV l i)) ∧ w = w'' := fun i => TR.active_all i hd
  have h1 := fun s w' k => hT.those s w' k
  have h2 : ∀ s w', Kept (fun _ => False) w w' → Calls Try.prog 37 #[.pointer (some ⟨b, 0, none⟩), .int .i64 s] w' fun e w'' => ∃ ao c, e = .returned (.slice ao (those l s l.length).length c) ∧ Th w' w'' l s l.length (.slice ao (those l s l.length).length c) := fun s w' k => TR.those_ok s (hd.kept k (fun _ _ h => h))
  have c1 := hd.blk.cell 1 rfl
  obtain ⟨ar, cr, rfl, _⟩ := row_any hd.rr
  have H1 := Lib.hid h1
  have H2 := Lib.hid h2
  have S1 := Lib.hid s1
  have S2 := Lib.hid s2
  have A1 := Lib.hid a1
  have A2 := Lib.hid a2
  clear hT hd ho h1 h2 s1 s2 a1 a2
  go_enter Try.func24, Try.ntmps24
  go_wp2_with fail
  refine r1.mono ?_
  rintro e w' ⟨rfl, rfl⟩
  go_wp2_with fail
  refine r2.mono ?_
  rintro e w' ⟨rfl, rfl⟩
  clear r1 r2
  go_wp2
  go_loopg [5] (l.length + 2) (fun g i wx => ∃ k : Nat, g = l.length + 2 - k ∧ k ≤ l.length + 2 ∧ i = .int .i64 ((k : Int) - 1) ∧ w = wx)
  case atStart => exact ⟨0, rfl, Nat.zero_le _, rfl, rfl⟩
  case round =>
    obtain ⟨k, hm, hk, rfl, rfl⟩ := hrel
    have HM := Lib.hid hm
    clear hm
    by_cases hlt : k < l.length + 2
    · have d1 : decide ((k : Int) - 1 ≤ (l.length : Int)) = true := by simp; omega
      obtain ⟨i, hi⟩ : ∃ i : Int, (k : Int) - 1 = i := ⟨_, rfl⟩
      rw [hi] at d1 ⊢
      have HI := Lib.hid hi
      clear hi
      go_wp2_with fail
      refine (S1.out i).mono ?_
      rintro e w' ⟨rfl, rfl⟩
      go_wp2_with fail
      refine (S2.out i).mono ?_
      rintro e w' ⟨rfl, rfl⟩
      go_wp2_with (first | (go_at_call 20; refine (A1.out i).mono ?_; rintro e w' ⟨rfl, rfl⟩) | (go_at_call 36; refine (A2.out i).mono ?_; rintro e w' ⟨rfl, rfl⟩))
      go_roundg (l.length + 2 - (k + 1))
      case measure => have := HM.out; omega
      case rel => exact ⟨k + 1, rfl, by omega, by have := HI.out; rw [show RowKit.wrap64 (i + 1) = i + 1 from IntWalk.wrap64_in _ (by omega)]; congr 1; omega, rfl⟩
    · have d1 : decide ((k : Int) - 1 ≤ (l.length : Int)) = false := by simp; omega
      clear S1 S2 A1 A2
      go_wp2
      go_loopg [10] 6 (fun g s wx => ∃ q : Int, g = (5 - q).toNat ∧ -1 ≤ q ∧ q ≤ 5 ∧ s = .int .i64 q ∧ Hid (Kept (fun _ => False) w wx))
      case atStart => exact ⟨-1, rfl, by omega, by omega, rfl, Kept.refl _ _⟩
      case round =>
        clear HM
        obtain ⟨q, hm, hq1, hq2, rfl, hK⟩ := hrel
        have HM := Lib.hid hm
        clear hm
        by_cases hq : q ≤ 4
        · have d1 : decide (q ≤ 4) = true := by simpa using hq
          go_wp2_with fail
          refine (H1.out q _ hK.out).mono ?_
          rintro e w1 ⟨aa, ca, rfl, t1⟩
          have k1 := hK.out.then t1.kept (fun _ h => False.elim h)
          go_wp2_with fail
          refine (H2.out q _ k1).mono ?_
          rintro e w2 ⟨ab, cb, rfl, t2⟩
          have k2 := k1.then t2.kept (fun _ h => False.elim h)
          obtain ⟨xs, hxs⟩ : ∃ xs, those l q l.length = xs := ⟨_, rfl⟩
          have O0 : Ov w w2 (.slice aa xs.length ca) (.slice ab xs.length cb) xs 0 := by
            rw [hxs] at t1 t2
            have g1 := t1.row
            have g2 := t2.row
            have o1 := t1.own
            have o2 := t2.own
            rw [hxs] at g1 g2
            refine ⟨row_kept g1 t2.kept (fun _ _ h => h), g2, fun g e1 e2 => ?_, fun g e => ?_, k2⟩
            · have := o2 g e2; have := row_lt g1 e1; omega
            · have := o1 g e; have := hK.out.size; omega
          rw [hxs]
          have hxl : xs.length ≤ 256 := by rw [← hxs]; have := those_len l q l.length; omega
          have O1 := Lib.hid O0
          clear t1 t2 k1 k2 O0 hK hxs
          go_wp2
          go_loopg [13] xs.length (fun g j wx => ∃ k : Nat, g = xs.length - k ∧ k ≤ xs.length ∧ j = .int .i64 k ∧ Hid (Ov w wx (.slice aa xs.length ca) (.slice ab xs.length cb) xs k))
          case atStart => exact ⟨0, rfl, Nat.zero_le _, rfl, O1⟩
          case round =>
            clear O1
            obtain ⟨k, hm, hk, rfl, hO⟩ := hrel
            have HG := Lib.hid hm
            clear hm
            by_cases hlt : k < xs.length
            · obtain ⟨x, hx⟩ : ∃ x, xs[k]? = some x := ⟨_, List.getElem?_eq_getElem hlt⟩
              have hk0 : (0 : Int) ≤ (k : Int) := by omega
              have hk1 : (k : Int) < (xs.length : Int) := by omega
              obtain ⟨ga, ca', gb, cb', e1, e2, z1, z2, z3⟩ := hO.out.cells hx
              cases e1
              cases e2
              clear hx
              go_upto_region 19 with fail
              go_quiet (fail)
              have Q := Lib.hid (fun n => (hO.out.same ((Kept.refl (fun _ => False) wr).drewN n)).step rfl hlt)
              clear hO
              go_wp2
              go_roundg (xs.length - (k + 1))
              case measure => have := HG.out; omega
              case rel => exact ⟨k + 1, rfl, by omega, by go_num, Q.out _⟩
            · have hkx : ¬ (k : Int) < (xs.length : Int) := by omega
              have K := Lib.hid hO.out.kept
              clear hO
              go_wp2
              go_roundg ((5 - (q + 1)).toNat)
              case measure => have := HM.out; omega
              case rel => exact ⟨q + 1, rfl, by omega, by omega, by go_num, K⟩
        · have d1 : decide (q ≤ 4) = false := by simpa using hq
          have K := Lib.hid hK.out
          clear hK
          go_wp2
          go_ret
          exact ⟨rfl, K.out⟩
end
end Go.Proofs.Ytallbbjmfcohfaa.L
