/- P15.1 to P15.5, the walk: every script of calls on a table and on the document's. -/
import Derived.Test.YtmljnhhjjaibbaaEvtA
import Derived.Deep.CutBlock
namespace Go.Proofs.Ytmljnhhjjaibbaa.eventPlaysW
open Go.RowKit Go.Fr Go.Proofs.Ytmljnhhjjaibbaa.EV Go.Proofs.Ytmljnhhjjaibbaa.EA

/-- both tables, alike; all that they own came behind n0 -/
structure St (n0 : Nat) (w0 wr : World) (b b' : Nat) (vm vo vw vs : Value) (l : List Ev) : Prop where
  evt : IsEvt wr b l.length l
  ref : ER.IsRef wr b' vm vo vw vs l
  dis : ∀ i, ER.foot b' vm vo vw vs i → i ≠ b
  ok : Okl l
  b0 : n0 ≤ b
  f0 : ∀ i, ER.foot b' vm vo vw vs i → n0 ≤ i
  bel : Below n0 w0 wr
  n256 : l.length ≤ 256

theorem St.same {n0 b b' : Nat} {w0 wr w1 : World} {vm vo vw vs : Value} {l : List Ev} (h : St n0 w0 wr b b' vm vo vw vs l) (hw : n0 ≤ wr.heap.size) (k : Kept (fun _ => False) wr w1) : St n0 w0 w1 b b' vm vo vw vs l :=
  { h with evt := h.evt.kept k (fun h => h), ref := h.ref.kept k (fun _ _ h => h), bel := h.bel.trans (k.below hw (fun _ h => False.elim h)) }
/-- a call on the one, then on the other -/
theorem St.step {n0 b b' b2 : Nat} {w0 wr w1 w2 : World} {vm vo vw vs vm' vo' vw' vs' : Value} {l l' : List Ev} (h : St n0 w0 wr b b' vm vo vw vs l) (hw : n0 ≤ wr.heap.size) (hl : l'.length = l.length) (ho : Okl l')
    (he : IsEvt w1 b l'.length l') (k1 : Kept (fun i => i = b) wr w1) (hr : ER.IsRef w2 b2 vm' vo' vw' vs' l') (k2 : Kept (ER.foot b' vm vo vw vs) w1 w2) (hf : ∀ i, ER.foot b2 vm' vo' vw' vs' i → ER.foot b' vm vo vw vs i ∨ w1.heap.size ≤ i) : St n0 w0 w2 b b2 vm' vo' vw' vs' l' := by
  have hz := k1.size
  refine ⟨he.kept k2 (fun hi => h.dis b hi rfl), hr, fun i hi e => ?_, ho, h.b0, fun i hi => (hf i hi).elim (h.f0 i) (fun h => by omega), (h.bel.trans (k1.below hw (fun i hi => by rw [hi]; exact h.b0))).trans (k2.below (by omega) h.f0), by rw [hl]; exact h.n256⟩
  rcases hf i hi with h1 | h1
  · exact h.dis i h1 e
  · have := he.lt; omega
theorem St.ref1 {n0 b b' : Nat} {w0 wr w1 : World} {vm vo vw vs : Value} {l : List Ev} (h : St n0 w0 wr b b' vm vo vw vs l) (k1 : Kept (fun i => i = b) wr w1) : ER.IsRef w1 b' vm vo vw vs l := h.ref.kept k1 (fun i hi => h.dis i hi)

theorem fr_reset {l : List Ev} (h : Okl l) : l.map fr = (l.map (·.1)).map mk0 := by
  rw [List.map_map]
  refine List.map_congr_left (fun a ha => ?_)
  unfold fr
  by_cases hz : a.1 = 0
  · rw [if_pos hz]; have := h a ha hz; rw [this]; rfl
  · rw [if_neg hz]; rfl
theorem okl_mk0 (ms : List Int) : Okl (ms.map mk0) := by
  intro a ha hz
  obtain ⟨x, _, rfl⟩ := List.mem_map.1 ha
  simp only [mk0] at hz ⊢
  rw [hz]

theorem row_came {w : World} {e : TypeId} {k : IntKind} {ao : Option Addr} {n c : Nat} {l : List Int} (h : Row w e 1 (.slice ao n c) n (l.map (Value.int k))) (hn : l.length = n) : CameL w 1 (encK k) ao l := by
  intro hne
  subst hn
  rcases row_forms h with ⟨_, h0⟩ | ⟨g, c', hv, _, _, hg⟩
  · exact absurd (List.eq_nil_of_length_eq_zero h0) hne
  · cases hv
    refine ⟨g, 0, rfl, hg, fun i x hx j v hv => ?_⟩
    have hj : j = 0 := by have := (List.getElem?_eq_some_iff.1 hv).1; simp [encK] at this; exact this
    subst hj
    simp [encK] at hv
    subst hv
    have := row_cell h i (u := .int k x) (by rw [List.getElem?_map, hx]; rfl)
    simpa using this

theorem shows_of {w : World} {ms : List Int} {ao : Option Addr} (hc : CameL w 1 (encK .u32) ao ms) : Shows w 1 ao ms.length (ms.map (Value.int .u32)) := by
  by_cases h : ms = []
  · subst h; exact ⟨rfl, fun _ => rfl, fun ad _ j u hu => by simp at hu⟩
  · exact ER.came_shows hc h

set_option maxRecDepth 100000 in
set_option maxHeartbeats 8000000 in
theorem walk (w : World) (a0 : Option Addr) (cap0 : Nat) (l0 : List Int) (hl0 : l0.length ≤ cap0) (hm0 : cap0 ≤ maxLen) (hc0 : CameL w 1 (encK .u32) a0 l0) (hw0 : ∀ x ∈ l0, (Lit.int .u32 x).wf = true) (hr0 : l0.length * 4 ≤ 140737488351232)
    (a1 : Option Addr) (cap1 : Nat) (l1 : List (Int × Int × Int)) (hl1 : l1.length ≤ cap1) (hm1 : cap1 ≤ maxLen) (hc1 : CameL w 3 (encKKK .i64 .i64 .u32) a1 l1)
    (hw1 : ∀ x ∈ l1, (Lit.int .i64 x.1).wf = true ∧ (Lit.int .i64 x.2.1).wf = true ∧ (Lit.int .u32 x.2.2).wf = true) (hr1 : l1.length * 24 ≤ 140737488351232) :
    Calls Try.prog 4 #[.slice a0 l0.length cap0, .slice a1 l1.length cap1] w fun e w' => e = .returned (.bool true) ∧ Below w.heap.size w w' := by
  obtain ⟨i0, hi, hz0, hz1, hz2⟩ := info_parts ER.info_u
  clear hw0 hw1
  have kA := (Kept.refl (fun _ => False) w).alloc (.cells #[] 22)
  have rE : Row (w.alloc (.cells #[] 22)) 22 1 (.slice (some ⟨w.heap.size, 0, none⟩) 0 0) 0 [] := row_new w 22 1 0 [] rfl (Nat.zero_le _)
  have hcA : CameL (w.alloc (.cells #[] 22)) 1 (encK .u32) a0 l0 := hc0.below (kA.below (Nat.le_refl _) (fun _ h => False.elim h)) (Nat.le_refl _)
  have shA := shows_of hcA
  have HC0 := Lib.hid hc0
  have HC1 := Lib.hid hc1
  have KA := Lib.hid kA
  have RE := Lib.hid rE
  have SA := Lib.hid shA
  clear hc0 hc1 kA rE hcA shA
  go_enter Try.func4, Try.ntmps4
  go_wp2_with ((at_builtin; refine wpList_append_any rfl (.tmp 32) (.tmp 33) 28 rfl 22 i0 (.int .u32 0) 1 4 Try.underlying28 hi hz0 hz1 hz2 rfl (by decide) (some ⟨w.heap.size, 0, none⟩) 0 0 [] rfl RE.out a0 l0.length cap0 (l0.map (Value.int .u32)) rfl SA.out ?h1 ?h2 ?h3 ?_))
  case h1 => intro u hu; obtain ⟨x, _, rfl⟩ := List.mem_map.1 hu; rfl
  case h2 => unfold maxLen; omega
  case h3 => omega
  intro ao c w1 r1 r2 r3
  try simp only [Nat.zero_add] at r1 r3
  try simp only [List.nil_append] at r1
  have hge : ∀ g, (Value.slice ao l0.length c).ownBlock = some g → w.heap.size ≤ g := fun g hg => (r3 g hg).elim (fun e => by simp [Value.ownBlock] at e; omega) (fun h => by first | (simp at h; omega) | omega)
  have k1 : Kept (fun _ => False) w w1 := by
    have h1 := KA.out.mono (S' := fun i => i = w.heap.size) (fun _ _ h => False.elim h)
    have h2 := h1.grown r2 (fun k hk => by simp [Value.ownBlock] at hk; exact Or.inl hk.symm)
    exact h2.mono (fun i hi h => by omega)
  have hcM : CameL w1 1 (encK .u32) a0 l0 := HC0.out.below (k1.below (Nat.le_refl _) (fun _ h => False.elim h)) (Nat.le_refl _)
  have hcI := row_came r1 rfl
  have HGE := Lib.hid hge
  have R1 := Lib.hid r1
  have K1 := Lib.hid k1
  have HM := Lib.hid hcM
  have hz1 := k1.size
  clear hge r1 r2 r3 k1 hcM
  try rw [Nat.zero_add]
  by_cases hbig : 256 < l0.length
  · go_wp2_with fail
    refine (EV.new_big ao l0.length c w1 hbig).mono ?_
    rintro e w' ⟨rfl, rfl⟩
    go_wp2_with fail
    refine (ER.new_big a0 l0.length cap0 w1 hbig).mono ?_
    rintro e w' ⟨rfl, rfl⟩
    go_wp2_with fail
    refine (heads_law _).mono ?_
    rintro e w9 ⟨rfl, k9⟩
    go_wp2
    go_ret
    exact ⟨rfl, (K1.out.then k9 (fun _ h => Or.inl h)).below (Nat.le_refl _) (fun _ h => False.elim h)⟩
  · have h256 : l0.length ≤ 256 := by omega
    go_wp2_with fail
    refine (EV.new_ok ao c l0 w1 h256 hcI).mono ?_
    rintro e w2 ⟨rfl, e2, k2⟩
    have hcM2 : Shows w2 1 a0 l0.length (l0.map (Value.int .u32)) := shows_of (HM.out.below (k2.below (Nat.le_refl _) (fun _ h => False.elim h)) (Nat.le_refl _))
    clear hcI
    go_wp2_with fail
    refine (ER.new_ok a0 cap0 l0 w2 h256 hcM2).mono ?_
    rintro e w3 ⟨b', vm, vo, vw, vs, rfl, f3, hf, k3⟩
    clear hcM2
    go_wp2_with fail
    refine (heads_law _).mono ?_
    rintro e w4 ⟨rfl, k4⟩
    have R4 := Lib.hid (row_kept (row_kept (row_kept R1.out k2 (fun _ _ h => h)) k3 (fun _ _ h => h)) k4 (fun _ _ h => h))
    have hz2 := k2.size
    have hz3 := k3.size
    have hz4 := k4.size
    have S4 : Hid (St w.heap.size w w4 w1.heap.size b' vm vo vw vs (l0.map mk0)) := by
      have hlen : (l0.map mk0).length = l0.length := by simp
      refine ⟨by rw [hlen]; exact (e2.kept k3 (fun h => h)).kept k4 (fun h => h), f3.kept k4 (fun _ _ h => h), fun i hi e => by have := hf i hi; have := e2.lt; omega, ?_, by omega, fun i hi => by have := hf i hi; omega, ?_, by rw [hlen]; exact h256⟩
      · intro a ha hz
        obtain ⟨x, _, rfl⟩ := List.mem_map.1 ha
        simp only [mk0] at hz ⊢
        rw [hz]
      · exact (((K1.out.then k2 (fun _ h => Or.inl h)).then k3 (fun _ h => Or.inl h)).then k4 (fun _ h => Or.inl h)).below (Nat.le_refl _) (fun _ h => False.elim h)
    have hin : ∀ g, (Value.slice ao l0.length c).ownBlock = some g → g < w1.heap.size := fun g hg => row_lt R1.out hg
    have HIN := Lib.hid hin
    have HF := Lib.hid hf
    have hb1 : w.heap.size ≤ w1.heap.size := hz1
    obtain ⟨b, hb⟩ : ∃ b, w1.heap.size = b := ⟨_, rfl⟩
    clear e2 k2 f3 hf k3 k4 hin
    rw [hb] at S4 hb1 HIN hz2
    simp only [hb]
    clear hb
    go_wp2
    go_loopw [10] (fun i wr => ∃ (k : Nat) (zs : List Int), k ≤ l0.length ∧ i = .int .i64 k ∧ zs.length = l0.length ∧ Hid (Row wr 22 1 (.slice ao l0.length c) l0.length (zs.map (Value.int .u32))) ∧ Hid (Kept (fun i => (Value.slice ao l0.length c).ownBlock = some i) w4 wr)) (fun i _ => l0.length - (intOf i).toNat)
    case atStart => exact ⟨0, l0, Nat.zero_le _, rfl, rfl, R4, Kept.refl _ _⟩
    case round =>
      obtain ⟨k, zs, hk, rfl, hzs, hR, hK⟩ := hrel
      by_cases hlt : k < l0.length
      · obtain ⟨x, hx⟩ : ∃ x, zs[k]? = some x := ⟨_, List.getElem?_eq_getElem (by omega)⟩
        obtain ⟨g, cc, hv⟩ := ER.rowv hR.out (by omega)
        cases hv
        have ck : wr.cell? ⟨g, k, none⟩ = some (.int .u32 x) := row_cell hR.out k (by rw [List.getElem?_map, hx]; rfl)
        have fk := row_frozen hR.out k
        have hk0 : (0 : Int) ≤ (k : Int) := by omega
        have hk1 : (k : Int) < (l0.length : Int) := by omega
        have HZ := Lib.hid hzs
        clear hx hzs
        go_wp2
        go_roundw
        case rel => exact ⟨k + 1, zs.set k ((x + 1) % 4294967296), by omega, by go_num, by rw [List.length_set]; exact HZ.out, by rw [List.map_set]; exact row_set hR.out k _, hK.out.set (b := g) k (Or.inl rfl) _⟩
        case measure => simp [intOf]; omega
      · have S5 : Hid (St w.heap.size w wr b b' vm vo vw vs (l0.map mk0)) := by
          have h := S4.out
          have hne : ∀ i, (Value.slice ao l0.length c).ownBlock = some i → i ≠ b ∧ ¬ ER.foot b' vm vo vw vs i := fun i hi => by
            have := HIN.out i hi
            exact ⟨by omega, fun hf => by have := HF.out i hf; omega⟩
          exact { h with evt := h.evt.kept hK.out (fun e => (hne _ e).1 rfl), ref := h.ref.kept hK.out (fun i hi e => (hne i e).2 hi), bel := h.bel.trans (hK.out.below (by omega) HGE.out) }
        clear S4 hR hK R4 HIN HF
        have L0 : (l0.map mk0).length = l0.length := by simp
        have HL0 := Lib.hid L0
        clear L0
        have hwr := S5.out.bel.size
        go_wp2
        -- the script
        have HG := Lib.hid S5.out
        clear S5 hwr
        go_loopg [6, 8, 11] l1.length (fun g t p i wx => ∃ (k b b' : Nat) (vm vo vw vs : Value) (l : List Ev), g = l1.length - k ∧ k ≤ l1.length ∧ i = .int .i64 k ∧ t = .pointer (some ⟨b, 0, none⟩) ∧ p = .pointer (some ⟨b', 0, none⟩) ∧ l.length = l0.length ∧ Hid (St w.heap.size w wx b b' vm vo vw vs l))
        case atStart => exact ⟨0, b, b', vm, vo, vw, vs, _, rfl, Nat.zero_le _, rfl, rfl, rfl, HL0.out, HG⟩
        case round =>
          clear HG HL0 hb1 hz1 hz2 hz3 hz4
          obtain ⟨k, b, b', vm, vo, vw, vs, l, hg, hk, rfl, rfl, rfl, hll, hS⟩ := hrel
          have HLL := Lib.hid hll
          have HGK := Lib.hid hg
          clear hll hg
          by_cases hlt : k < l1.length
          · obtain ⟨⟨kd, tk, x⟩, hx⟩ : ∃ x, l1[k]? = some x := ⟨_, List.getElem?_eq_getElem hlt⟩
            obtain ⟨sb, so, rfl, hsb, hcc⟩ := HC1.out (by rintro rfl; simp at hlt)
            have hc0 : ∀ (j : Nat) (v : Value), (encKKK .i64 .i64 .u32 (kd, tk, x))[j]? = some v → wr.cell? ⟨sb, so + k * 3 + j, none⟩ = some v := fun j v hv => by
              rw [hS.out.bel.cell (p := ⟨sb, so + k * 3 + j, none⟩) hsb]
              exact hcc k _ hx j v hv
            have q0 : wr.cell? ⟨sb, so + k * 3, none⟩ = some (.int .i64 kd) := hc0 0 _ rfl
            have q1 : wr.cell? ⟨sb, so + k * 3 + 1, none⟩ = some (.int .i64 tk) := hc0 1 _ rfl
            have q2 : wr.cell? ⟨sb, so + k * 3 + 2, none⟩ = some (.int .u32 x) := hc0 2 _ rfl
            have hk0 : (0 : Int) ≤ (k : Int) := by omega
            have hk1 : (k : Int) < (l1.length : Int) := by omega
            clear hx hcc hc0
            have hn0 : w.heap.size ≤ wr.heap.size := hS.out.bel.size
            have SX := Lib.hid (hS.out.same hn0 ((Kept.refl (fun _ => False) wr).alloc (.cells #[.int .i64 kd, .int .i64 tk, .int .u32 x] 34)))
            have bx := Blk.new wr [.int .i64 kd, .int .i64 tk, .int .u32 x] 34
            have hxf : ∀ i, ER.foot b' vm vo vw vs i → i < wr.heap.size := hS.out.ref.lt
            have hxb : b < wr.heap.size := hS.out.evt.lt
            go_upto_block 4 with fail
            obtain ⟨xb, hxbe⟩ : ∃ xb, wr.heap.size = xb := ⟨_, rfl⟩
            have hsz : wr.heap.size < (wr.alloc (.cells #[.int .i64 kd, .int .i64 tk, .int .u32 x] 34)).heap.size := by simp
            rw [hxbe] at bx hxf hxb hn0 hsz
            simp only [hxbe]
            obtain ⟨wx, hwx⟩ : ∃ wx, wr.alloc (.cells #[.int .i64 kd, .int .i64 tk, .int .u32 x] 34) = wx := ⟨_, rfl⟩
            rw [hwx] at SX bx hsz ⊢
            have x1 := bx.cell 1 rfl
            have x2 := bx.cell 2 rfl
            clear hwx hxbe hS q0 q1 q2 bx
            have hnx : w.heap.size ≤ wx.heap.size := by omega
            have XF := Lib.hid hxf
            clear hxf
            go_cut [6, 8] (fun t p wz => ∃ (b b' : Nat) (vm vo vw vs : Value) (l : List Ev), t = .pointer (some ⟨b, 0, none⟩) ∧ p = .pointer (some ⟨b', 0, none⟩) ∧ l.length = l0.length ∧ Hid (St w.heap.size w wz b b' vm vo vw vs l))
            case first =>
             as_aux_lemma =>
              have hbx : b ≠ xb := by omega
              have hE := SX.out.evt
              by_cases h1 : kd = 1
              · subst h1
                as_aux_lemma =>
                  have hL : (setP l tk x).1.length = l.length := opP_length (fun c => (false, c)) (fSet x) l tk
                  have hO : Okl (setP l tk x).1 := opP_okl (fun c => (false, c)) (fSet x) (fSet_m x) SX.out.ok tk
                  have hA := fun (wy : World) (h : IsEvt wy b l.length l) => E.set_all tk x h
                  have hB := fun (wy : World) (h : ER.IsRef wy b' vm vo vw vs l) => R.set_all tk x h
                  obtain ⟨⟨l', r, q⟩, hP⟩ : ∃ z, setP l tk x = z := ⟨_, rfl⟩
                  simp only [hP] at hL hO hA hB
                  have HA := Lib.hid hA
                  have HB := Lib.hid hB
                  have HL := Lib.hid hL
                  have HO := Lib.hid hO
                  clear hA hB hL hO hP
                  go_wp2_with fail
                  refine (HA.out _ hE).mono ?_
                  rintro e w1 ⟨rfl, e1, k1⟩
                  have y1 := (k1.cell (p := ⟨xb, 1, none⟩) hsz (fun e => hbx e.symm)).trans x1
                  have y2 := (k1.cell (p := ⟨xb, 2, none⟩) hsz (fun e => hbx e.symm)).trans x2
                  go_wp2_with fail
                  refine (HB.out _ (SX.out.ref1 k1)).mono ?_
                  rintro e w2 ⟨rfl, e2, k2⟩
                  go_wp2_with fail
                  go_meet
                  have K1 := k1
                  have K2 := k2
                  exact ⟨b, b', vm, vo, vw, vs, l', rfl, rfl, HL.out.trans HLL.out, SX.out.step hnx HL.out HO.out (by rw [HL.out]; exact e1) K1 e2 K2 (fun i hi => Or.inl hi)⟩
              · have d1 : (kd == 1) = false := by simpa using h1
                by_cases h2 : kd = 2
                · subst h2
                  as_aux_lemma =>
                    have hL : (clearP l tk x).1.length = l.length := opP_length (fun c => c) (fClear x) l tk
                    have hO : Okl (clearP l tk x).1 := opP_okl (fun c => c) (fClear x) (fun _ => rfl) SX.out.ok tk
                    have hA := fun (wy : World) (h : IsEvt wy b l.length l) => E.clear_all tk x h
                    have hB := fun (wy : World) (h : ER.IsRef wy b' vm vo vw vs l) => R.clear_all tk x h
                    obtain ⟨⟨l', q⟩, hP⟩ : ∃ z, clearP l tk x = z := ⟨_, rfl⟩
                    simp only [hP] at hL hO hA hB
                    have HA := Lib.hid hA
                    have HB := Lib.hid hB
                    have HL := Lib.hid hL
                    have HO := Lib.hid hO
                    clear hA hB hL hO hP
                    go_wp2_with fail
                    refine wp_region_noPanic ?_
                    go_region_held3 (fun w' => w'.cell? ⟨xb, 1, none⟩ = some (.int .i64 tk) ∧ w'.cell? ⟨xb, 2, none⟩ = some (.int .u32 x))
                      (first
                        | (simp [*]; done)
                        | (refine ⟨?_, ?_⟩ <;> (first | exact ((k2.cell (by exact Nat.lt_of_lt_of_le hsz k1.undrew.size) (fun h => Nat.lt_irrefl _ (XF.out _ h))).trans ((k1.cell (by exact hsz) (fun e => hbx e.symm)).trans (by assumption))) | exact ((k1.cell (by exact hsz) (fun e => hbx e.symm)).trans (by assumption))))
                        | fail)
                      (first
                        | (go_at_call 9; refine (HA.out _ (hE.drewN _)).mono ?_; rintro e w1 ⟨rfl, e1, k1⟩)
                        | (go_at_call 16; refine (HB.out _ (SX.out.ref1 k1.undrew)).mono ?_; rintro e w2 ⟨rfl, e2, k2⟩))
                    refine NoPanic.normal ?_
                    go_wp2_with fail
                    go_meet
                    have K1 := k1.undrew
                    have K2 := k2
                    exact ⟨b, b', vm, vo, vw, vs, l', rfl, rfl, HL.out.trans HLL.out, SX.out.step hnx HL.out HO.out (by rw [HL.out]; exact e1) K1 e2 K2 (fun i hi => Or.inl hi)⟩
                · have d2 : (kd == 2) = false := by simpa using h2
                  by_cases h3 : kd = 3
                  · subst h3
                    as_aux_lemma =>
                      go_wp2_with fail
                      refine (E.get_all tk hE).mono ?_
                      rintro e w' ⟨rfl, rfl⟩
                      go_wp2_with fail
                      refine (R.get_all tk SX.out.ref).mono ?_
                      rintro e w' ⟨rfl, rfl⟩
                      go_wp2_with fail
                      go_meet
                      exact ⟨b, b', vm, vo, vw, vs, l, rfl, rfl, HLL.out, SX⟩
                  · have d3 : (kd == 3) = false := by simpa using h3
                    by_cases h4 : kd = 4
                    · subst h4
                      as_aux_lemma =>
                        have hL : (waitP l tk x).1.length = l.length := opP_length (fun c => (false, c)) (fWait x) l tk
                        have hO : Okl (waitP l tk x).1 := opP_okl (fun c => (false, c)) (fWait x) (fWait_m x) SX.out.ok tk
                        have hA := fun (wy : World) (h : IsEvt wy b l.length l) => E.wait_all tk x h
                        have hB := fun (wy : World) (h : ER.IsRef wy b' vm vo vw vs l) => R.wait_all tk x h
                        obtain ⟨⟨l', r, q⟩, hP⟩ : ∃ z, waitP l tk x = z := ⟨_, rfl⟩
                        simp only [hP] at hL hO hA hB
                        have HA := Lib.hid hA
                        have HB := Lib.hid hB
                        have HL := Lib.hid hL
                        have HO := Lib.hid hO
                        clear hA hB hL hO hP
                        go_wp2_with fail
                        refine (HA.out _ hE).mono ?_
                        rintro e w1 ⟨rfl, e1, k1⟩
                        have y1 := (k1.cell (p := ⟨xb, 1, none⟩) hsz (fun e => hbx e.symm)).trans x1
                        have y2 := (k1.cell (p := ⟨xb, 2, none⟩) hsz (fun e => hbx e.symm)).trans x2
                        go_wp2_with fail
                        refine (HB.out _ (SX.out.ref1 k1)).mono ?_
                        rintro e w2 ⟨rfl, e2, k2⟩
                        go_wp2_with fail
                        go_meet
                        have K1 := k1
                        have K2 := k2
                        exact ⟨b, b', vm, vo, vw, vs, l', rfl, rfl, HL.out.trans HLL.out, SX.out.step hnx HL.out HO.out (by rw [HL.out]; exact e1) K1 e2 K2 (fun i hi => Or.inl hi)⟩
                    · have d4 : (kd == 4) = false := by simpa using h4
                      by_cases h5 : kd = 5
                      · subst h5
                        as_aux_lemma =>
                          have hA : ∀ n, Calls Try.prog 13 #[.pointer (some ⟨b, 0, none⟩), .int .i64 tk] (wx.drewN n) fun e w' => e = .returned (.int .u32 (waitsP l tk).2) ∧ w' = wx.drewN n := fun n => (E.waits_all tk (hE.drewN n)).mono (by rintro e w' ⟨rfl, rfl⟩; exact ⟨rfl, rfl⟩)
                          have hB : ∀ n, Calls Try.prog 19 #[.pointer (some ⟨b', 0, none⟩), .int .i64 tk] (wx.drewN n) fun e w' => e = .returned (.int .u32 (waitsP l tk).2) ∧ w' = wx.drewN n := fun n => (R.waits_all tk (SX.out.ref.drewN n)).mono (by rintro e w' ⟨rfl, rfl⟩; exact ⟨rfl, rfl⟩)
                          go_wp2_with fail
                          go_quiet (first | (go_at_call 13; refine Calls.quiet_of_same (hA _)) | (go_at_call 19; refine Calls.quiet_of_same (hB _)))
                          go_wp2_with fail
                          go_meet
                          exact ⟨b, b', vm, vo, vw, vs, l, rfl, rfl, HLL.out, SX.out.same hnx ((Kept.refl _ wx).same rfl rfl rfl rfl)⟩
                      · have d5 : (kd == 5) = false := by simpa using h5
                        by_cases h6 : kd = 6
                        · subst h6
                          as_aux_lemma =>
                            have hL : (freshP l tk).1.length = l.length := opP_length (fun c => c) fFresh l tk
                            have hO : Okl (freshP l tk).1 := opP_okl (fun c => c) fFresh (fun _ => rfl) SX.out.ok tk
                            have hA := fun (wy : World) (h : IsEvt wy b l.length l) => E.fresh_all tk h
                            have hB := fun (wy : World) (h : ER.IsRef wy b' vm vo vw vs l) => R.fresh_all tk h
                            obtain ⟨⟨l', q⟩, hP⟩ : ∃ z, freshP l tk = z := ⟨_, rfl⟩
                            simp only [hP] at hL hO hA hB
                            have HA := Lib.hid hA
                            have HB := Lib.hid hB
                            have HL := Lib.hid hL
                            have HO := Lib.hid hO
                            clear hA hB hL hO hP
                            go_wp2_with fail
                            refine wp_region_noPanic ?_
                            go_region_held3 (fun w' => w'.cell? ⟨xb, 1, none⟩ = some (.int .i64 tk) ∧ w'.cell? ⟨xb, 2, none⟩ = some (.int .u32 x))
                              (first
                                | (simp [*]; done)
                                | (refine ⟨?_, ?_⟩ <;> (first | exact ((k2.cell (by exact Nat.lt_of_lt_of_le hsz k1.undrew.size) (fun h => Nat.lt_irrefl _ (XF.out _ h))).trans ((k1.cell (by exact hsz) (fun e => hbx e.symm)).trans (by assumption))) | exact ((k1.cell (by exact hsz) (fun e => hbx e.symm)).trans (by assumption))))
                                | fail)
                              (first
                                | (go_at_call 11; refine (HA.out _ (hE.drewN _)).mono ?_; rintro e w1 ⟨rfl, e1, k1⟩)
                                | (go_at_call 20; refine (HB.out _ (SX.out.ref1 k1.undrew)).mono ?_; rintro e w2 ⟨rfl, e2, k2⟩))
                            refine NoPanic.normal ?_
                            go_wp2_with fail
                            go_meet
                            have K1 := k1.undrew
                            have K2 := k2
                            exact ⟨b, b', vm, vo, vw, vs, l', rfl, rfl, HL.out.trans HLL.out, SX.out.step hnx HL.out HO.out (by rw [HL.out]; exact e1) K1 e2 K2 (fun i hi => Or.inl hi)⟩
                        · have d6 : (kd == 6) = false := by simpa using h6
                          by_cases h7 : kd = 7
                          · subst h7
                            as_aux_lemma =>
                              go_wp2_with fail
                              refine (EV.reset_ok hE).mono ?_
                              rintro e w1 ⟨rfl, e1, k1⟩
                              have hr := SX.out.ref1 k1
                              have hrm := hr.rm
                              have hl1 : (l.map (·.1)).length = l.length := List.length_map _
                              have hRR := ER.reset_ok (l.map (·.1)) (by rw [hl1]; exact SX.out.n256) hr.blk (by rw [hl1, List.map_map]; exact hrm) hr.bm
                              have HRR := Lib.hid hRR
                              clear hRR hrm hr
                              go_wp2_with fail
                              refine HRR.out.mono ?_
                              rintro e w2 ⟨vo', vw', vs', rfl, e2, k2, hf2⟩
                              go_wp2_with fail
                              go_meet
                              have hfr := fr_reset SX.out.ok
                              have hlen : (l.map fr).length = l.length := List.length_map _
                              exact ⟨b, b', vm, vo', vw', vs', l.map fr, rfl, rfl, hlen.trans HLL.out, SX.out.step hnx hlen (by rw [hfr]; exact okl_mk0 _) (by rw [hlen]; exact e1) k1 (by rw [hfr]; exact e2) (k2.mono (fun i _ hi => Or.inl hi)) (fun i hi => by
                                rcases hf2 i hi with h | h | h
                                · exact Or.inl (Or.inl h)
                                · exact Or.inl (Or.inr (Or.inl h))
                                · exact Or.inr h)⟩
                          · have d7 : (kd == 7) = false := by simpa using h7
                            by_cases h8 : kd = 8
                            · subst h8
                              as_aux_lemma =>
                                go_wp2_with fail
                                refine (EV.copy_ok hE).mono ?_
                                rintro e w1 ⟨rfl, e1, k1⟩
                                have hr1 := SX.out.ref.kept k1 (fun _ _ h => h)
                                have z1 := k1.size
                                obtain ⟨b2, hb2⟩ : ∃ b2, wx.heap.size = b2 := ⟨_, rfl⟩
                                rw [hb2] at e1
                                have hbw1 := e1.lt
                                simp only [hb2]
                                go_wp2_with fail
                                refine (ER.copy_ok hr1 SX.out.n256).mono ?_
                                rintro e w2 ⟨b3, vm', vo', vw', vs', rfl, e2, hf2, k2⟩
                                have hE2 := (hE.kept k1 (fun h => h)).kept k2 (fun h => h)
                                have e1' := e1.kept k2 (fun h => h)
                                have z2 := k2.size
                                have hb0 := hE.lt
                                have y1 := (k2.cell (p := ⟨xb, 1, none⟩) (by exact Nat.lt_of_lt_of_le hsz z1) (fun h => h)).trans ((k1.cell (p := ⟨xb, 1, none⟩) hsz (fun h => h)).trans x1)
                                have y2 := (k2.cell (p := ⟨xb, 2, none⟩) (by exact Nat.lt_of_lt_of_le hsz z1) (fun h => h)).trans ((k1.cell (p := ⟨xb, 2, none⟩) hsz (fun h => h)).trans x2)
                                have HE1 := Lib.hid e1'
                                have hE2' := hE2
                                clear e1 e1' hr1
                                go_wp2_with fail
                                refine (E.set_all tk x hE2').mono ?_
                                rintro e w3 ⟨rfl, e3, k3⟩
                                have y3 := (k3.cell (p := ⟨xb, 1, none⟩) (by exact Nat.lt_of_lt_of_le hsz (Nat.le_trans z1 z2)) (fun e => hbx e.symm)).trans y1
                                have y4 := (k3.cell (p := ⟨xb, 2, none⟩) (by exact Nat.lt_of_lt_of_le hsz (Nat.le_trans z1 z2)) (fun e => hbx e.symm)).trans y2
                                go_wp2_with fail
                                refine (E.wait_all tk x e3).mono ?_
                                rintro e w4 ⟨rfl, e4, k4⟩
                                go_wp2_with fail
                                go_meet
                                have hbb : b2 ≠ b := by omega
                                have hfb : ∀ i, ER.foot b3 vm' vo' vw' vs' i → i ≠ b := fun i hi e => by have := hf2 i hi; omega
                                have kk : Kept (fun i => i = b) w2 w4 := k3.then k4 (fun _ h => Or.inl h)
                                refine ⟨b2, b3, vm', vo', vw', vs', l, rfl, rfl, HLL.out, ⟨HE1.out.kept kk hbb, e2.kept kk hfb, fun i hi e => ?_, SX.out.ok, by omega, fun i hi => by have := hf2 i hi; omega, ?_, SX.out.n256⟩⟩
                                · have := hf2 i hi; omega
                                · exact ((SX.out.bel.trans (k1.below hnx (fun _ h => False.elim h))).trans (k2.below (by omega) (fun _ h => False.elim h))).trans (kk.below (by omega) (fun i hi => by rw [hi]; exact SX.out.b0))
                            · have d8 : (kd == 8) = false := by simpa using h8
                              go_wp2_with fail
                              go_meet
                              exact ⟨b, b', vm, vo, vw, vs, l, rfl, rfl, HLL.out, SX⟩
            case rest =>
             as_aux_lemma =>
              clear SX XF x1 x2
              obtain ⟨b, b', vm, vo, vw, vs, l, rfl, rfl, hll, hS⟩ := hcut
              have HL2 := Lib.hid hll
              clear hll HLL
              go_wp2_with fail
              go_loop [27] (fun i => ∃ j : Nat, j ≤ l0.length ∧ i = .int .i64 j) (fun i => l0.length - (intOf i).toNat)
              case atStart => exact ⟨0, Nat.zero_le _, rfl⟩
              case round =>
                obtain ⟨j, hj, rfl⟩ := hrel
                by_cases hjl : j < l0.length
                · go_wp2_with (first
                    | (go_at_call 12; refine (E.get_all j hS.out.evt).mono ?_; rintro e w' ⟨rfl, rfl⟩)
                    | (go_at_call 17; refine (R.get_all j hS.out.ref).mono ?_; rintro e w' ⟨rfl, rfl⟩)
                    | (go_at_call 13; refine (E.waits_all j hS.out.evt).mono ?_; rintro e w' ⟨rfl, rfl⟩)
                    | (go_at_call 19; refine (R.waits_all j hS.out.ref).mono ?_; rintro e w' ⟨rfl, rfl⟩))
                  go_round
                  case rel => exact ⟨j + 1, by omega, by go_num⟩
                  case measure => simp [intOf]; omega
                · go_wp2
                  go_roundg (l1.length - (k + 1))
                  case measure => have := HGK.out; omega
                  case rel => exact ⟨k + 1, b, b', vm, vo, vw, vs, l, rfl, by omega, by go_num, rfl, rfl, HL2.out, hS⟩
          · have hB := hS.out.bel
            go_wp2
            go_ret
            exact ⟨rfl, hB⟩
end Go.Proofs.Ytmljnhhjjaibbaa.eventPlaysW
