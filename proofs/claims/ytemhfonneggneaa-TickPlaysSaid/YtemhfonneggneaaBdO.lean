/- Package tick: alive, of. -/
import Derived.Test.YtemhfonneggneaaBdP
import Derived.Test.YtemhfonneggneaaBdC
import Derived.Test.YtemhfonneggneaaKcB
import Derived.BigQuiet
import Derived.Deep.Light
/- Package tick: a board that New made: where its parts lie, and what a step of one of its clocks makes of it. -/
namespace Go.Proofs.Ytemhfonneggneaa.BD
open Go.RowKit Go.Fr Go.Tb
open Go.Proofs.Ytemhfonneggneaa.CK (IsClk foot)

/-- a list that lies in memory as a slice -/
def Lv {α : Type} (w : World) (v : Value) (sz : Nat) (enc : α → List Value) (l : List α) : Prop := ∃ ao c, v = .slice ao l.length c ∧ CameL w sz enc ao l
theorem Lv.kept {α : Type} {w w' : World} {v : Value} {sz : Nat} {enc : α → List Value} {l : List α} {S : Nat → Prop} (h : Lv w v sz enc l) (k : Kept S w w') (hn : ∀ g, v.ownBlock = some g → ¬ S g) : Lv w' v sz enc l := by
  obtain ⟨ao, c, rfl, hc⟩ := h
  refine ⟨ao, c, rfl, fun hl => ?_⟩
  obtain ⟨g, off, rfl, hg, hcc⟩ := hc hl
  refine ⟨g, off, rfl, Nat.lt_of_lt_of_le hg k.size, fun i x hx j u hu => ?_⟩
  rw [k.cell (p := ⟨g, off + i * sz + j, none⟩) hg (hn g rfl)]
  exact hcc i x hx j u hu
theorem Lv.same {α : Type} {w w' : World} {v : Value} {sz : Nat} {enc : α → List Value} {l : List α} (h : Lv w v sz enc l) (k : Kept (fun _ => False) w w') : Lv w' v sz enc l := h.kept k (fun _ _ x => x)

/-- one counter's clock -/
structure Cs where
  mx : Nat
  mn : Nat
  x : Nat
  l : List (Bool × Nat × Nat)
/-- where a board's parts lie: rows, alarms, places, counters, ISRs; each counter's clock and its list of alarms -/
structure Bm where
  vr : Value
  va : Value
  vp : Value
  vc : Value
  vi : Value
  cb : List (Nat × Value)
  sl : List Value
def encN (x : (Nat × Value) × Value) : List Value := [.pointer (some ⟨x.1.1, 0, none⟩), x.2]
/-- the blocks that never change -/
def fixed (M : Bm) (g : Nat) : Prop := M.vr.ownBlock = some g ∨ M.va.ownBlock = some g ∨ M.vp.ownBlock = some g ∨ M.vc.ownBlock = some g ∨ M.vi.ownBlock = some g ∨ ∃ v ∈ M.sl, v.ownBlock = some g
def bfoot (b : Nat) (M : Bm) (g : Nat) : Prop := g = b ∨ fixed M g ∨ ∃ cb ∈ M.cb, foot cb.1 cb.2 g
def bcells (M : Bm) (T : Tb) (R : List Bool) : List Value := [M.vr, M.va, M.vp, M.vc, .int .i64 T.modes, M.vi] ++ (R.map Value.bool ++ [.bool true])

structure IsBd (w : World) (b : Nat) (M : Bm) (T : Tb) (C : List Cs) (R : List Bool) : Prop where
  blk : Blk w b (bcells M T R) 68
  n32 : R.length = 32
  rows : Lv w M.vr 3 (encKKK .u32 .u32 .u32) T.counters
  alarms : Lv w M.va 7 encA T.alarms
  places : Lv w M.vp 1 (encK .i64) (placesOf T.alarms)
  ctrs : Lv w M.vc 2 encN (M.cb.zip M.sl)
  isrs : Lv w M.vi 2 (encKK .i64 .i64) (T.isrs.map (fun x => (x.cat, x.pr)))
  lens : M.cb.length = T.counters.length ∧ M.sl.length = T.counters.length ∧ C.length = T.counters.length
  clk : ∀ (c : Nat) (s : Cs) (cb : Nat × Value), C[c]? = some s → M.cb[c]? = some cb → IsClk w cb.1 cb.2 s.mx s.mn s.x s.l
  nums : ∀ (c : Nat) (s : Cs) (r : Int × Int × Int), C[c]? = some s → T.counters[c]? = some r → r.1 = (s.mx : Int) ∧ r.2.2 = (s.mn : Int) ∧ s.l.length = (alsOf T.alarms c).length
  sls : ∀ (c : Nat) (v : Value), M.sl[c]? = some v → Lv w v 1 (encK .i64) (alsOf T.alarms c)
  apart : ∀ (c d : Nat) (x y : Nat × Value), M.cb[c]? = some x → M.cb[d]? = some y → c ≠ d → ∀ g, foot x.1 x.2 g → ¬ foot y.1 y.2 g
  fix : ∀ g, fixed M g → g ≠ b ∧ g < w.heap.size ∧ ∀ x ∈ M.cb, ¬ foot x.1 x.2 g
  nb : ∀ x ∈ M.cb, ¬ foot x.1 x.2 b

section
variable {w w' : World} {b : Nat} {M : Bm} {T : Tb} {C : List Cs} {R : List Bool} {S : Nat → Prop}
theorem IsBd.at (hs : IsBd w b M T C R) {c : Nat} (hc : c < T.counters.length) : ∃ s cb v r, C[c]? = some s ∧ M.cb[c]? = some cb ∧ M.sl[c]? = some v ∧ T.counters[c]? = some r := by
  obtain ⟨h1, h2, h3⟩ := hs.lens
  exact ⟨_, _, _, _, List.getElem?_eq_getElem (by omega), List.getElem?_eq_getElem (by omega), List.getElem?_eq_getElem (by omega), List.getElem?_eq_getElem hc⟩
theorem IsBd.lt (hs : IsBd w b M T C R) : ∀ g, bfoot b M g → g < w.heap.size := by
  rintro g (rfl | h | ⟨cb, hm, hg⟩)
  · exact hs.blk.lt
  · exact (hs.fix g h).2.1
  · obtain ⟨c, hc⟩ := List.getElem?_of_mem hm
    have hl := (List.getElem?_eq_some_iff.1 hc).1
    obtain ⟨h1, h2, h3⟩ := hs.lens
    exact (hs.clk c _ cb (List.getElem?_eq_getElem (by omega)) hc).lt g hg
theorem IsBd.kept (hs : IsBd w b M T C R) (k : Kept S w w') (hn : ∀ g, bfoot b M g → ¬ S g) : IsBd w' b M T C R :=
  { hs with
    blk := hs.blk.kept k (hn b (Or.inl rfl))
    rows := hs.rows.kept k (fun g hg => hn g (Or.inr (Or.inl (Or.inl hg))))
    alarms := hs.alarms.kept k (fun g hg => hn g (Or.inr (Or.inl (Or.inr (Or.inl hg)))))
    places := hs.places.kept k (fun g hg => hn g (Or.inr (Or.inl (Or.inr (Or.inr (Or.inl hg))))))
    ctrs := hs.ctrs.kept k (fun g hg => hn g (Or.inr (Or.inl (Or.inr (Or.inr (Or.inr (Or.inl hg)))))))
    isrs := hs.isrs.kept k (fun g hg => hn g (Or.inr (Or.inl (Or.inr (Or.inr (Or.inr (Or.inr (Or.inl hg))))))))
    clk := fun c s cb h1 h2 => (hs.clk c s cb h1 h2).kept k (fun g hg => hn g (Or.inr (Or.inr ⟨cb, List.mem_of_getElem? h2, hg⟩)))
    sls := fun c v h => (hs.sls c v h).kept k (fun g hg => hn g (Or.inr (Or.inl (Or.inr (Or.inr (Or.inr (Or.inr (Or.inr ⟨v, List.mem_of_getElem? h, hg⟩))))))))
    fix := fun g hg => ⟨(hs.fix g hg).1, Nat.lt_of_lt_of_le (hs.fix g hg).2.1 k.size, (hs.fix g hg).2.2⟩ }
theorem IsBd.same (hs : IsBd w b M T C R) (k : Kept (fun _ => False) w w') : IsBd w' b M T C R := hs.kept k (fun _ _ x => x)

/-- a step of one clock -/
theorem IsBd.step {c : Nat} {s : Cs} {cb : Nat × Value} {x' : Nat} {l' : List (Bool × Nat × Nat)} (hs : IsBd w b M T C R) (hc : C[c]? = some s) (hcb : M.cb[c]? = some cb) (k : Kept (foot cb.1 cb.2) w w') (hk : IsClk w' cb.1 cb.2 s.mx s.mn x' l') (hl : l'.length = s.l.length) :
    IsBd w' b M T (C.set c ⟨s.mx, s.mn, x', l'⟩) R := by
  have hm := List.mem_of_getElem? hcb
  have hlt := (List.getElem?_eq_some_iff.1 hc).1
  have fx : ∀ g, fixed M g → ¬ foot cb.1 cb.2 g := fun g hg => (hs.fix g hg).2.2 cb hm
  exact { hs with
    blk := hs.blk.kept k (hs.nb cb hm)
    rows := hs.rows.kept k (fun g hg => fx g (Or.inl hg))
    alarms := hs.alarms.kept k (fun g hg => fx g (Or.inr (Or.inl hg)))
    places := hs.places.kept k (fun g hg => fx g (Or.inr (Or.inr (Or.inl hg))))
    ctrs := hs.ctrs.kept k (fun g hg => fx g (Or.inr (Or.inr (Or.inr (Or.inl hg)))))
    isrs := hs.isrs.kept k (fun g hg => fx g (Or.inr (Or.inr (Or.inr (Or.inr (Or.inl hg))))))
    lens := ⟨hs.lens.1, hs.lens.2.1, by rw [List.length_set]; exact hs.lens.2.2⟩
    clk := fun d t cd h1 h2 => by
      by_cases hd : c = d
      · subst hd
        rw [List.getElem?_set_self hlt] at h1
        cases h1
        rw [hcb] at h2; cases h2
        exact hk
      · rw [List.getElem?_set_ne hd] at h1
        exact (hs.clk d t cd h1 h2).kept k (fun g hg h => hs.apart c d cb cd hcb h2 hd g h hg)
    nums := fun d t r h1 h2 => by
      by_cases hd : c = d
      · subst hd
        rw [List.getElem?_set_self hlt] at h1
        cases h1
        have := hs.nums c s r hc h2
        exact ⟨this.1, this.2.1, hl.trans this.2.2⟩
      · rw [List.getElem?_set_ne hd] at h1
        exact hs.nums d t r h1 h2
    sls := fun d v h => (hs.sls d v h).kept k (fun g hg => fx g (Or.inr (Or.inr (Or.inr (Or.inr (Or.inr ⟨v, List.mem_of_getElem? h, hg⟩))))))
    fix := fun g hg => ⟨(hs.fix g hg).1, Nat.lt_of_lt_of_le (hs.fix g hg).2.1 k.size, (hs.fix g hg).2.2⟩ }

theorem bcells_req {M : Bm} {T : Tb} {R : List Bool} {i : Nat} {r : Bool} (h : R[i]? = some r) : (bcells M T R)[6 + i]? = some (.bool r) := by
  have hi := (List.getElem?_eq_some_iff.1 h).1
  unfold bcells
  rw [List.getElem?_append_right (by simp)]
  simp only [List.length_cons, List.length_nil]
  rw [show 6 + i - 6 = i by omega, List.getElem?_append_left (by simpa using hi)]
  simp [h]
theorem bcells_set {M : Bm} {T : Tb} {R : List Bool} {i : Nat} (hi : i < R.length) (r : Bool) : (bcells M T R).set (6 + i) (.bool r) = bcells M T (R.set i r) := by
  unfold bcells
  rw [List.set_append_right _ _ (by simp)]
  simp only [List.length_cons, List.length_nil]
  rw [show 6 + i - 6 = i by omega, List.set_append_left _ _ (by simpa using hi), List.map_set]
theorem bcells_made {M : Bm} {T : Tb} {R : List Bool} (h : R.length = 32) : (bcells M T R)[38]? = some (.bool true) := by
  unfold bcells
  rw [List.getElem?_append_right (by simp), List.getElem?_append_right (by simp [h])]
  simp [h]
/-- a request is set or taken away -/
theorem IsBd.req {i : Nat} (hs : IsBd w b M T C R) (hi : i < 32) (r : Bool) : IsBd (w.setCell ⟨b, 6 + i, none⟩ (.bool r)) b M T C (R.set i r) := by
  have k : Kept (fun g => g = b) w (w.setCell ⟨b, 6 + i, none⟩ (.bool r)) := (Kept.refl (fun g => g = b) w).setCell (p := ⟨b, 6 + i, none⟩) (Or.inl rfl) _
  have fx : ∀ g, fixed M g → ¬ g = b := fun g hg => (hs.fix g hg).1
  exact { hs with
    blk := by rw [← bcells_set (by rw [hs.n32]; exact hi) r]; exact hs.blk.set (6 + i) _
    n32 := by rw [List.length_set]; exact hs.n32
    rows := hs.rows.kept k (fun g hg => fx g (Or.inl hg))
    alarms := hs.alarms.kept k (fun g hg => fx g (Or.inr (Or.inl hg)))
    places := hs.places.kept k (fun g hg => fx g (Or.inr (Or.inr (Or.inl hg))))
    ctrs := hs.ctrs.kept k (fun g hg => fx g (Or.inr (Or.inr (Or.inr (Or.inl hg)))))
    isrs := hs.isrs.kept k (fun g hg => fx g (Or.inr (Or.inr (Or.inr (Or.inr (Or.inl hg))))))
    clk := fun c s cb h1 h2 => (hs.clk c s cb h1 h2).kept k (fun g hg e => hs.nb cb (List.mem_of_getElem? h2) (e ▸ hg))
    sls := fun d v h => (hs.sls d v h).kept k (fun g hg => fx g (Or.inr (Or.inr (Or.inr (Or.inr (Or.inr ⟨v, List.mem_of_getElem? h, hg⟩))))))
    fix := fun g hg => ⟨(hs.fix g hg).1, Nat.lt_of_lt_of_le (hs.fix g hg).2.1 k.size, (hs.fix g hg).2.2⟩ }
theorem IsBd.made (hs : IsBd w b M T C R) : w.cell? ⟨b, 38, none⟩ = some (.bool true) := hs.blk.cell 38 (bcells_made hs.n32)
/-- a counter's two cells -/
theorem IsBd.ctr {c : Nat} {cb : Nat × Value} {v : Value} (hs : IsBd w b M T C R) (hcb : M.cb[c]? = some cb) (hv : M.sl[c]? = some v) :
    ∃ g o cc, M.vc = .slice (some ⟨g, o, none⟩) T.counters.length cc ∧ g < w.heap.size ∧ w.cell? ⟨g, o + c * 2, none⟩ = some (.pointer (some ⟨cb.1, 0, none⟩)) ∧ w.cell? ⟨g, o + c * 2 + 1, none⟩ = some v := by
  obtain ⟨ao, cc, e, hc⟩ := hs.ctrs
  obtain ⟨h1, h2, h3⟩ := hs.lens
  have hz : (M.cb.zip M.sl)[c]? = some (cb, v) := by rw [List.getElem?_zip_eq_some]; exact ⟨hcb, hv⟩
  obtain ⟨g, o, rfl, hg, hcl⟩ := camel_at hc hz
  refine ⟨g, o, cc, ?_, hg, by simpa using hcl 0 _ rfl, hcl 1 _ rfl⟩
  rw [e, List.length_zip, h1, h2, Nat.min_self]
end
end Go.Proofs.Ytemhfonneggneaa.BD
namespace Go.Proofs.Ytemhfonneggneaa.BD
open Go.RowKit Go.Fr Go.Tb
open Go.Proofs.Ytemhfonneggneaa.CK (IsClk foot)
attribute [local go_sem] Oper.semAt_some

/-- the counters of the alarms are there -/
def AOk (T : Tb) : Prop := ∀ x ∈ T.alarms, 0 ≤ x.counter ∧ x.counter < T.counters.length

section
variable {w : World} {b : Nat} {M : Bm} {T : Tb} {C : List Cs} {R : List Bool}
theorem alive_ok (hs : IsBd w b M T C R) : Calls Try.prog 29 #[.pointer (some ⟨b, 0, none⟩)] w fun e w' => e = .returned (.bool true) ∧ w = w' := by
  have c := hs.made
  go_enter Try.func29, Try.ntmps29
  go_wp2
  go_ret
  exact ⟨rfl, rfl⟩

theorem IsBd.heads (hs : IsBd w b M T C R) : ∃ a1 k1 a2 k2 a3 k3 a5 k5, M.va = .slice a1 T.alarms.length k1 ∧ CameL w 7 encA a1 T.alarms ∧ M.vp = .slice a2 T.alarms.length k2 ∧ CameL w 1 (encK .i64) a2 (placesOf T.alarms) ∧ M.vc = .slice a3 T.counters.length k3 ∧ M.vi = .slice a5 T.isrs.length k5 ∧ CameL w 2 (encKK .i64 .i64) a5 (T.isrs.map (fun x => (x.cat, x.pr))) ∧
    w.cell? ⟨b, 1, none⟩ = some (.slice a1 T.alarms.length k1) ∧ w.cell? ⟨b, 2, none⟩ = some (.slice a2 T.alarms.length k2) ∧ w.cell? ⟨b, 3, none⟩ = some (.slice a3 T.counters.length k3) ∧ w.cell? ⟨b, 5, none⟩ = some (.slice a5 T.isrs.length k5) := by
  obtain ⟨a1, k1, e1, h1⟩ := hs.alarms
  obtain ⟨a2, k2, e2, h2⟩ := hs.places
  obtain ⟨a3, k3, e3, h3⟩ := hs.ctrs
  obtain ⟨a5, k5, e5, h5⟩ := hs.isrs
  have hp : (placesOf T.alarms).length = T.alarms.length := by simp [placesOf]
  have hz : (M.cb.zip M.sl).length = T.counters.length := by rw [List.length_zip, hs.lens.1, hs.lens.2.1, Nat.min_self]
  rw [hp] at e2
  rw [hz] at e3
  rw [List.length_map] at e5
  refine ⟨a1, k1, a2, k2, a3, k3, a5, k5, e1, h1, e2, h2, e3, e5, h5, ?_, ?_, ?_, ?_⟩
  · rw [← e1]; exact hs.blk.cell 1 rfl
  · rw [← e2]; exact hs.blk.cell 2 rfl
  · rw [← e3]; exact hs.blk.cell 3 rfl
  · rw [← e5]; exact hs.blk.cell 5 rfl

set_option maxRecDepth 100000 in
set_option maxHeartbeats 2000000 in
theorem of_out {i : Int} (hs : IsBd w b M T C R) (hi : ¬ (0 ≤ i ∧ i < T.alarms.length)) (hl : T.alarms.length ≤ 64) : Calls Try.prog 31 #[.pointer (some ⟨b, 0, none⟩), .int .i64 i] w fun e w' => e = .returned (.tuple #[.pointer none, .int .i64 0]) ∧ w = w' := by
  obtain ⟨a1, k1, a2, k2, a3, k3, a5, k5, _, _, _, _, _, _, _, c1, _, _, _⟩ := hs.heads
  have ha := alive_ok hs
  by_cases h0 : i < 0
  · have d0 : decide (i < 0) = true := by simpa using h0
    clear hi h0
    go_enter Try.func31, Try.ntmps31
    go_wp2_with (go_at_call 29; refine ha.mono ?_; rintro e w' ⟨rfl, rfl⟩)
    go_ret2
    exact ⟨rfl, rfl⟩
  · have d0 : decide (i < 0) = false := by simpa using h0
    have d1 : decide ((T.alarms.length : Int) ≤ i) = true := by simp; omega
    clear hi h0
    go_enter Try.func31, Try.ntmps31
    go_wp2_with (go_at_call 29; refine ha.mono ?_; rintro e w' ⟨rfl, rfl⟩)
    go_ret2
    exact ⟨rfl, rfl⟩

set_option maxRecDepth 100000 in
set_option maxHeartbeats 2000000 in
theorem of_in {i c : Nat} {x : AlarmR} (hs : IsBd w b M T C R) (hx : T.alarms[i]? = some x) (hxc : x.counter = (c : Int)) (hc : c < T.counters.length) (hl : T.alarms.length ≤ 64) : Calls Try.prog 31 #[.pointer (some ⟨b, 0, none⟩), .int .i64 i] w fun e w' =>
    ∃ g o cc, M.vc = .slice (some ⟨g, o, none⟩) T.counters.length cc ∧ e = .returned (.tuple #[.pointer (some ⟨g, o + c * 2, none⟩), .int .i64 ((alsOf (T.alarms.take i) c).length : Int)]) ∧ Kept (fun _ => False) w w' := by
  obtain ⟨a1, k1, a2, k2, a3, k3, a5, k5, _, h1, _, h2, e3, _, _, c1, c2, c3, _⟩ := hs.heads
  have ha := alive_ok hs
  obtain ⟨s, cb, v, r, _, hcb, hv, _⟩ := hs.at hc
  obtain ⟨g, o, cc, e3', hg, _, _⟩ := hs.ctr hcb hv
  rw [e3] at e3'
  cases e3'
  have hi := (List.getElem?_eq_some_iff.1 hx).1
  obtain ⟨b1, o1, rfl, _, hcl⟩ := camel_at h1 hx
  have f0 := hcl 0 _ rfl
  obtain ⟨b2, o2, rfl, _, f2⟩ := camel_one h2 (placesOf_at hx) rfl
  obtain ⟨xc, xk, xt, xm, xa, xi, xy⟩ := x
  dsimp only at hxc f0 f2
  subst hxc
  simp only [Nat.add_zero] at f0
  obtain ⟨pl, hpl⟩ : ∃ p : Nat, (alsOf (T.alarms.take i) c).length = p := ⟨_, rfl⟩
  rw [hpl] at f2 ⊢
  have i0 : (0 : Int) ≤ (i : Int) := by omega
  have i1 : (i : Int) < (T.alarms.length : Int) := by omega
  have q0 : (0 : Int) ≤ (c : Int) := by omega
  have q1 : (c : Int) < (T.counters.length : Int) := by omega
  have d1 : decide ((T.alarms.length : Int) ≤ (i : Int)) = false := by simp; omega
  have d2 : decide (T.alarms.length ≤ i) = false := by simp; omega
  have HE := Lib.hid e3
  clear hcl h1 h2 hx hpl hcb hv hs e3
  go_enter Try.func31, Try.ntmps31
  go_wp2_with (go_at_call 29; refine ha.mono ?_; rintro e w' ⟨rfl, rfl⟩)
  go_quiet (fail)
  go_wp2_with fail
  go_ret2
  exact ⟨g, o, k3, HE.out, rfl, (Kept.refl _ _).drewN _⟩
end
end Go.Proofs.Ytemhfonneggneaa.BD
