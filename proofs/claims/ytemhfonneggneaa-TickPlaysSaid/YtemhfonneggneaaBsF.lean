/- The program's board: a copy of it under way. -/
import Derived.Test.YtemhfonneggneaaBsE
namespace Go.Proofs.Ytemhfonneggneaa.BS
open Go.RowKit Go.Fr Go.Tb Go.Proofs.Ytemhfonneggneaa.CK Go.Proofs.Ytemhfonneggneaa.BD

/-- the cells of a board whose counters lie at vc -/
def ccells (M : Bm) (T : Tb) (R : List Bool) (vc : Value) : List Value := [M.vr, M.va, M.vp, vc, .int .i64 T.modes, M.vi] ++ (R.map Value.bool ++ [.bool true])
/-- the copy under way -/
structure Cp (w0 w : World) (b : Nat) (M : Bm) (T : Tb) (C : List Cs) (R : List Bool) (N : Nat) (vc : Value) (K : List (Nat × Value)) : Prop where
  src : IsBd w b M T C R
  lo : ∀ g, bfoot b M g → g < w0.heap.size
  blk : Blk w N (ccells M T R vc) 68
  new : w0.heap.size ≤ N
  kept : Kept (fun _ => False) w0 w
  row : Row w 87 2 vc K.length ((K.zip (M.sl.take K.length)).flatMap encN)
  own : ∀ g, vc.ownBlock = some g → w0.heap.size ≤ g ∧ g ≠ N
  clk : ∀ (c : Nat) (s : Cs) (cb : Nat × Value), C[c]? = some s → K[c]? = some cb → IsClk w cb.1 cb.2 s.mx s.mn s.x s.l
  low : ∀ cb ∈ K, ∀ g, foot cb.1 cb.2 g → w0.heap.size ≤ g ∧ g < w.heap.size ∧ g ≠ N ∧ vc.ownBlock ≠ some g
  apart : ∀ (c d : Nat) (x y : Nat × Value), K[c]? = some x → K[d]? = some y → c ≠ d → ∀ g, foot x.1 x.2 g → ¬ foot y.1 y.2 g
section
variable {w0 w w' wd xw wf : World} {b : Nat} {M : Bm} {T : Tb} {C : List Cs} {R : List Bool} {N : Nat} {vc : Value} {K : List (Nat × Value)}
theorem Cp.same (h : Cp w0 w b M T C R N vc K) (k : Kept (fun _ => False) w w') : Cp w0 w' b M T C R N vc K :=
  ⟨h.src.same k, h.lo, h.blk.kept k (fun x => x), h.new, h.kept.then k (fun _ x => x.elim), row_kept h.row k (fun _ _ x => x), h.own, fun c s cb h1 h2 => (h.clk c s cb h1 h2).kept k (fun _ _ x => x), fun cb hc g hg => by
    obtain ⟨a1, a2, a3⟩ := h.low cb hc g hg
    exact ⟨a1, Nat.lt_of_lt_of_le a2 k.size, a3⟩, h.apart⟩
/-- one counter is copied -/
theorem Cp.step {s : Cs} {cb : Nat × Value} {v : Value} {ao : Option Addr} {cc : Nat} (h : Cp w0 w b M T C R N vc K) (hs : C[K.length]? = some s) (hv : M.sl[K.length]? = some v) (kc : Kept (fun _ => False) w w') (hc : IsClk w' cb.1 cb.2 s.mx s.mn s.x s.l) (hf : ∀ g, foot cb.1 cb.2 g → w.heap.size ≤ g)
    (kd : Kept (fun _ => False) w' wd) (r2 : wd.grownBy xw vc.ownBlock) (r1 : Row xw 87 2 (.slice ao (K.length + 1) cc) (K.length + 1) ((K.zip (M.sl.take K.length)).flatMap encN ++ [.pointer (some ⟨cb.1, 0, none⟩), v]))
    (r3 : ∀ g, (Value.slice ao (K.length + 1) cc).ownBlock = some g → vc.ownBlock = some g ∨ wd.heap.size ≤ g) (kf : Kept (fun _ => False) (xw.setCell ⟨N, 3, none⟩ (.slice ao (K.length + 1) cc)) wf) :
    Cp w0 wf b M T C R N (.slice ao (K.length + 1) cc) (K ++ [cb]) := by
  have hN := h.blk.lt
  have hnew := h.new
  have hw0 := h.kept.size
  have hwc := kc.size
  have hwd := kd.size
  have k1 : Kept (fun g => g = N ∨ vc.ownBlock = some g) w' xw := (kd.mono (fun _ _ x => x.elim)).grown r2 (fun g e => Or.inl (Or.inr e))
  have k2 : Kept (fun g => g = N ∨ vc.ownBlock = some g) w' (xw.setCell ⟨N, 3, none⟩ (.slice ao (K.length + 1) cc)) := k1.setCell (p := ⟨N, 3, none⟩) (Or.inl (Or.inl rfl)) _
  have k3 : Kept (fun g => g = N ∨ vc.ownBlock = some g) w' wf := k2.then kf (fun _ x => x.elim)
  have k4 : Kept (fun g => g = N ∨ vc.ownBlock = some g) w wf := (kc.mono (fun _ _ x => x.elim)).then k3 (fun _ x => Or.inl x)
  have hwf : w'.heap.size ≤ wf.heap.size := k3.size
  have nf : ∀ g, g < w0.heap.size → ¬ (g = N ∨ vc.ownBlock = some g) := fun g hg e => by
    rcases e with rfl | e
    · omega
    · have := (h.own g e).1; omega
  have hnv : ∀ g, foot cb.1 cb.2 g → ¬ (g = N ∨ vc.ownBlock = some g) := fun g hg e => by
    have h1 := hf g hg
    rcases e with rfl | e
    · omega
    · have := row_lt h.row e; omega
  have ho : ∀ g, (Value.slice ao (K.length + 1) cc).ownBlock = some g → w0.heap.size ≤ g ∧ g ≠ N ∧ (∀ x, (w.heap.size ≤ x ∧ x < w'.heap.size) ∨ (x < w.heap.size ∧ vc.ownBlock ≠ some x) → x ≠ g) := fun g hg => by
    rcases r3 g hg with e | e
    · have h1 := h.own g e
      have h2 := row_lt h.row e
      exact ⟨h1.1, h1.2, fun x hx => by
        rintro rfl
        rcases hx with hx | hx
        · omega
        · exact hx.2 e⟩
    · exact ⟨by omega, by omega, fun x hx => by omega⟩
  refine ⟨h.src.kept k4 (fun g hg => nf g (h.lo g hg)), h.lo, ?_, hnew, ?_, ?_, fun g hg => ⟨(ho g hg).1, (ho g hg).2.1⟩, ?_, ?_, ?_⟩
  · have kx : Kept (fun g => vc.ownBlock = some g) w xw := ((kc.then kd (fun _ x => x.elim)).mono (fun _ _ x => x.elim)).grown r2 (fun g e => Or.inl e)
    have b1 := (h.blk.kept kx (fun e => (h.own N e).2 rfl)).set 3 (.slice ao (K.length + 1) cc)
    exact b1.kept kf (fun x => x)
  · refine h.kept.then k4 (fun i hi => Or.inr ?_)
    rcases hi with rfl | hi
    · exact hnew
    · exact (h.own i hi).1
  · have e1 : ((K ++ [cb]).zip (M.sl.take (K ++ [cb]).length)).flatMap encN = (K.zip (M.sl.take K.length)).flatMap encN ++ [.pointer (some ⟨cb.1, 0, none⟩), v] := by
      have hl := (List.getElem?_eq_some_iff.1 hv).1
      rw [List.length_append, List.length_singleton, List.take_add_one, hv, Option.toList_some, List.zip_append (by rw [List.length_take]; omega), List.flatMap_append]
      rfl
    rw [e1, List.length_append, List.length_singleton]
    exact row_kept (row_setCell_other r1 (a := ⟨N, 3, none⟩) (fun e => (ho N e).2.1 rfl) _) kf (fun _ _ x => x)
  · intro c s' cb' h1 h2
    by_cases hck : c < K.length
    · rw [List.getElem?_append_left hck] at h2
      refine (h.clk c s' cb' h1 h2).kept k4 (fun g hg e => ?_)
      obtain ⟨q1, q2, q3, q4⟩ := h.low cb' (List.mem_of_getElem? h2) g hg
      rcases e with e | e
      · exact q3 e
      · exact q4 e
    · have hl := (List.getElem?_eq_some_iff.1 h2).1
      rw [List.length_append, List.length_singleton] at hl
      obtain rfl : c = K.length := by omega
      rw [List.getElem?_append_right (Nat.le_refl _), Nat.sub_self] at h2
      cases h2
      rw [hs] at h1
      cases h1
      exact hc.kept k3 hnv
  · intro cb' hcb g hg
    rcases List.mem_append.1 hcb with hcb | hcb
    · obtain ⟨q1, q2, q3, q4⟩ := h.low cb' hcb g hg
      exact ⟨q1, by omega, q3, fun e => (ho g e).2.2 g (Or.inr ⟨q2, q4⟩) rfl⟩
    · simp only [List.mem_singleton] at hcb
      subst hcb
      have q1 := hf g hg
      have q2 := hc.lt g hg
      exact ⟨by omega, by omega, by omega, fun e => (ho g e).2.2 g (Or.inl ⟨q1, q2⟩) rfl⟩
  · intro c d x y h1 h2 hcd g hg hg2
    by_cases hck : c < K.length
    · rw [List.getElem?_append_left hck] at h1
      by_cases hdk : d < K.length
      · rw [List.getElem?_append_left hdk] at h2
        exact h.apart c d x y h1 h2 hcd g hg hg2
      · rw [List.getElem?_append_right (by omega)] at h2
        have := List.mem_of_getElem? h2
        simp only [List.mem_singleton] at this
        subst this
        have := hf g hg2
        have := (h.low x (List.mem_of_getElem? h1) g hg).2.1
        omega
    · have hl := (List.getElem?_eq_some_iff.1 h1).1
      rw [List.length_append, List.length_singleton] at hl
      rw [List.getElem?_append_right (by omega)] at h1
      have := List.mem_of_getElem? h1
      simp only [List.mem_singleton] at this
      subst this
      by_cases hdk : d < K.length
      · rw [List.getElem?_append_left hdk] at h2
        have := hf g hg
        have := (h.low y (List.mem_of_getElem? h2) g hg2).2.1
        omega
      · have hl2 := (List.getElem?_eq_some_iff.1 h2).1
        rw [List.length_append, List.length_singleton] at hl2
        omega
/-- the copy's own places -/
def cM (M : Bm) (vc : Value) (K : List (Nat × Value)) : Bm := ⟨M.vr, M.va, M.vp, vc, M.vi, K, M.sl⟩
/-- the copy -/
theorem Cp.done (h : Cp w0 w b M T C R N vc K) (hk : K.length = T.counters.length) :
    IsBd w N (cM M vc K) T C R ∧ ∀ g, bfoot N (cM M vc K) g → bfoot b M g ∨ w0.heap.size ≤ g := by
  have hlen := h.src.lens
  have hnew := h.new
  have fx : ∀ g, fixed (cM M vc K) g → fixed M g ∨ vc.ownBlock = some g := fun g hg => by
    rcases hg with e | e | e | e | e | e
    · exact Or.inl (Or.inl e)
    · exact Or.inl (Or.inr (Or.inl e))
    · exact Or.inl (Or.inr (Or.inr (Or.inl e)))
    · exact Or.inr e
    · exact Or.inl (Or.inr (Or.inr (Or.inr (Or.inr (Or.inl e)))))
    · exact Or.inl (Or.inr (Or.inr (Or.inr (Or.inr (Or.inr e)))))
  have fl : ∀ g, fixed M g → g < w0.heap.size := fun g hg => h.lo g (Or.inr (Or.inl hg))
  constructor
  · refine ⟨h.blk, h.src.n32, h.src.rows, h.src.alarms, h.src.places, ?_, h.src.isrs, ⟨hk, hlen.2.1, hlen.2.2⟩, h.clk, h.src.nums, h.src.sls, h.apart, ?_, ?_⟩
    · have hr := h.row
      obtain ⟨ao, cc, e, _⟩ := row_any hr
      have hz : (K.zip M.sl).length = K.length := by rw [List.length_zip, hlen.2.1, hk, Nat.min_self]
      refine ⟨ao, cc, by show vc = _; rw [e]; show _ = Value.slice ao (K.zip M.sl).length cc; rw [hz], ?_⟩
      refine camel_of_row (enc := encN) (e := 87) (c := cc) (fun _ => rfl) ?_
      show Row w _ 2 (.slice ao (K.zip M.sl).length cc) (K.zip M.sl).length ((K.zip M.sl).flatMap encN)
      rw [hz, ← e]
      rw [List.take_of_length_le (by rw [hlen.2.1, hk]; exact Nat.le_refl _)] at hr
      exact hr
    · intro g hg
      rcases fx g hg with e | e
      · have h1 := fl g e
        refine ⟨by omega, Nat.lt_of_lt_of_le h1 h.kept.size, fun x hx hf => ?_⟩
        have := (h.low x hx g hf).1
        omega
      · refine ⟨(h.own g e).2, row_lt h.row e, fun x hx hf => (h.low x hx g hf).2.2.2 e⟩
    · exact fun x hx hf => (h.low x hx N hf).2.2.1 rfl
  · rintro g (e | e | ⟨x, hx, e⟩)
    · exact Or.inr (by omega)
    · rcases fx g e with e | e
      · exact Or.inl (Or.inr (Or.inl e))
      · exact Or.inr (h.own g e).1
    · exact Or.inr (h.low x hx g e).1
end
/-- a board whose old one goes on: what the two share stays -/
theorem IsBd.beside {w w' : World} {b bo : Nat} {M Mo : Bm} {T : Tb} {C Co : List Cs} {R Ro : List Bool} (h : IsBd w b M T C R) (ho : IsBd w' bo Mo T Co Ro) (e : M.vr = Mo.vr ∧ M.va = Mo.va ∧ M.vp = Mo.vp ∧ M.vi = Mo.vi ∧ M.sl = Mo.sl) (k : Kept (bfoot bo Mo) w w')
    (hb : ¬ bfoot bo Mo b) (hv : ∀ g, M.vc.ownBlock = some g → ¬ bfoot bo Mo g) (hk : ∀ x ∈ M.cb, ∀ g, foot x.1 x.2 g → ¬ bfoot bo Mo g) : IsBd w' b M T C R := by
  obtain ⟨e1, e2, e3, e4, e5⟩ := e
  refine ⟨h.blk.kept k hb, h.n32, by rw [e1]; exact ho.rows, by rw [e2]; exact ho.alarms, by rw [e3]; exact ho.places, h.ctrs.kept k hv, by rw [e4]; exact ho.isrs, h.lens, fun c s cb h1 h2 => (h.clk c s cb h1 h2).kept k (hk cb (List.mem_of_getElem? h2)), h.nums, by rw [e5]; exact ho.sls, h.apart, fun g hg => ⟨(h.fix g hg).1, Nat.lt_of_lt_of_le (h.fix g hg).2.1 k.size, (h.fix g hg).2.2⟩, h.nb⟩
end Go.Proofs.Ytemhfonneggneaa.BS
