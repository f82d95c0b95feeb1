/- The document's table of tasks: three slices, told by one list of (limit, extended, state, activations). -/
import Derived.Test.YtallbbjmfcohfaaTskT
import Derived.StillTailTactics
namespace Go.Proofs.Ytallbbjmfcohfaa.TR
open Go.RowKit Go.Fr Go.Proofs.Ytallbbjmfcohfaa.TK

/-- two slices share no block -/
def Ap (u v : Value) : Prop := ∀ g, u.ownBlock = some g → v.ownBlock ≠ some g

def encR (a : Tk) : List Value := [.int .i64 a.1, .bool a.2.1]
theorem encR_len (a : Tk) : (encR a).length = 2 := rfl
def fS (a : Tk) : Value := .int .i64 a.2.2.1
def fN (a : Tk) : Value := .int .i64 a.2.2.2

structure IsRef (w : World) (b : Nat) (vr vs vn : Value) (m : Bool) (l : List Tk) : Prop where
  blk : Blk w b [.bool m, vr, vs, vn] 56
  rr : Row w 29 2 vr l.length (l.flatMap encR)
  rs : Row w 38 1 vs l.length (l.map fS)
  rn : Row w 3 1 vn l.length (l.map fN)
  ars : Ap vr vs
  arn : Ap vr vn
  asn : Ap vs vn
  br : vr.ownBlock ≠ some b
  bs : vs.ownBlock ≠ some b
  bn : vn.ownBlock ≠ some b
  n256 : l.length ≤ 256

def foot (b : Nat) (vr vs vn : Value) : Nat → Prop := fun k => k = b ∨ vr.ownBlock = some k ∨ vs.ownBlock = some k ∨ vn.ownBlock = some k

theorem set_same {α : Type} {l : List α} {k : Nat} {a : α} (hx : l[k]? = some a) : l.set k a = l := by
  have hkl := (List.getElem?_eq_some_iff.1 hx).1
  apply List.ext_getElem?
  intro i
  by_cases hi : k = i
  · subst hi; rw [List.getElem?_set_self hkl, hx]
  · rw [List.getElem?_set_ne hi]
theorem map_set_at {l : List Tk} {k : Nat} {a a' : Tk} (f : Tk → Value) (h : l[k]? = some a) (e : f a' = f a) : (l.set k a').map f = l.map f := by
  rw [List.map_set, e, set_same]
  rw [List.getElem?_map, h]; rfl
theorem flat_set_at {l : List Tk} {k : Nat} {a a' : Tk} (h : l[k]? = some a) (e : encR a' = encR a) : (l.set k a').flatMap encR = l.flatMap encR := by
  rw [List.flatMap_def, List.flatMap_def, List.map_set, e, set_same]
  rw [List.getElem?_map, h]; rfl

section
variable {w : World} {b : Nat} {vr vs vn : Value} {m : Bool} {run : Int} {l : List Tk}
theorem IsRef.kept {w' : World} {S : Nat → Prop} (hs : IsRef w b vr vs vn m l) (k : Kept S w w') (hn : ∀ i, foot b vr vs vn i → ¬ S i) : IsRef w' b vr vs vn m l :=
  { hs with
    blk := hs.blk.kept k (hn _ (Or.inl rfl))
    rr := row_kept hs.rr k (fun _ hg => hn _ (Or.inr (Or.inl hg)))
    rs := row_kept hs.rs k (fun _ hg => hn _ (Or.inr (Or.inr (Or.inl hg))))
    rn := row_kept hs.rn k (fun _ hg => hn _ (Or.inr (Or.inr (Or.inr hg)))) }
theorem IsRef.lt (hs : IsRef w b vr vs vn m l) : ∀ i, foot b vr vs vn i → i < w.heap.size := by
  rintro i (rfl | h | h | h)
  · exact hs.blk.lt
  · exact row_lt hs.rr h
  · exact row_lt hs.rs h
  · exact row_lt hs.rn h
theorem IsRef.drewN (hs : IsRef w b vr vs vn m l) (n : Nat) : IsRef (w.drewN n) b vr vs vn m l := hs.kept ((Kept.refl (fun _ => False) w).drewN n) (fun _ _ h => h)
theorem IsRef.same {w' : World} (hs : IsRef w b vr vs vn m l) (k : Kept (fun _ => False) w w') : IsRef w' b vr vs vn m l ∧ Kept (foot b vr vs vn) w w' := ⟨hs.kept k (fun _ _ h => h), k.mono (fun _ _ h => False.elim h)⟩

theorem rowv {e : TypeId} {v : Value} {n sz : Nat} {xs : List Value} (h : Row w e sz v n xs) (hn : 0 < n) : ∃ g c, v = .slice (some ⟨g, 0, none⟩) n c := by
  obtain ⟨m, rfl⟩ : ∃ m, n = m + 1 := ⟨n - 1, by omega⟩
  obtain ⟨g, c, hv, _⟩ := row_form h
  exact ⟨g, c, hv⟩

theorem IsRef.setS {g c k N : Nat} {lm st ac : Int} {ex : Bool} (s' : Int) (hN : l.length = N) (hs : IsRef w b vr (.slice (some ⟨g, 0, none⟩) N c) vn m l) (h : l[k]? = some (lm, ex, st, ac)) : IsRef (w.setCell ⟨g, k, none⟩ (.int .i64 s')) b vr (.slice (some ⟨g, 0, none⟩) N c) vn m (l.set k (lm, ex, s', ac)) := by
  subst hN
  have o : (Value.slice (some ⟨g, 0, none⟩) l.length c).ownBlock = some g := rfl
  refine { hs with blk := hs.blk.other (fun e => hs.bs (by rw [o]; exact congrArg some e)) _, rr := ?_, rs := ?_, rn := ?_, n256 := by rw [List.length_set]; exact hs.n256 }
  · rw [List.length_set, flat_set_at (a' := (lm, ex, s', ac)) h rfl]; exact row_setCell_other hs.rr (fun e => hs.ars g e o) _
  · rw [List.length_set, List.map_set]; exact row_set hs.rs k _
  · rw [List.length_set, map_set_at (a' := (lm, ex, s', ac)) fN h rfl]; exact row_setCell_other hs.rn (hs.asn g o) _
theorem IsRef.setN {g c k N : Nat} {lm st ac : Int} {ex : Bool} (n' : Int) (hN : l.length = N) (hs : IsRef w b vr vs (.slice (some ⟨g, 0, none⟩) N c) m l) (h : l[k]? = some (lm, ex, st, ac)) : IsRef (w.setCell ⟨g, k, none⟩ (.int .i64 n')) b vr vs (.slice (some ⟨g, 0, none⟩) N c) m (l.set k (lm, ex, st, n')) := by
  subst hN
  have o : (Value.slice (some ⟨g, 0, none⟩) l.length c).ownBlock = some g := rfl
  refine { hs with blk := hs.blk.other (fun e => hs.bn (by rw [o]; exact congrArg some e)) _, rr := ?_, rs := ?_, rn := ?_, n256 := by rw [List.length_set]; exact hs.n256 }
  · rw [List.length_set, flat_set_at (a' := (lm, ex, st, n')) h rfl]; exact row_setCell_other hs.rr (fun e => hs.arn g e o) _
  · rw [List.length_set, map_set_at (a' := (lm, ex, st, n')) fS h rfl]; exact row_setCell_other hs.rs (fun e => hs.asn g e o) _
  · rw [List.length_set, List.map_set]; exact row_set hs.rn k _
theorem IsRef.sAgain {g c k : Nat} {lm st ac : Int} {ex : Bool} (s' : Int) (hs : IsRef w b vr (.slice (some ⟨g, 0, none⟩) l.length c) vn m (l.set k (lm, ex, st, ac))) (h : k < l.length) : IsRef (w.setCell ⟨g, k, none⟩ (.int .i64 s')) b vr (.slice (some ⟨g, 0, none⟩) l.length c) vn m (l.set k (lm, ex, s', ac)) := by
  have h := IsRef.setS (k := k) (lm := lm) (ex := ex) (st := st) (ac := ac) s' (by rw [List.length_set]) hs (by rw [List.getElem?_set_self h])
  rwa [List.set_set] at h
theorem IsRef.nAgain {g c k : Nat} {lm st ac : Int} {ex : Bool} (n' : Int) (hs : IsRef w b vr vs (.slice (some ⟨g, 0, none⟩) l.length c) m (l.set k (lm, ex, st, ac))) (h : k < l.length) : IsRef (w.setCell ⟨g, k, none⟩ (.int .i64 n')) b vr vs (.slice (some ⟨g, 0, none⟩) l.length c) m (l.set k (lm, ex, st, n')) := by
  have h := IsRef.setN (k := k) (lm := lm) (ex := ex) (st := st) (ac := ac) n' (by rw [List.length_set]) hs (by rw [List.getElem?_set_self h])
  rwa [List.set_set] at h

/-- the task k's places -/
structure Spot (w : World) (b gr gs gn k : Nat) (lm st ac : Int) (ex : Bool) : Prop where
  c0 : w.cell? ⟨gr, k * 2, none⟩ = some (.int .i64 lm)
  c1 : w.cell? ⟨gr, k * 2 + 1, none⟩ = some (.bool ex)
  cs : w.cell? ⟨gs, k, none⟩ = some (.int .i64 st)
  cn : w.cell? ⟨gn, k, none⟩ = some (.int .i64 ac)
  fs : w.frozen? ⟨gs, k, none⟩ = false
  fn : w.frozen? ⟨gn, k, none⟩ = false
  nsn : gs ≠ gn
  nsb : gs ≠ b
  nnb : gn ≠ b
theorem IsRef.spot (hs : IsRef w b vr vs vn m l) {k : Nat} {lm st ac : Int} {ex : Bool} (h : l[k]? = some (lm, ex, st, ac)) :
    ∃ gr cr gs cs gn cn, vr = .slice (some ⟨gr, 0, none⟩) l.length cr ∧ vs = .slice (some ⟨gs, 0, none⟩) l.length cs ∧ vn = .slice (some ⟨gn, 0, none⟩) l.length cn ∧ Spot w b gr gs gn k lm st ac ex := by
  have hk := (List.getElem?_eq_some_iff.1 h).1
  obtain ⟨gr, cr, rfl⟩ := rowv hs.rr (by omega)
  obtain ⟨gs, cs, rfl⟩ := rowv hs.rs (by omega)
  obtain ⟨gn, cn, rfl⟩ := rowv hs.rn (by omega)
  refine ⟨gr, cr, gs, cs, gn, cn, rfl, rfl, rfl, rows_cell (i := 0) encR_len hs.rr h rfl, rows_cell (i := 1) encR_len hs.rr h rfl, row_cell hs.rs k (by rw [List.getElem?_map, h]; rfl), row_cell hs.rn k (by rw [List.getElem?_map, h]; rfl), row_frozen hs.rs k, row_frozen hs.rn k, ?_, ?_, ?_⟩
  · intro e; exact hs.asn gs rfl (by rw [e]; rfl)
  · intro e; exact hs.bs (by rw [← e]; rfl)
  · intro e; exact hs.bn (by rw [← e]; rfl)

set_option maxRecDepth 100000 in
set_option maxHeartbeats 2000000 in
theorem running_ok (hs : IsRef w b vr vs vn m l) (ho : Ok run l) : Calls Try.prog 34 #[.pointer (some ⟨b, 0, none⟩)] w fun e w' => e = .returned (.int .i64 run) ∧ w = w' := by
  have c2 := hs.blk.cell 2 rfl
  obtain ⟨ao, c, rfl, hc⟩ := row_any hs.rs
  have HS := Lib.hid hs
  have hn := hs.n256
  clear hs
  go_enter Try.func34, Try.ntmps34
  go_wp2
  go_loopw [3] (fun i wr => ∃ k : Nat, k ≤ l.length ∧ i = .int .i64 k ∧ (∀ j : Nat, j < k → run ≠ j) ∧ w = wr) (fun i _ => l.length - (intOf i).toNat)
  case atStart => exact ⟨0, Nat.zero_le _, rfl, fun j h => by omega, rfl⟩
  case round =>
    obtain ⟨k, hk, rfl, hno, rfl⟩ := hrel
    by_cases hkl : k < l.length
    · obtain ⟨⟨lm, ex, st, ac⟩, hx⟩ : ∃ a, l[k]? = some a := ⟨_, List.getElem?_eq_getElem hkl⟩
      have hk0 : (0 : Int) ≤ (k : Int) := Int.natCast_nonneg _
      have hk1 : (k : Int) < (l.length : Int) := by omega
      obtain ⟨gr, cr, gs, cs, gn, cn, rfl, hv, rfl, z0, z1, z2, z3, z4, z5, z6, z7, z8⟩ := HS.out.spot hx
      cases hv
      obtain ⟨g1, g2, g3, g4, g5, g6, g7, g8⟩ := ho.el _ _ _ _ _ hx
      by_cases hst : st = 0
      · have hr := g8.1 hst
        subst hst
        clear ho g1 g2 g3 g4 g5 g6 g7 g8
        go_wp2
        go_ret
        exact ⟨by rw [hr]; rfl, rfl⟩
      · have hd : (st == 0) = false := by simpa using hst
        have hne : run ≠ k := fun e => hst (g8.2 e)
        clear g1 g2 g3 g4 g5 g6 g7 g8 hst
        go_wp2
        go_roundw
        case rel =>
          refine ⟨k + 1, by omega, by go_num, fun j hj => ?_, trivial⟩
          rcases Nat.lt_or_ge j k with h | h
          · exact hno j h
          · obtain rfl : j = k := by omega
            exact hne
        case measure => simp [intOf]; omega
    · obtain rfl : k = l.length := by omega
      have hr : run = -1 := by
        rcases ho.rn with hr | ⟨k, lm, ex, ac, rfl, hx⟩
        · exact hr
        · exact absurd rfl (hno k (List.getElem?_eq_some_iff.1 hx).1)
      subst hr
      clear ho
      go_wp2
      go_ret
      exact ⟨rfl, rfl⟩

theorem has_ok (i : Int) (hs : IsRef w b vr vs vn m l) : Calls Try.prog 43 #[.pointer (some ⟨b, 0, none⟩), .int .i64 i] w fun e w' => e = .returned (.bool (hasT l i)) ∧ w = w' := by
  unfold hasT
  have c1 := hs.blk.cell 1 rfl
  obtain ⟨ao, c, rfl, hc⟩ := row_any hs.rr
  by_cases h : 0 ≤ i
  · have d0 : decide (0 ≤ i) = true := by simpa using h
    go_enter Try.func43, Try.ntmps43
    go_wp2
    go_ret
    exact ⟨by simp [h], rfl⟩
  · have d0 : decide (0 ≤ i) = false := by simpa using h
    go_enter Try.func43, Try.ntmps43
    go_wp2
    go_ret
    exact ⟨by simp, rfl⟩

theorem get_all (i : Int) (hs : IsRef w b vr vs vn m l) : Calls Try.prog 35 #[.pointer (some ⟨b, 0, none⟩), .int .i64 i] w fun e w' => e = .returned (.tuple #[.int .i64 ((at? l i).elim 0 (fun x => x.2.2.1)), .int .i64 ((at? l i).elim 3 (fun _ => 0))]) ∧ w = w' := by
  have hh := has_ok i hs
  cases ha : at? l i with
  | none =>
    rw [hasT_none ha] at hh
    go_enter Try.func35, Try.ntmps35
    go_wp2_with (go_at_call 43; refine hh.mono ?_; rintro e w' ⟨rfl, rfl⟩)
    go_ret2
    exact ⟨rfl, rfl⟩
  | some x =>
    obtain ⟨k, rfl, hx⟩ := at_some ha
    obtain ⟨lm, ex, st, ac⟩ := x
    rw [hasT_of hx] at hh
    have hk := (List.getElem?_eq_some_iff.1 hx).1
    have c2 := hs.blk.cell 2 rfl
    obtain ⟨gr, cr, gs, cs, gn, cn, rfl, rfl, rfl, z0, z1, z2, z3, z4, z5, z6, z7, z8⟩ := hs.spot hx
    have hk0 : (0 : Int) ≤ (k : Int) := by omega
    have hk1 : (k : Int) < (l.length : Int) := by omega
    go_enter Try.func35, Try.ntmps35
    go_wp2_with (go_at_call 43; refine hh.mono ?_; rintro e w' ⟨rfl, rfl⟩)
    go_ret2
    exact ⟨rfl, rfl⟩
theorem active_all (i : Int) (hs : IsRef w b vr vs vn m l) : Calls Try.prog 36 #[.pointer (some ⟨b, 0, none⟩), .int .i64 i] w fun e w' => e = .returned (.int .i64 ((at? l i).elim 0 (fun x => x.2.2.2))) ∧ w = w' := by
  have hh := has_ok i hs
  cases ha : at? l i with
  | none =>
    rw [hasT_none ha] at hh
    go_enter Try.func36, Try.ntmps36
    go_wp2_with (go_at_call 43; refine hh.mono ?_; rintro e w' ⟨rfl, rfl⟩)
    go_ret
    exact ⟨rfl, rfl⟩
  | some x =>
    obtain ⟨k, rfl, hx⟩ := at_some ha
    obtain ⟨lm, ex, st, ac⟩ := x
    rw [hasT_of hx] at hh
    have hk := (List.getElem?_eq_some_iff.1 hx).1
    have c2 := hs.blk.cell 3 rfl
    obtain ⟨gr, cr, gs, cs, gn, cn, rfl, rfl, rfl, z0, z1, z2, z3, z4, z5, z6, z7, z8⟩ := hs.spot hx
    have hk0 : (0 : Int) ≤ (k : Int) := by omega
    have hk1 : (k : Int) < (l.length : Int) := by omega
    go_enter Try.func36, Try.ntmps36
    go_wp2_with (go_at_call 43; refine hh.mono ?_; rintro e w' ⟨rfl, rfl⟩)
    go_ret
    exact ⟨rfl, rfl⟩
end
end Go.Proofs.Ytallbbjmfcohfaa.TR
