/- The document's table of events: four slices, told by one list of (mask, set, waits, waiting). -/
import Derived.Test.YtmljnhhjjaibbaaEvtD
import Derived.StillTailTactics
namespace Go.Proofs.Ytmljnhhjjaibbaa.ER
open Go.RowKit Go.Fr Go.Proofs.Ytmljnhhjjaibbaa.EV

/-- two slices share no block -/
def Ap (u v : Value) : Prop := ∀ g, u.ownBlock = some g → v.ownBlock ≠ some g
theorem Ap.symm {u v : Value} (h : Ap u v) : Ap v u := fun g h1 h2 => h g h2 h1

def f0 (a : Ev) : Value := .int .u32 a.1
def f1 (a : Ev) : Value := .int .u32 a.2.1
def f2 (a : Ev) : Value := .int .u32 a.2.2.1
def f3 (a : Ev) : Value := .bool a.2.2.2

structure IsRef (w : World) (b : Nat) (vm vo vw vs : Value) (l : List Ev) : Prop where
  blk : Blk w b [vm, vo, vw, vs] 66
  rm : Row w 22 1 vm l.length (l.map f0)
  ro : Row w 22 1 vo l.length (l.map f1)
  rw : Row w 22 1 vw l.length (l.map f2)
  rs : Row w 4 1 vs l.length (l.map f3)
  mo : Ap vm vo
  mw : Ap vm vw
  ms : Ap vm vs
  ow : Ap vo vw
  os : Ap vo vs
  ws : Ap vw vs
  bm : vm.ownBlock ≠ some b
  bo : vo.ownBlock ≠ some b
  bw : vw.ownBlock ≠ some b
  bs : vs.ownBlock ≠ some b

def foot (b : Nat) (vm vo vw vs : Value) : Nat → Prop := fun k => k = b ∨ vm.ownBlock = some k ∨ vo.ownBlock = some k ∨ vw.ownBlock = some k ∨ vs.ownBlock = some k

theorem map_set_at {l : List Ev} {k : Nat} {a a' : Ev} (f : Ev → Value) (h : l[k]? = some a) (e : f a' = f a) : (l.set k a').map f = l.map f := by
  rw [List.map_set, e, set_same]
  rw [List.getElem?_map, h]; rfl

section
variable {w : World} {b : Nat} {vm vo vw vs : Value} {l : List Ev}
theorem IsRef.kept {w' : World} {S : Nat → Prop} (hs : IsRef w b vm vo vw vs l) (k : Kept S w w') (hn : ∀ i, foot b vm vo vw vs i → ¬ S i) : IsRef w' b vm vo vw vs l :=
  { hs with
    blk := hs.blk.kept k (hn _ (Or.inl rfl))
    rm := row_kept hs.rm k (fun g hg => hn _ (Or.inr (Or.inl hg)))
    ro := row_kept hs.ro k (fun g hg => hn _ (Or.inr (Or.inr (Or.inl hg))))
    rw := row_kept hs.rw k (fun g hg => hn _ (Or.inr (Or.inr (Or.inr (Or.inl hg)))))
    rs := row_kept hs.rs k (fun g hg => hn _ (Or.inr (Or.inr (Or.inr (Or.inr hg))))) }
theorem IsRef.lt (hs : IsRef w b vm vo vw vs l) : ∀ i, foot b vm vo vw vs i → i < w.heap.size := by
  rintro i (rfl | h | h | h | h)
  · exact hs.blk.lt
  · exact row_lt hs.rm h
  · exact row_lt hs.ro h
  · exact row_lt hs.rw h
  · exact row_lt hs.rs h
theorem IsRef.drewN (hs : IsRef w b vm vo vw vs l) (n : Nat) : IsRef (w.drewN n) b vm vo vw vs l := hs.kept ((Kept.refl (fun _ => False) w).drewN n) (fun _ _ h => h)

theorem rowv {e : TypeId} {v : Value} {n : Nat} {xs : List Value} (h : Row w e 1 v n xs) (hn : 0 < n) : ∃ g c, v = .slice (some ⟨g, 0, none⟩) n c := by
  obtain ⟨m, rfl⟩ : ∃ m, n = m + 1 := ⟨n - 1, by omega⟩
  obtain ⟨g, c, hv, _⟩ := row_form h
  exact ⟨g, c, hv⟩

theorem IsRef.setOn {g c k N : Nat} {m s t : Int} {q : Bool} (s' : Int) (hN : l.length = N) (hs : IsRef w b vm (.slice (some ⟨g, 0, none⟩) N c) vw vs l) (h : l[k]? = some (m, s, t, q)) : IsRef (w.setCell ⟨g, k, none⟩ (.int .u32 s')) b vm (.slice (some ⟨g, 0, none⟩) N c) vw vs (l.set k (m, s', t, q)) := by
  subst hN
  have o : (Value.slice (some ⟨g, 0, none⟩) l.length c).ownBlock = some g := rfl
  refine { hs with blk := hs.blk.other (fun e => hs.bo (by rw [o]; exact congrArg some e)) _, rm := ?_, ro := ?_, rw := ?_, rs := ?_ }
  · rw [List.length_set, map_set_at (a' := (m, s', t, q)) f0 h rfl]; exact row_setCell_other hs.rm (fun e => hs.mo g e o) _
  · rw [List.length_set, List.map_set]; exact row_set hs.ro k _
  · rw [List.length_set, map_set_at (a' := (m, s', t, q)) f2 h rfl]; exact row_setCell_other hs.rw (hs.ow g o) _
  · rw [List.length_set, map_set_at (a' := (m, s', t, q)) f3 h rfl]; exact row_setCell_other hs.rs (hs.os g o) _
theorem IsRef.setWants {g c k N : Nat} {m s t : Int} {q : Bool} (t' : Int) (hN : l.length = N) (hs : IsRef w b vm vo (.slice (some ⟨g, 0, none⟩) N c) vs l) (h : l[k]? = some (m, s, t, q)) : IsRef (w.setCell ⟨g, k, none⟩ (.int .u32 t')) b vm vo (.slice (some ⟨g, 0, none⟩) N c) vs (l.set k (m, s, t', q)) := by
  subst hN
  have o : (Value.slice (some ⟨g, 0, none⟩) l.length c).ownBlock = some g := rfl
  refine { hs with blk := hs.blk.other (fun e => hs.bw (by rw [o]; exact congrArg some e)) _, rm := ?_, ro := ?_, rw := ?_, rs := ?_ }
  · rw [List.length_set, map_set_at (a' := (m, s, t', q)) f0 h rfl]; exact row_setCell_other hs.rm (fun e => hs.mw g e o) _
  · rw [List.length_set, map_set_at (a' := (m, s, t', q)) f1 h rfl]; exact row_setCell_other hs.ro (fun e => hs.ow g e o) _
  · rw [List.length_set, List.map_set]; exact row_set hs.rw k _
  · rw [List.length_set, map_set_at (a' := (m, s, t', q)) f3 h rfl]; exact row_setCell_other hs.rs (hs.ws g o) _
theorem IsRef.setSits {g c k N : Nat} {m s t : Int} {q : Bool} (q' : Bool) (hN : l.length = N) (hs : IsRef w b vm vo vw (.slice (some ⟨g, 0, none⟩) N c) l) (h : l[k]? = some (m, s, t, q)) : IsRef (w.setCell ⟨g, k, none⟩ (.bool q')) b vm vo vw (.slice (some ⟨g, 0, none⟩) N c) (l.set k (m, s, t, q')) := by
  subst hN
  have o : (Value.slice (some ⟨g, 0, none⟩) l.length c).ownBlock = some g := rfl
  refine { hs with blk := hs.blk.other (fun e => hs.bs (by rw [o]; exact congrArg some e)) _, rm := ?_, ro := ?_, rw := ?_, rs := ?_ }
  · rw [List.length_set, map_set_at (a' := (m, s, t, q')) f0 h rfl]; exact row_setCell_other hs.rm (fun e => hs.ms g e o) _
  · rw [List.length_set, map_set_at (a' := (m, s, t, q')) f1 h rfl]; exact row_setCell_other hs.ro (fun e => hs.os g e o) _
  · rw [List.length_set, map_set_at (a' := (m, s, t, q')) f2 h rfl]; exact row_setCell_other hs.rw (fun e => hs.ws g e o) _
  · rw [List.length_set, List.map_set]; exact row_set hs.rs k _

theorem IsRef.onAgain {g c k : Nat} {m s t : Int} {q : Bool} (s' : Int) (hs : IsRef w b vm (.slice (some ⟨g, 0, none⟩) l.length c) vw vs (l.set k (m, s, t, q))) (h : k < l.length) : IsRef (w.setCell ⟨g, k, none⟩ (.int .u32 s')) b vm (.slice (some ⟨g, 0, none⟩) l.length c) vw vs (l.set k (m, s', t, q)) := by
  have h := IsRef.setOn (k := k) (m := m) (s := s) (t := t) (q := q) s' (by rw [List.length_set]) hs (by rw [List.getElem?_set_self h])
  rwa [List.set_set] at h
theorem IsRef.wantsAgain {g c k : Nat} {m s t : Int} {q : Bool} (t' : Int) (hs : IsRef w b vm vo (.slice (some ⟨g, 0, none⟩) l.length c) vs (l.set k (m, s, t, q))) (h : k < l.length) : IsRef (w.setCell ⟨g, k, none⟩ (.int .u32 t')) b vm vo (.slice (some ⟨g, 0, none⟩) l.length c) vs (l.set k (m, s, t', q)) := by
  have h := IsRef.setWants (k := k) (m := m) (s := s) (t := t) (q := q) t' (by rw [List.length_set]) hs (by rw [List.getElem?_set_self h])
  rwa [List.set_set] at h
theorem IsRef.sitsAgain {g c k : Nat} {m s t : Int} {q : Bool} (q' : Bool) (hs : IsRef w b vm vo vw (.slice (some ⟨g, 0, none⟩) l.length c) (l.set k (m, s, t, q))) (h : k < l.length) : IsRef (w.setCell ⟨g, k, none⟩ (.bool q')) b vm vo vw (.slice (some ⟨g, 0, none⟩) l.length c) (l.set k (m, s, t, q')) := by
  have h := IsRef.setSits (k := k) (m := m) (s := s) (t := t) (q := q) q' (by rw [List.length_set]) hs (by rw [List.getElem?_set_self h])
  rwa [List.set_set] at h

/-- the task k's places -/
structure Spot (w : World) (b gm go gw gs k : Nat) (m s t : Int) (q : Bool) : Prop where
  cm : w.cell? ⟨gm, k, none⟩ = some (.int .u32 m)
  co : w.cell? ⟨go, k, none⟩ = some (.int .u32 s)
  cw : w.cell? ⟨gw, k, none⟩ = some (.int .u32 t)
  cs : w.cell? ⟨gs, k, none⟩ = some (.bool q)
  fo : w.frozen? ⟨go, k, none⟩ = false
  fw : w.frozen? ⟨gw, k, none⟩ = false
  fs : w.frozen? ⟨gs, k, none⟩ = false
  now : go ≠ gw
  nos : go ≠ gs
  nws : gw ≠ gs
  nob : go ≠ b
  nwb : gw ≠ b
  nsb : gs ≠ b
theorem IsRef.spot (hs : IsRef w b vm vo vw vs l) {k : Nat} {m s t : Int} {q : Bool} (h : l[k]? = some (m, s, t, q)) :
    ∃ gm cm go co gw cw gs cs, vm = .slice (some ⟨gm, 0, none⟩) l.length cm ∧ vo = .slice (some ⟨go, 0, none⟩) l.length co ∧ vw = .slice (some ⟨gw, 0, none⟩) l.length cw ∧ vs = .slice (some ⟨gs, 0, none⟩) l.length cs ∧ Spot w b gm go gw gs k m s t q := by
  have hk := (List.getElem?_eq_some_iff.1 h).1
  obtain ⟨gm, cm, rfl⟩ := rowv hs.rm (by omega)
  obtain ⟨go, co, rfl⟩ := rowv hs.ro (by omega)
  obtain ⟨gw, cw, rfl⟩ := rowv hs.rw (by omega)
  obtain ⟨gs, cs, rfl⟩ := rowv hs.rs (by omega)
  refine ⟨gm, cm, go, co, gw, cw, gs, cs, rfl, rfl, rfl, rfl, row_cell hs.rm k (by rw [List.getElem?_map, h]; rfl), row_cell hs.ro k (by rw [List.getElem?_map, h]; rfl), row_cell hs.rw k (by rw [List.getElem?_map, h]; rfl), row_cell hs.rs k (by rw [List.getElem?_map, h]; rfl),
    row_frozen hs.ro k, row_frozen hs.rw k, row_frozen hs.rs k, ?_, ?_, ?_, ?_, ?_, ?_⟩
  · intro e; exact hs.ow go rfl (by rw [e]; rfl)
  · intro e; exact hs.os go rfl (by rw [e]; rfl)
  · intro e; exact hs.ws gw rfl (by rw [e]; rfl)
  · intro e; exact hs.bo (by rw [← e]; rfl)
  · intro e; exact hs.bw (by rw [← e]; rfl)
  · intro e; exact hs.bs (by rw [← e]; rfl)

theorem may_id (i : Int) (hs : IsRef w b vm vo vw vs l) (h : has l.length i = false) : Calls Try.prog 27 #[.pointer (some ⟨b, 0, none⟩), .int .i64 i] w fun e w' => e = .returned (.int .i64 3) ∧ w = w' := by
  have c0 := hs.blk.cell 0 rfl
  obtain ⟨ao, c, rfl, _⟩ := row_any hs.rm
  unfold has at h
  by_cases h0 : i < 0
  · have d0 : decide (i < 0) = true := by simpa using h0
    go_enter Try.func27, Try.ntmps27
    go_wp2
    go_ret
    exact ⟨rfl, rfl⟩
  · have d0 : decide (i < 0) = false := by simpa using h0
    have d1 : decide ((l.length : Int) ≤ i) = true := by simp at h; simp; omega
    go_enter Try.func27, Try.ntmps27
    go_wp2
    go_ret
    exact ⟨rfl, rfl⟩
theorem may_acc {k : Nat} {a : Ev} (hs : IsRef w b vm vo vw vs l) (hx : l[k]? = some a) (h : a.1 = 0) : Calls Try.prog 27 #[.pointer (some ⟨b, 0, none⟩), .int .i64 k] w fun e w' => e = .returned (.int .i64 1) ∧ w = w' := by
  have c0 := hs.blk.cell 0 rfl
  obtain ⟨m, s, t, q⟩ := a
  simp only at h
  subst h
  have hk := (List.getElem?_eq_some_iff.1 hx).1
  obtain ⟨gm, cm, go, co, gw, cw, gs, cs, rfl, rfl, rfl, rfl, sp⟩ := hs.spot hx
  have e0 := sp.cm
  have d0 : decide ((k : Int) < 0) = false := by simp
  have d1 : decide ((l.length : Int) ≤ (k : Int)) = false := by simp; omega
  have hk1 : (k : Int) < (l.length : Int) := by omega
  have hk0 : (0 : Int) ≤ (k : Int) := by omega
  go_enter Try.func27, Try.ntmps27
  go_wp2
  go_ret
  exact ⟨rfl, rfl⟩
theorem may_ok {k : Nat} {a : Ev} (hs : IsRef w b vm vo vw vs l) (hx : l[k]? = some a) (h : (a.1 == 0) = false) : Calls Try.prog 27 #[.pointer (some ⟨b, 0, none⟩), .int .i64 k] w fun e w' => e = .returned (.int .i64 0) ∧ w = w' := by
  have c0 := hs.blk.cell 0 rfl
  obtain ⟨m, s, t, q⟩ := a
  simp only at h
  have hk := (List.getElem?_eq_some_iff.1 hx).1
  obtain ⟨gm, cm, go, co, gw, cw, gs, cs, rfl, rfl, rfl, rfl, sp⟩ := hs.spot hx
  have e0 := sp.cm
  have d0 : decide ((k : Int) < 0) = false := by simp
  have d1 : decide ((l.length : Int) ≤ (k : Int)) = false := by simp; omega
  have hk1 : (k : Int) < (l.length : Int) := by omega
  have hk0 : (0 : Int) ≤ (k : Int) := by omega
  go_enter Try.func27, Try.ntmps27
  go_wp2
  go_ret
  exact ⟨rfl, rfl⟩

set_option maxRecDepth 100000 in
set_option maxHeartbeats 2000000 in
theorem set_off {k : Nat} {m s t : Int} {q : Bool} (x : Int) (hs : IsRef w b vm vo vw vs l) (hx : l[k]? = some (m, s, t, q)) (h : (m == 0) = false) (hq : q = false) : Calls Try.prog 15 #[.pointer (some ⟨b, 0, none⟩), .int .i64 k, .int .u32 x] w fun e w' =>
    e = .returned (.tuple #[.bool false, .int .i64 0]) ∧ IsRef w' b vm vo vw vs (l.set k (m, bits BinOp.or IntKind.u32 s x, t, q)) ∧ Kept (foot b vm vo vw vs) w w' := by
  subst hq
  have hmay := may_ok hs hx h
  have hk := (List.getElem?_eq_some_iff.1 hx).1
  obtain ⟨gm, cm, go, co, gw, cw, gs, cs, rfl, rfl, rfl, rfl, sp⟩ := hs.spot hx
  obtain ⟨z1, z2, z3, z4, z5, z6, z7, n1, n2, n3, n4, n5, n6⟩ := sp
  have c1 := hs.blk.cell 1 rfl
  have c2 := hs.blk.cell 2 rfl
  have c3 := hs.blk.cell 3 rfl
  have hk1 : (k : Int) < (l.length : Int) := by omega
  have hk0 : (0 : Int) ≤ (k : Int) := by omega
  have q1 := hs.setOn (bits BinOp.or IntKind.u32 s x) rfl hx
  have kk := fun n => ((((Kept.refl (foot b (.slice (some ⟨gm, 0, none⟩) l.length cm) (.slice (some ⟨go, 0, none⟩) l.length co) (.slice (some ⟨gw, 0, none⟩) l.length cw) (.slice (some ⟨gs, 0, none⟩) l.length cs)) w).setCell (p := ⟨go, k, none⟩) (Or.inl (Or.inr (Or.inr (Or.inl rfl)))) (.int .u32 (bits BinOp.or IntKind.u32 s x))).drew).drewN n)
  go_enter Try.func15, Try.ntmps15
  go_wp2_with (go_at_call 27; refine hmay.mono ?_; rintro e w' ⟨rfl, rfl⟩)
  go_still_tail 15, (by kernel_rfl)
  go_wp2
  go_quiet (fail)
  go_wp2
  go_ret2
  exact ⟨rfl, (q1.drewN 1).drewN _, kk _⟩

set_option maxRecDepth 100000 in
set_option maxHeartbeats 2000000 in
theorem set_not {k : Nat} {m s t : Int} {q : Bool} (x : Int) (hs : IsRef w b vm vo vw vs l) (hx : l[k]? = some (m, s, t, q)) (h : (m == 0) = false) (hq : q = true) (hb : (bits BinOp.and IntKind.u32 (bits BinOp.or IntKind.u32 s x) t == 0) = true) : Calls Try.prog 15 #[.pointer (some ⟨b, 0, none⟩), .int .i64 k, .int .u32 x] w fun e w' =>
    e = .returned (.tuple #[.bool false, .int .i64 0]) ∧ IsRef w' b vm vo vw vs (l.set k (m, bits BinOp.or IntKind.u32 s x, t, q)) ∧ Kept (foot b vm vo vw vs) w w' := by
  subst hq
  have hb' : (bits BinOp.and IntKind.u32 (bits BinOp.or IntKind.u32 s x) t != 0) = false := by simpa using hb
  have hmay := may_ok hs hx h
  have hk := (List.getElem?_eq_some_iff.1 hx).1
  obtain ⟨gm, cm, go, co, gw, cw, gs, cs, rfl, rfl, rfl, rfl, sp⟩ := hs.spot hx
  obtain ⟨z1, z2, z3, z4, z5, z6, z7, n1, n2, n3, n4, n5, n6⟩ := sp
  have c1 := hs.blk.cell 1 rfl
  have c2 := hs.blk.cell 2 rfl
  have c3 := hs.blk.cell 3 rfl
  have hk1 : (k : Int) < (l.length : Int) := by omega
  have hk0 : (0 : Int) ≤ (k : Int) := by omega
  have q1 := hs.setOn (bits BinOp.or IntKind.u32 s x) rfl hx
  have kk := fun n => ((((Kept.refl (foot b (.slice (some ⟨gm, 0, none⟩) l.length cm) (.slice (some ⟨go, 0, none⟩) l.length co) (.slice (some ⟨gw, 0, none⟩) l.length cw) (.slice (some ⟨gs, 0, none⟩) l.length cs)) w).setCell (p := ⟨go, k, none⟩) (Or.inl (Or.inr (Or.inr (Or.inl rfl)))) (.int .u32 (bits BinOp.or IntKind.u32 s x))).drew).drewN n)
  go_enter Try.func15, Try.ntmps15
  go_wp2_with (go_at_call 27; refine hmay.mono ?_; rintro e w' ⟨rfl, rfl⟩)
  go_still_tail 15, (by kernel_rfl)
  go_wp2
  go_quiet (fail)
  go_wp2
  go_ret2
  exact ⟨rfl, (q1.drewN 1).drewN _, kk _⟩

set_option maxRecDepth 100000 in
set_option maxHeartbeats 2000000 in
theorem set_wake {k : Nat} {m s t : Int} {q : Bool} (x : Int) (hs : IsRef w b vm vo vw vs l) (hx : l[k]? = some (m, s, t, q)) (h : (m == 0) = false) (hq : q = true) (hb : (bits BinOp.and IntKind.u32 (bits BinOp.or IntKind.u32 s x) t == 0) = false) : Calls Try.prog 15 #[.pointer (some ⟨b, 0, none⟩), .int .i64 k, .int .u32 x] w fun e w' =>
    e = .returned (.tuple #[.bool true, .int .i64 0]) ∧ IsRef w' b vm vo vw vs (l.set k (m, bits BinOp.or IntKind.u32 s x, 0, false)) ∧ Kept (foot b vm vo vw vs) w w' := by
  subst hq
  have hb' : (bits BinOp.and IntKind.u32 (bits BinOp.or IntKind.u32 s x) t != 0) = true := by simpa using hb
  have hmay := may_ok hs hx h
  have hk := (List.getElem?_eq_some_iff.1 hx).1
  obtain ⟨gm, cm, go, co, gw, cw, gs, cs, rfl, rfl, rfl, rfl, sp⟩ := hs.spot hx
  obtain ⟨z1, z2, z3, z4, z5, z6, z7, n1, n2, n3, n4, n5, n6⟩ := sp
  have c1 := hs.blk.cell 1 rfl
  have c2 := hs.blk.cell 2 rfl
  have c3 := hs.blk.cell 3 rfl
  have hk1 : (k : Int) < (l.length : Int) := by omega
  have hk0 : (0 : Int) ≤ (k : Int) := by omega
  have q1 := hs.setOn (bits BinOp.or IntKind.u32 s x) rfl hx
  have q2 := fun n => ((q1.drewN n).sitsAgain false hk).wantsAgain 0 hk
  have kk := fun n => ((((((Kept.refl (foot b (.slice (some ⟨gm, 0, none⟩) l.length cm) (.slice (some ⟨go, 0, none⟩) l.length co) (.slice (some ⟨gw, 0, none⟩) l.length cw) (.slice (some ⟨gs, 0, none⟩) l.length cs)) w).setCell (p := ⟨go, k, none⟩) (Or.inl (Or.inr (Or.inr (Or.inl rfl)))) (.int .u32 (bits BinOp.or IntKind.u32 s x)))).drewN n).setCell (p := ⟨gs, k, none⟩) (Or.inl (Or.inr (Or.inr (Or.inr (Or.inr rfl))))) (.bool false)).setCell (p := ⟨gw, k, none⟩) (Or.inl (Or.inr (Or.inr (Or.inr (Or.inl rfl))))) (.int .u32 0))
  go_enter Try.func15, Try.ntmps15
  go_wp2_with (go_at_call 27; refine hmay.mono ?_; rintro e w' ⟨rfl, rfl⟩)
  go_still_tail 15, (by kernel_rfl)
  go_wp2
  go_quiet (fail)
  go_wp2
  go_ret2
  exact ⟨rfl, q2 _, kk _⟩

set_option maxRecDepth 100000 in
set_option maxHeartbeats 2000000 in
theorem clear_ok {k : Nat} {m s t : Int} {q : Bool} (x : Int) (hs : IsRef w b vm vo vw vs l) (hx : l[k]? = some (m, s, t, q)) (h : (m == 0) = false) : Calls Try.prog 16 #[.pointer (some ⟨b, 0, none⟩), .int .i64 k, .int .u32 x] w fun e w' =>
    e = .returned (.int .i64 0) ∧ IsRef w' b vm vo vw vs (l.set k (m, bits BinOp.andNot IntKind.u32 s x, t, q)) ∧ Kept (foot b vm vo vw vs) w w' := by
  have hmay := may_ok hs hx h
  have hk := (List.getElem?_eq_some_iff.1 hx).1
  obtain ⟨gm, cm, go, co, gw, cw, gs, cs, rfl, rfl, rfl, rfl, sp⟩ := hs.spot hx
  obtain ⟨z1, z2, z3, z4, z5, z6, z7, n1, n2, n3, n4, n5, n6⟩ := sp
  have c1 := hs.blk.cell 1 rfl
  have c2 := hs.blk.cell 2 rfl
  have c3 := hs.blk.cell 3 rfl
  have hk1 : (k : Int) < (l.length : Int) := by omega
  have hk0 : (0 : Int) ≤ (k : Int) := by omega
  have q1 := hs.setOn (bits BinOp.andNot IntKind.u32 s x) rfl hx
  have kk := (((Kept.refl (foot b (.slice (some ⟨gm, 0, none⟩) l.length cm) (.slice (some ⟨go, 0, none⟩) l.length co) (.slice (some ⟨gw, 0, none⟩) l.length cw) (.slice (some ⟨gs, 0, none⟩) l.length cs)) w).setCell (p := ⟨go, k, none⟩) (Or.inl (Or.inr (Or.inr (Or.inl rfl)))) (.int .u32 (bits BinOp.andNot IntKind.u32 s x))).drew)
  go_enter Try.func16, Try.ntmps16
  go_wp2_with (go_at_call 27; refine hmay.mono ?_; rintro e w' ⟨rfl, rfl⟩)
  go_still_tail 15, (by kernel_rfl)
  go_wp2
  go_ret
  exact ⟨rfl, q1.drewN 1, kk⟩

set_option maxRecDepth 100000 in
set_option maxHeartbeats 2000000 in
theorem get_ok {k : Nat} {m s t : Int} {q : Bool} (hs : IsRef w b vm vo vw vs l) (hx : l[k]? = some (m, s, t, q)) (h : (m == 0) = false) : Calls Try.prog 17 #[.pointer (some ⟨b, 0, none⟩), .int .i64 k] w fun e w' =>
    e = .returned (.tuple #[.int .u32 s, .int .i64 0]) ∧ w = w' := by
  have hmay := may_ok hs hx h
  have hk := (List.getElem?_eq_some_iff.1 hx).1
  obtain ⟨gm, cm, go, co, gw, cw, gs, cs, rfl, rfl, rfl, rfl, sp⟩ := hs.spot hx
  obtain ⟨z1, z2, z3, z4, z5, z6, z7, n1, n2, n3, n4, n5, n6⟩ := sp
  have c1 := hs.blk.cell 1 rfl
  have c2 := hs.blk.cell 2 rfl
  have c3 := hs.blk.cell 3 rfl
  have hk1 : (k : Int) < (l.length : Int) := by omega
  have hk0 : (0 : Int) ≤ (k : Int) := by omega
  go_enter Try.func17, Try.ntmps17
  go_wp2_with (go_at_call 27; refine hmay.mono ?_; rintro e w' ⟨rfl, rfl⟩)
  go_ret2
  exact ⟨rfl, rfl⟩

set_option maxRecDepth 100000 in
set_option maxHeartbeats 2000000 in
theorem waits_ok {k : Nat} {m s t : Int} {q : Bool} (hs : IsRef w b vm vo vw vs l) (hx : l[k]? = some (m, s, t, q)) (h : (m == 0) = false) : Calls Try.prog 19 #[.pointer (some ⟨b, 0, none⟩), .int .i64 k] w fun e w' =>
    e = .returned (.int .u32 t) ∧ w = w' := by
  have hmay := may_ok hs hx h
  have hk := (List.getElem?_eq_some_iff.1 hx).1
  obtain ⟨gm, cm, go, co, gw, cw, gs, cs, rfl, rfl, rfl, rfl, sp⟩ := hs.spot hx
  obtain ⟨z1, z2, z3, z4, z5, z6, z7, n1, n2, n3, n4, n5, n6⟩ := sp
  have c1 := hs.blk.cell 1 rfl
  have c2 := hs.blk.cell 2 rfl
  have c3 := hs.blk.cell 3 rfl
  have hk1 : (k : Int) < (l.length : Int) := by omega
  have hk0 : (0 : Int) ≤ (k : Int) := by omega
  go_enter Try.func19, Try.ntmps19
  go_wp2_with (go_at_call 27; refine hmay.mono ?_; rintro e w' ⟨rfl, rfl⟩)
  go_ret
  exact ⟨rfl, rfl⟩

set_option maxRecDepth 100000 in
set_option maxHeartbeats 2000000 in
theorem wait_state {k : Nat} {m s t : Int} {q : Bool} (x : Int) (hs : IsRef w b vm vo vw vs l) (hx : l[k]? = some (m, s, t, q)) (h : (m == 0) = false) (hq : q = true) : Calls Try.prog 18 #[.pointer (some ⟨b, 0, none⟩), .int .i64 k, .int .u32 x] w fun e w' =>
    e = .returned (.tuple #[.bool false, .int .i64 7]) ∧ w = w' := by
  subst hq
  have hmay := may_ok hs hx h
  have hk := (List.getElem?_eq_some_iff.1 hx).1
  obtain ⟨gm, cm, go, co, gw, cw, gs, cs, rfl, rfl, rfl, rfl, sp⟩ := hs.spot hx
  obtain ⟨z1, z2, z3, z4, z5, z6, z7, n1, n2, n3, n4, n5, n6⟩ := sp
  have c1 := hs.blk.cell 1 rfl
  have c2 := hs.blk.cell 2 rfl
  have c3 := hs.blk.cell 3 rfl
  have hk1 : (k : Int) < (l.length : Int) := by omega
  have hk0 : (0 : Int) ≤ (k : Int) := by omega
  go_enter Try.func18, Try.ntmps18
  go_wp2_with (go_at_call 27; refine hmay.mono ?_; rintro e w' ⟨rfl, rfl⟩)
  go_ret2
  exact ⟨rfl, rfl⟩

set_option maxRecDepth 100000 in
set_option maxHeartbeats 2000000 in
theorem wait_no {k : Nat} {m s t : Int} {q : Bool} (x : Int) (hs : IsRef w b vm vo vw vs l) (hx : l[k]? = some (m, s, t, q)) (h : (m == 0) = false) (hq : q = false) (hb : (bits BinOp.and IntKind.u32 s x == 0) = false) : Calls Try.prog 18 #[.pointer (some ⟨b, 0, none⟩), .int .i64 k, .int .u32 x] w fun e w' =>
    e = .returned (.tuple #[.bool false, .int .i64 0]) ∧ w = w' := by
  subst hq
  have hb' : (bits BinOp.and IntKind.u32 s x != 0) = true := by simpa using hb
  have hmay := may_ok hs hx h
  have hk := (List.getElem?_eq_some_iff.1 hx).1
  obtain ⟨gm, cm, go, co, gw, cw, gs, cs, rfl, rfl, rfl, rfl, sp⟩ := hs.spot hx
  obtain ⟨z1, z2, z3, z4, z5, z6, z7, n1, n2, n3, n4, n5, n6⟩ := sp
  have c1 := hs.blk.cell 1 rfl
  have c2 := hs.blk.cell 2 rfl
  have c3 := hs.blk.cell 3 rfl
  have hk1 : (k : Int) < (l.length : Int) := by omega
  have hk0 : (0 : Int) ≤ (k : Int) := by omega
  go_enter Try.func18, Try.ntmps18
  go_wp2_with (go_at_call 27; refine hmay.mono ?_; rintro e w' ⟨rfl, rfl⟩)
  go_ret2
  exact ⟨rfl, rfl⟩

set_option maxRecDepth 100000 in
set_option maxHeartbeats 2000000 in
theorem wait_yes {k : Nat} {m s t : Int} {q : Bool} (x : Int) (hs : IsRef w b vm vo vw vs l) (hx : l[k]? = some (m, s, t, q)) (h : (m == 0) = false) (hq : q = false) (hb : (bits BinOp.and IntKind.u32 s x == 0) = true) : Calls Try.prog 18 #[.pointer (some ⟨b, 0, none⟩), .int .i64 k, .int .u32 x] w fun e w' =>
    e = .returned (.tuple #[.bool true, .int .i64 0]) ∧ IsRef w' b vm vo vw vs (l.set k (m, s, x, true)) ∧ Kept (foot b vm vo vw vs) w w' := by
  subst hq
  have hb' : (bits BinOp.and IntKind.u32 s x != 0) = false := by simpa using hb
  have hmay := may_ok hs hx h
  have hk := (List.getElem?_eq_some_iff.1 hx).1
  obtain ⟨gm, cm, go, co, gw, cw, gs, cs, rfl, rfl, rfl, rfl, sp⟩ := hs.spot hx
  obtain ⟨z1, z2, z3, z4, z5, z6, z7, n1, n2, n3, n4, n5, n6⟩ := sp
  have c1 := hs.blk.cell 1 rfl
  have c2 := hs.blk.cell 2 rfl
  have c3 := hs.blk.cell 3 rfl
  have hk1 : (k : Int) < (l.length : Int) := by omega
  have hk0 : (0 : Int) ≤ (k : Int) := by omega
  have q2 := (hs.setSits true rfl hx).wantsAgain x hk
  have kk := (((Kept.refl (foot b (.slice (some ⟨gm, 0, none⟩) l.length cm) (.slice (some ⟨go, 0, none⟩) l.length co) (.slice (some ⟨gw, 0, none⟩) l.length cw) (.slice (some ⟨gs, 0, none⟩) l.length cs)) w).setCell (p := ⟨gs, k, none⟩) (Or.inl (Or.inr (Or.inr (Or.inr (Or.inr rfl))))) (.bool true)).setCell (p := ⟨gw, k, none⟩) (Or.inl (Or.inr (Or.inr (Or.inr (Or.inl rfl))))) (.int .u32 x))
  go_enter Try.func18, Try.ntmps18
  go_wp2_with (go_at_call 27; refine hmay.mono ?_; rintro e w' ⟨rfl, rfl⟩)
  go_ret2
  exact ⟨rfl, q2, kk⟩

set_option maxRecDepth 100000 in
set_option maxHeartbeats 2000000 in
theorem fresh_ok {k : Nat} {m s t : Int} {q : Bool} (hs : IsRef w b vm vo vw vs l) (hx : l[k]? = some (m, s, t, q)) (h : (m == 0) = false) : Calls Try.prog 20 #[.pointer (some ⟨b, 0, none⟩), .int .i64 k] w fun e w' =>
    e = .returned (.int .i64 0) ∧ IsRef w' b vm vo vw vs (l.set k (m, 0, 0, false)) ∧ Kept (foot b vm vo vw vs) w w' := by
  have hmay := may_ok hs hx h
  have hk := (List.getElem?_eq_some_iff.1 hx).1
  obtain ⟨gm, cm, go, co, gw, cw, gs, cs, rfl, rfl, rfl, rfl, sp⟩ := hs.spot hx
  obtain ⟨z1, z2, z3, z4, z5, z6, z7, n1, n2, n3, n4, n5, n6⟩ := sp
  have c1 := hs.blk.cell 1 rfl
  have c2 := hs.blk.cell 2 rfl
  have c3 := hs.blk.cell 3 rfl
  have hk1 : (k : Int) < (l.length : Int) := by omega
  have hk0 : (0 : Int) ≤ (k : Int) := by omega
  have q2 := ((hs.setOn 0 rfl hx).wantsAgain 0 hk).sitsAgain false hk
  have kk := ((((Kept.refl (foot b (.slice (some ⟨gm, 0, none⟩) l.length cm) (.slice (some ⟨go, 0, none⟩) l.length co) (.slice (some ⟨gw, 0, none⟩) l.length cw) (.slice (some ⟨gs, 0, none⟩) l.length cs)) w).setCell (p := ⟨go, k, none⟩) (Or.inl (Or.inr (Or.inr (Or.inl rfl)))) (.int .u32 0)).setCell (p := ⟨gw, k, none⟩) (Or.inl (Or.inr (Or.inr (Or.inr (Or.inl rfl))))) (.int .u32 0)).setCell (p := ⟨gs, k, none⟩) (Or.inl (Or.inr (Or.inr (Or.inr (Or.inr rfl))))) (.bool false))
  go_enter Try.func20, Try.ntmps20
  go_wp2_with (go_at_call 27; refine hmay.mono ?_; rintro e w' ⟨rfl, rfl⟩)
  go_ret
  exact ⟨rfl, q2, kk⟩

set_option maxRecDepth 100000 in
theorem set_id (i : Int) (x : Int) (hs : IsRef w b vm vo vw vs l) (h : has l.length i = false) : Calls Try.prog 15 #[.pointer (some ⟨b, 0, none⟩), .int .i64 i, .int .u32 x] w fun e w' => e = .returned (.tuple #[.bool false, .int .i64 3]) ∧ w = w' := by
  have hmay := may_id i hs h
  go_enter Try.func15, Try.ntmps15
  go_wp2_with (go_at_call 27; refine hmay.mono ?_; rintro e w' ⟨rfl, rfl⟩)
  go_ret2
  exact ⟨rfl, rfl⟩

set_option maxRecDepth 100000 in
theorem set_acc (x : Int) (hs : IsRef w b vm vo vw vs l) {k : Nat} {a : Ev} (hx : l[k]? = some a) (h : a.1 = 0) : Calls Try.prog 15 #[.pointer (some ⟨b, 0, none⟩), .int .i64 k, .int .u32 x] w fun e w' => e = .returned (.tuple #[.bool false, .int .i64 1]) ∧ w = w' := by
  have hmay := may_acc hs hx h
  go_enter Try.func15, Try.ntmps15
  go_wp2_with (go_at_call 27; refine hmay.mono ?_; rintro e w' ⟨rfl, rfl⟩)
  go_ret2
  exact ⟨rfl, rfl⟩

set_option maxRecDepth 100000 in
theorem clear_id (i : Int) (x : Int) (hs : IsRef w b vm vo vw vs l) (h : has l.length i = false) : Calls Try.prog 16 #[.pointer (some ⟨b, 0, none⟩), .int .i64 i, .int .u32 x] w fun e w' => e = .returned (.int .i64 3) ∧ w = w' := by
  have hmay := may_id i hs h
  go_enter Try.func16, Try.ntmps16
  go_wp2_with (go_at_call 27; refine hmay.mono ?_; rintro e w' ⟨rfl, rfl⟩)
  go_ret
  exact ⟨rfl, rfl⟩

set_option maxRecDepth 100000 in
theorem clear_acc (x : Int) (hs : IsRef w b vm vo vw vs l) {k : Nat} {a : Ev} (hx : l[k]? = some a) (h : a.1 = 0) : Calls Try.prog 16 #[.pointer (some ⟨b, 0, none⟩), .int .i64 k, .int .u32 x] w fun e w' => e = .returned (.int .i64 1) ∧ w = w' := by
  have hmay := may_acc hs hx h
  go_enter Try.func16, Try.ntmps16
  go_wp2_with (go_at_call 27; refine hmay.mono ?_; rintro e w' ⟨rfl, rfl⟩)
  go_ret
  exact ⟨rfl, rfl⟩

set_option maxRecDepth 100000 in
theorem get_id (i : Int) (hs : IsRef w b vm vo vw vs l) (h : has l.length i = false) : Calls Try.prog 17 #[.pointer (some ⟨b, 0, none⟩), .int .i64 i] w fun e w' => e = .returned (.tuple #[.int .u32 0, .int .i64 3]) ∧ w = w' := by
  have hmay := may_id i hs h
  go_enter Try.func17, Try.ntmps17
  go_wp2_with (go_at_call 27; refine hmay.mono ?_; rintro e w' ⟨rfl, rfl⟩)
  go_ret2
  exact ⟨rfl, rfl⟩

set_option maxRecDepth 100000 in
theorem get_acc (hs : IsRef w b vm vo vw vs l) {k : Nat} {a : Ev} (hx : l[k]? = some a) (h : a.1 = 0) : Calls Try.prog 17 #[.pointer (some ⟨b, 0, none⟩), .int .i64 k] w fun e w' => e = .returned (.tuple #[.int .u32 0, .int .i64 1]) ∧ w = w' := by
  have hmay := may_acc hs hx h
  go_enter Try.func17, Try.ntmps17
  go_wp2_with (go_at_call 27; refine hmay.mono ?_; rintro e w' ⟨rfl, rfl⟩)
  go_ret2
  exact ⟨rfl, rfl⟩

set_option maxRecDepth 100000 in
theorem wait_id (i : Int) (x : Int) (hs : IsRef w b vm vo vw vs l) (h : has l.length i = false) : Calls Try.prog 18 #[.pointer (some ⟨b, 0, none⟩), .int .i64 i, .int .u32 x] w fun e w' => e = .returned (.tuple #[.bool false, .int .i64 3]) ∧ w = w' := by
  have hmay := may_id i hs h
  go_enter Try.func18, Try.ntmps18
  go_wp2_with (go_at_call 27; refine hmay.mono ?_; rintro e w' ⟨rfl, rfl⟩)
  go_ret2
  exact ⟨rfl, rfl⟩

set_option maxRecDepth 100000 in
theorem wait_acc (x : Int) (hs : IsRef w b vm vo vw vs l) {k : Nat} {a : Ev} (hx : l[k]? = some a) (h : a.1 = 0) : Calls Try.prog 18 #[.pointer (some ⟨b, 0, none⟩), .int .i64 k, .int .u32 x] w fun e w' => e = .returned (.tuple #[.bool false, .int .i64 1]) ∧ w = w' := by
  have hmay := may_acc hs hx h
  go_enter Try.func18, Try.ntmps18
  go_wp2_with (go_at_call 27; refine hmay.mono ?_; rintro e w' ⟨rfl, rfl⟩)
  go_ret2
  exact ⟨rfl, rfl⟩

set_option maxRecDepth 100000 in
theorem waits_id (i : Int) (hs : IsRef w b vm vo vw vs l) (h : has l.length i = false) : Calls Try.prog 19 #[.pointer (some ⟨b, 0, none⟩), .int .i64 i] w fun e w' => e = .returned (.int .u32 0) ∧ w = w' := by
  have hmay := may_id i hs h
  go_enter Try.func19, Try.ntmps19
  go_wp2_with (go_at_call 27; refine hmay.mono ?_; rintro e w' ⟨rfl, rfl⟩)
  go_ret
  exact ⟨rfl, rfl⟩

set_option maxRecDepth 100000 in
theorem waits_acc (hs : IsRef w b vm vo vw vs l) {k : Nat} {a : Ev} (hx : l[k]? = some a) (h : a.1 = 0) : Calls Try.prog 19 #[.pointer (some ⟨b, 0, none⟩), .int .i64 k] w fun e w' => e = .returned (.int .u32 0) ∧ w = w' := by
  have hmay := may_acc hs hx h
  go_enter Try.func19, Try.ntmps19
  go_wp2_with (go_at_call 27; refine hmay.mono ?_; rintro e w' ⟨rfl, rfl⟩)
  go_ret
  exact ⟨rfl, rfl⟩

set_option maxRecDepth 100000 in
theorem fresh_id (i : Int) (hs : IsRef w b vm vo vw vs l) (h : has l.length i = false) : Calls Try.prog 20 #[.pointer (some ⟨b, 0, none⟩), .int .i64 i] w fun e w' => e = .returned (.int .i64 3) ∧ w = w' := by
  have hmay := may_id i hs h
  go_enter Try.func20, Try.ntmps20
  go_wp2_with (go_at_call 27; refine hmay.mono ?_; rintro e w' ⟨rfl, rfl⟩)
  go_ret
  exact ⟨rfl, rfl⟩

set_option maxRecDepth 100000 in
theorem fresh_acc (hs : IsRef w b vm vo vw vs l) {k : Nat} {a : Ev} (hx : l[k]? = some a) (h : a.1 = 0) : Calls Try.prog 20 #[.pointer (some ⟨b, 0, none⟩), .int .i64 k] w fun e w' => e = .returned (.int .i64 1) ∧ w = w' := by
  have hmay := may_acc hs hx h
  go_enter Try.func20, Try.ntmps20
  go_wp2_with (go_at_call 27; refine hmay.mono ?_; rintro e w' ⟨rfl, rfl⟩)
  go_ret
  exact ⟨rfl, rfl⟩

end
end Go.Proofs.Ytmljnhhjjaibbaa.ER
