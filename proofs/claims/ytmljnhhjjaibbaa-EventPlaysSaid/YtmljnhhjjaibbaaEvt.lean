/- Package event: a table that New made, its tasks a list of (mask, set, waits, waiting), 256 of them. -/
import Derived.Test.YtmljnhhjjaibbaaMem
import Derived.Test.YtmljnhhjjaibbaaArgs
import Derived.Test.YtmljnhhjjaibbaaRows
namespace Go.Proofs.Ytmljnhhjjaibbaa.EV
open Go.RowKit Go.Fr

abbrev Ev := Int × Int × Int × Bool
def encE (a : Ev) : List Value := [.int .u32 a.1, .int .u32 a.2.1, .int .u32 a.2.2.1, .bool a.2.2.2]
theorem encE_len (a : Ev) : (encE a).length = 4 := rfl

/-- 256 of them -/
def fill (l : List Ev) : List Ev := l ++ List.replicate (256 - l.length) (0, 0, 0, false)
theorem fill_at {l : List Ev} {k : Nat} {a : Ev} (h : l[k]? = some a) : (fill l)[k]? = some a := by
  unfold fill; rw [List.getElem?_append_left (List.getElem?_eq_some_iff.1 h).1, h]
theorem fill_set {l : List Ev} {k : Nat} {a : Ev} (h : k < l.length) : (fill l).set k a = fill (l.set k a) := by
  unfold fill; rw [List.set_append_left _ _ h, List.length_set]
theorem fill_len {l : List Ev} (h : l.length ≤ 256) : (fill l).length = 256 := by unfold fill; simp; omega

/-- block b is a table -/
structure IsEvt (w : World) (b n : Nat) (l : List Ev) : Prop where
  blk : Blk w b ([.bool true, .int .i64 n] ++ (fill l).flatMap encE) 59
  len : l.length = n
  n256 : n ≤ 256

section
variable {w : World} {b n : Nat} {l : List Ev}

theorem IsEvt.kept {w' : World} {S : Nat → Prop} (hs : IsEvt w b n l) (k : Kept S w w') (hn : ¬ S b) : IsEvt w' b n l := ⟨hs.blk.kept k hn, hs.len, hs.n256⟩
theorem IsEvt.lt (hs : IsEvt w b n l) : b < w.heap.size := hs.blk.lt
theorem IsEvt.at (hs : IsEvt w b n l) {k i : Nat} {a : Ev} {u : Value} (h : l[k]? = some a) (hu : (encE a)[i]? = some u) : w.cell? ⟨b, 2 + k * 4 + i, none⟩ = some u := by
  have hi : i < 4 := by rw [← encE_len a]; exact (List.getElem?_eq_some_iff.1 hu).1
  refine hs.blk.cell _ ?_
  rw [List.getElem?_append_right (by simp; omega)]
  simp only [List.length_cons, List.length_nil]
  rw [show 2 + k * 4 + i - (0 + 1 + 1) = k * 4 + i by omega]
  exact (flat_get encE_len _ k i a (fill_at h) hi).trans hu
theorem IsEvt.put (hs : IsEvt w b n l) {k i : Nat} {a : Ev} (a' : Ev) {u : Value} (h : l[k]? = some a) (hi : i < 4) (e : encE a' = (encE a).set i u) : IsEvt (w.setCell ⟨b, 2 + k * 4 + i, none⟩ u) b n (l.set k a') := by
  refine ⟨?_, by rw [List.length_set]; exact hs.len, hs.n256⟩
  have := hs.blk.set (2 + k * 4 + i) u
  rw [List.set_append_right _ _ (by simp; omega)] at this
  simp only [List.length_cons, List.length_nil] at this
  rw [show 2 + k * 4 + i - (0 + 1 + 1) = k * 4 + i by omega, flat_set encE_len _ k i a' u a (fill_at h) hi e, fill_set (List.getElem?_eq_some_iff.1 h).1] at this
  exact this

theorem IsEvt.again {k i : Nat} {a : Ev} (a' : Ev) {u : Value} (hs : IsEvt w b n (l.set k a)) (hk : k < l.length) (hi : i < 4) (e : encE a' = (encE a).set i u) : IsEvt (w.setCell ⟨b, 2 + k * 4 + i, none⟩ u) b n (l.set k a') := by
  have h := hs.put (k := k) (a := a) a' (by rw [List.getElem?_set_self hk]) hi e
  rwa [List.set_set] at h
theorem IsEvt.drewN (hs : IsEvt w b n l) (q : Nat) : IsEvt (w.drewN q) b n l := ⟨hs.blk, hs.len, hs.n256⟩
theorem IsEvt.drew (hs : IsEvt w b n l) : IsEvt w.drew b n l := ⟨hs.blk, hs.len, hs.n256⟩
theorem IsEvt.cells (hs : IsEvt w b n l) {k : Nat} {m s t : Int} {g : Bool} (h : l[k]? = some (m, s, t, g)) :
    w.cell? ⟨b, 2 + k * 4, none⟩ = some (.int .u32 m) ∧ w.cell? ⟨b, 2 + k * 4 + 1, none⟩ = some (.int .u32 s) ∧ w.cell? ⟨b, 2 + k * 4 + 2, none⟩ = some (.int .u32 t) ∧ w.cell? ⟨b, 2 + k * 4 + 3, none⟩ = some (.bool g) :=
  ⟨hs.at (i := 0) h rfl, hs.at (i := 1) h rfl, hs.at (i := 2) h rfl, hs.at (i := 3) h rfl⟩
theorem IsEvt.free (hs : IsEvt w b n l) (i : Nat) : w.frozen? ⟨b, i, none⟩ = false := hs.blk.frozen i

/-- a task of the table -/
def has (n : Nat) (i : Int) : Bool := decide (0 ≤ i) && decide (i < n)

theorem of_id (i : Int) (hs : IsEvt w b n l) (h : has n i = false) : Calls Try.prog 26 #[.pointer (some ⟨b, 0, none⟩), .int .i64 i] w fun e w' => e = .returned (.tuple #[.pointer none, .int .i64 3]) ∧ w = w' := by
  have c1 := hs.blk.cell 1 rfl
  unfold has at h
  by_cases h0 : i < 0
  · have d0 : decide (i < 0) = true := by simpa using h0
    go_enter Try.func26, Try.ntmps26
    go_wp2
    go_ret2
    exact ⟨rfl, rfl⟩
  · have d0 : decide (i < 0) = false := by simpa using h0
    have d1 : decide ((n : Int) ≤ i) = true := by simp at h; simp; omega
    go_enter Try.func26, Try.ntmps26
    go_wp2
    go_ret2
    exact ⟨rfl, rfl⟩
set_option maxRecDepth 100000 in
theorem of_acc {k : Nat} {a : Ev} (hs : IsEvt w b n l) (hk : k < n) (hx : l[k]? = some a) (h : a.1 = 0) : Calls Try.prog 26 #[.pointer (some ⟨b, 0, none⟩), .int .i64 k] w fun e w' => e = .returned (.tuple #[.pointer none, .int .i64 1]) ∧ w = w' := by
  have c1 := hs.blk.cell 1 rfl
  have hn := hs.n256
  obtain ⟨m, s, wt, g⟩ := a
  simp only at h
  subst h
  have e0 := (hs.cells hx).1
  have d0 : decide ((k : Int) < 0) = false := by simp
  have d1 : decide ((n : Int) ≤ (k : Int)) = false := by simp; omega
  have hk1 : (k : Int) < 256 := by omega
  have hk0 : (0 : Int) ≤ (k : Int) := by omega
  go_enter Try.func26, Try.ntmps26
  go_wp2
  go_ret2
  exact ⟨rfl, rfl⟩
set_option maxRecDepth 100000 in
theorem of_ok {k : Nat} {a : Ev} (hs : IsEvt w b n l) (hk : k < n) (hx : l[k]? = some a) (h : (a.1 == 0) = false) : Calls Try.prog 26 #[.pointer (some ⟨b, 0, none⟩), .int .i64 k] w fun e w' => e = .returned (.tuple #[.pointer (some ⟨b, 2 + k * 4, none⟩), .int .i64 0]) ∧ w = w' := by
  have c1 := hs.blk.cell 1 rfl
  have hn := hs.n256
  obtain ⟨m, s, wt, g⟩ := a
  simp only at h
  have e0 := (hs.cells hx).1
  have d0 : decide ((k : Int) < 0) = false := by simp
  have d1 : decide ((n : Int) ≤ (k : Int)) = false := by simp; omega
  have hk1 : (k : Int) < 256 := by omega
  have hk0 : (0 : Int) ≤ (k : Int) := by omega
  go_enter Try.func26, Try.ntmps26
  go_wp2
  go_ret2
  exact ⟨rfl, rfl⟩

set_option maxRecDepth 100000 in
set_option maxHeartbeats 1000000 in
theorem set_off {k : Nat} {m s t : Int} {g : Bool} (x : Int) (hs : IsEvt w b n l) (hk : k < n) (hx : l[k]? = some (m, s, t, g)) (h : (m == 0) = false) (hg : g = false) : Calls Try.prog 8 #[.pointer (some ⟨b, 0, none⟩), .int .i64 k, .int .u32 x] w fun e w' => e = .returned (.tuple #[.bool false, .int .i64 0]) ∧ IsEvt w' b n (l.set k (m, bits BinOp.or IntKind.u32 s x, t, g)) ∧ Kept (fun i => i = b) w w' := by
  obtain ⟨e0, e1, e2, e3⟩ := hs.cells hx
  have f0 := hs.free (2 + k * 4)
  have f1 := hs.free (2 + k * 4 + 1)
  have f2 := hs.free (2 + k * 4 + 2)
  have f3 := hs.free (2 + k * 4 + 3)
  subst hg
  have q := hs.put (i := 1) (m, bits BinOp.or IntKind.u32 s x, t, false) hx (by decide) (u := .int .u32 (bits BinOp.or IntKind.u32 s x)) rfl
  have kk := (Kept.refl (fun i => i = b) w).setCell (p := ⟨b, 2 + k * 4 + 1, none⟩) (Or.inl rfl) (.int .u32 (bits BinOp.or IntKind.u32 s x))
  go_enter Try.func8, Try.ntmps8
  go_wp2_with (go_at_call 26; refine (of_ok hs hk hx h).mono ?_; rintro e w' ⟨rfl, rfl⟩)
  go_quiet (fail)
  go_wp2
  go_ret2
  exact ⟨rfl, q.drewN _, kk.same rfl rfl rfl rfl⟩

set_option maxRecDepth 100000 in
set_option maxHeartbeats 1000000 in
theorem set_not {k : Nat} {m s t : Int} {g : Bool} (x : Int) (hs : IsEvt w b n l) (hk : k < n) (hx : l[k]? = some (m, s, t, g)) (h : (m == 0) = false) (hg : g = true) (hb : (bits BinOp.and IntKind.u32 (bits BinOp.or IntKind.u32 s x) t == 0) = true) : Calls Try.prog 8 #[.pointer (some ⟨b, 0, none⟩), .int .i64 k, .int .u32 x] w fun e w' => e = .returned (.tuple #[.bool false, .int .i64 0]) ∧ IsEvt w' b n (l.set k (m, bits BinOp.or IntKind.u32 s x, t, g)) ∧ Kept (fun i => i = b) w w' := by
  obtain ⟨e0, e1, e2, e3⟩ := hs.cells hx
  have f0 := hs.free (2 + k * 4)
  have f1 := hs.free (2 + k * 4 + 1)
  have f2 := hs.free (2 + k * 4 + 2)
  have f3 := hs.free (2 + k * 4 + 3)
  subst hg
  have q := hs.put (i := 1) (m, bits BinOp.or IntKind.u32 s x, t, true) hx (by decide) (u := .int .u32 (bits BinOp.or IntKind.u32 s x)) rfl
  have kk := (Kept.refl (fun i => i = b) w).setCell (p := ⟨b, 2 + k * 4 + 1, none⟩) (Or.inl rfl) (.int .u32 (bits BinOp.or IntKind.u32 s x))
  go_enter Try.func8, Try.ntmps8
  go_wp2_with (go_at_call 26; refine (of_ok hs hk hx h).mono ?_; rintro e w' ⟨rfl, rfl⟩)
  go_quiet (fail)
  go_wp2
  go_ret2
  exact ⟨rfl, q.drewN _, kk.same rfl rfl rfl rfl⟩

set_option maxRecDepth 100000 in
set_option maxHeartbeats 1000000 in
theorem set_wake {k : Nat} {m s t : Int} {g : Bool} (x : Int) (hs : IsEvt w b n l) (hk : k < n) (hx : l[k]? = some (m, s, t, g)) (h : (m == 0) = false) (hg : g = true) (hb : (bits BinOp.and IntKind.u32 (bits BinOp.or IntKind.u32 s x) t == 0) = false) : Calls Try.prog 8 #[.pointer (some ⟨b, 0, none⟩), .int .i64 k, .int .u32 x] w fun e w' => e = .returned (.tuple #[.bool true, .int .i64 0]) ∧ IsEvt w' b n (l.set k (m, bits BinOp.or IntKind.u32 s x, 0, false)) ∧ Kept (fun i => i = b) w w' := by
  obtain ⟨e0, e1, e2, e3⟩ := hs.cells hx
  have f0 := hs.free (2 + k * 4)
  have f1 := hs.free (2 + k * 4 + 1)
  have f2 := hs.free (2 + k * 4 + 2)
  have f3 := hs.free (2 + k * 4 + 3)
  subst hg
  have q := hs.put (i := 1) (m, bits BinOp.or IntKind.u32 s x, t, true) hx (by decide) (u := .int .u32 (bits BinOp.or IntKind.u32 s x)) rfl
  have kk := (Kept.refl (fun i => i = b) w).setCell (p := ⟨b, 2 + k * 4 + 1, none⟩) (Or.inl rfl) (.int .u32 (bits BinOp.or IntKind.u32 s x))
  have hkl := (List.getElem?_eq_some_iff.1 hx).1
  have q2 := fun nq => ((q.drewN nq).again (i := 3) (m, bits BinOp.or IntKind.u32 s x, t, false) hkl (by decide) (u := .bool false) rfl).again (i := 2) (m, bits BinOp.or IntKind.u32 s x, 0, false) hkl (by decide) (u := .int .u32 0) rfl
  have kk2 := fun nq => ((kk.drewN nq).setCell (p := ⟨b, 2 + k * 4 + 3, none⟩) (Or.inl rfl) (.bool false)).setCell (p := ⟨b, 2 + k * 4 + 2, none⟩) (Or.inl rfl) (.int .u32 0)
  go_enter Try.func8, Try.ntmps8
  go_wp2_with (go_at_call 26; refine (of_ok hs hk hx h).mono ?_; rintro e w' ⟨rfl, rfl⟩)
  go_quiet (fail)
  go_wp2
  go_ret2
  exact ⟨rfl, q2 _, kk2 _⟩

set_option maxRecDepth 100000 in
set_option maxHeartbeats 1000000 in
theorem clear_ok {k : Nat} {m s t : Int} {g : Bool} (x : Int) (hs : IsEvt w b n l) (hk : k < n) (hx : l[k]? = some (m, s, t, g)) (h : (m == 0) = false) : Calls Try.prog 9 #[.pointer (some ⟨b, 0, none⟩), .int .i64 k, .int .u32 x] w fun e w' => e = .returned (.int .i64 0) ∧ IsEvt w' b n (l.set k (m, bits BinOp.andNot IntKind.u32 s x, t, g)) ∧ Kept (fun i => i = b) w w' := by
  obtain ⟨e0, e1, e2, e3⟩ := hs.cells hx
  have f0 := hs.free (2 + k * 4)
  have f1 := hs.free (2 + k * 4 + 1)
  have f2 := hs.free (2 + k * 4 + 2)
  have f3 := hs.free (2 + k * 4 + 3)
  have q := hs.put (i := 1) (m, bits BinOp.andNot IntKind.u32 s x, t, g) hx (by decide) (u := .int .u32 (bits BinOp.andNot IntKind.u32 s x)) rfl
  have kk := (Kept.refl (fun i => i = b) w).setCell (p := ⟨b, 2 + k * 4 + 1, none⟩) (Or.inl rfl) (.int .u32 (bits BinOp.andNot IntKind.u32 s x))
  go_enter Try.func9, Try.ntmps9
  go_wp2_with (go_at_call 26; refine (of_ok hs hk hx h).mono ?_; rintro e w' ⟨rfl, rfl⟩)
  go_ret
  exact ⟨rfl, q, kk⟩

set_option maxRecDepth 100000 in
set_option maxHeartbeats 1000000 in
theorem get_ok {k : Nat} {m s t : Int} {g : Bool} (hs : IsEvt w b n l) (hk : k < n) (hx : l[k]? = some (m, s, t, g)) (h : (m == 0) = false) : Calls Try.prog 12 #[.pointer (some ⟨b, 0, none⟩), .int .i64 k] w fun e w' => e = .returned (.tuple #[.int .u32 s, .int .i64 0]) ∧ w = w' := by
  obtain ⟨e0, e1, e2, e3⟩ := hs.cells hx
  have f0 := hs.free (2 + k * 4)
  have f1 := hs.free (2 + k * 4 + 1)
  have f2 := hs.free (2 + k * 4 + 2)
  have f3 := hs.free (2 + k * 4 + 3)
  go_enter Try.func12, Try.ntmps12
  go_wp2_with (go_at_call 26; refine (of_ok hs hk hx h).mono ?_; rintro e w' ⟨rfl, rfl⟩)
  go_ret2
  exact ⟨rfl, rfl⟩

set_option maxRecDepth 100000 in
set_option maxHeartbeats 1000000 in
theorem waits_ok {k : Nat} {m s t : Int} {g : Bool} (hs : IsEvt w b n l) (hk : k < n) (hx : l[k]? = some (m, s, t, g)) (h : (m == 0) = false) : Calls Try.prog 13 #[.pointer (some ⟨b, 0, none⟩), .int .i64 k] w fun e w' => e = .returned (.int .u32 t) ∧ w = w' := by
  obtain ⟨e0, e1, e2, e3⟩ := hs.cells hx
  have f0 := hs.free (2 + k * 4)
  have f1 := hs.free (2 + k * 4 + 1)
  have f2 := hs.free (2 + k * 4 + 2)
  have f3 := hs.free (2 + k * 4 + 3)
  go_enter Try.func13, Try.ntmps13
  go_wp2_with (go_at_call 26; refine (of_ok hs hk hx h).mono ?_; rintro e w' ⟨rfl, rfl⟩)
  go_ret
  exact ⟨rfl, rfl⟩

set_option maxRecDepth 100000 in
set_option maxHeartbeats 1000000 in
theorem wait_state {k : Nat} {m s t : Int} {g : Bool} (x : Int) (hs : IsEvt w b n l) (hk : k < n) (hx : l[k]? = some (m, s, t, g)) (h : (m == 0) = false) (hg : g = true) : Calls Try.prog 10 #[.pointer (some ⟨b, 0, none⟩), .int .i64 k, .int .u32 x] w fun e w' => e = .returned (.tuple #[.bool false, .int .i64 7]) ∧ w = w' := by
  obtain ⟨e0, e1, e2, e3⟩ := hs.cells hx
  have f0 := hs.free (2 + k * 4)
  have f1 := hs.free (2 + k * 4 + 1)
  have f2 := hs.free (2 + k * 4 + 2)
  have f3 := hs.free (2 + k * 4 + 3)
  subst hg
  go_enter Try.func10, Try.ntmps10
  go_wp2_with (go_at_call 26; refine (of_ok hs hk hx h).mono ?_; rintro e w' ⟨rfl, rfl⟩)
  go_ret2
  exact ⟨rfl, rfl⟩

set_option maxRecDepth 100000 in
set_option maxHeartbeats 1000000 in
theorem wait_no {k : Nat} {m s t : Int} {g : Bool} (x : Int) (hs : IsEvt w b n l) (hk : k < n) (hx : l[k]? = some (m, s, t, g)) (h : (m == 0) = false) (hg : g = false) (hb : (bits BinOp.and IntKind.u32 s x == 0) = false) : Calls Try.prog 10 #[.pointer (some ⟨b, 0, none⟩), .int .i64 k, .int .u32 x] w fun e w' => e = .returned (.tuple #[.bool false, .int .i64 0]) ∧ w = w' := by
  obtain ⟨e0, e1, e2, e3⟩ := hs.cells hx
  have f0 := hs.free (2 + k * 4)
  have f1 := hs.free (2 + k * 4 + 1)
  have f2 := hs.free (2 + k * 4 + 2)
  have f3 := hs.free (2 + k * 4 + 3)
  subst hg
  have hb' : (bits BinOp.and IntKind.u32 s x != 0) = true := by simpa using hb
  go_enter Try.func10, Try.ntmps10
  go_wp2_with (go_at_call 26; refine (of_ok hs hk hx h).mono ?_; rintro e w' ⟨rfl, rfl⟩)
  go_ret2
  exact ⟨rfl, rfl⟩

set_option maxRecDepth 100000 in
set_option maxHeartbeats 1000000 in
theorem wait_yes {k : Nat} {m s t : Int} {g : Bool} (x : Int) (hs : IsEvt w b n l) (hk : k < n) (hx : l[k]? = some (m, s, t, g)) (h : (m == 0) = false) (hg : g = false) (hb : (bits BinOp.and IntKind.u32 s x == 0) = true) : Calls Try.prog 10 #[.pointer (some ⟨b, 0, none⟩), .int .i64 k, .int .u32 x] w fun e w' => e = .returned (.tuple #[.bool true, .int .i64 0]) ∧ IsEvt w' b n (l.set k (m, s, x, true)) ∧ Kept (fun i => i = b) w w' := by
  obtain ⟨e0, e1, e2, e3⟩ := hs.cells hx
  have f0 := hs.free (2 + k * 4)
  have f1 := hs.free (2 + k * 4 + 1)
  have f2 := hs.free (2 + k * 4 + 2)
  have f3 := hs.free (2 + k * 4 + 3)
  subst hg
  have hb' : (bits BinOp.and IntKind.u32 s x != 0) = false := by simpa using hb
  have hkl := (List.getElem?_eq_some_iff.1 hx).1
  have q1 := hs.put (k := k) (i := 3) (m, s, t, true) hx (by decide) (u := .bool true) rfl
  have q2 := q1.again (i := 2) (m, s, x, true) hkl (by decide) (u := .int .u32 x) rfl
  have kk2 := ((Kept.refl (fun i => i = b) w).setCell (p := ⟨b, 2 + k * 4 + 3, none⟩) (Or.inl rfl) (.bool true)).setCell (p := ⟨b, 2 + k * 4 + 2, none⟩) (Or.inl rfl) (.int .u32 x)
  go_enter Try.func10, Try.ntmps10
  go_wp2_with (go_at_call 26; refine (of_ok hs hk hx h).mono ?_; rintro e w' ⟨rfl, rfl⟩)
  go_ret2
  exact ⟨rfl, q2, kk2⟩

set_option maxRecDepth 100000 in
theorem set_id (i : Int) (x : Int) (hs : IsEvt w b n l) (h : has n i = false) : Calls Try.prog 8 #[.pointer (some ⟨b, 0, none⟩), .int .i64 i, .int .u32 x] w fun e w' => e = .returned (.tuple #[.bool false, .int .i64 3]) ∧ w = w' := by
  go_enter Try.func8, Try.ntmps8
  go_wp2_with (go_at_call 26; refine (of_id i hs h).mono ?_; rintro e w' ⟨rfl, rfl⟩)
  go_ret2
  exact ⟨rfl, rfl⟩

set_option maxRecDepth 100000 in
theorem set_acc (x : Int) (hs : IsEvt w b n l) {k : Nat} {a : Ev} (hk : k < n) (hx : l[k]? = some a) (h : a.1 = 0) : Calls Try.prog 8 #[.pointer (some ⟨b, 0, none⟩), .int .i64 k, .int .u32 x] w fun e w' => e = .returned (.tuple #[.bool false, .int .i64 1]) ∧ w = w' := by
  go_enter Try.func8, Try.ntmps8
  go_wp2_with (go_at_call 26; refine (of_acc hs hk hx h).mono ?_; rintro e w' ⟨rfl, rfl⟩)
  go_ret2
  exact ⟨rfl, rfl⟩

set_option maxRecDepth 100000 in
theorem clear_id (i : Int) (x : Int) (hs : IsEvt w b n l) (h : has n i = false) : Calls Try.prog 9 #[.pointer (some ⟨b, 0, none⟩), .int .i64 i, .int .u32 x] w fun e w' => e = .returned (.int .i64 3) ∧ w = w' := by
  go_enter Try.func9, Try.ntmps9
  go_wp2_with (go_at_call 26; refine (of_id i hs h).mono ?_; rintro e w' ⟨rfl, rfl⟩)
  go_ret
  exact ⟨rfl, rfl⟩

set_option maxRecDepth 100000 in
theorem clear_acc (x : Int) (hs : IsEvt w b n l) {k : Nat} {a : Ev} (hk : k < n) (hx : l[k]? = some a) (h : a.1 = 0) : Calls Try.prog 9 #[.pointer (some ⟨b, 0, none⟩), .int .i64 k, .int .u32 x] w fun e w' => e = .returned (.int .i64 1) ∧ w = w' := by
  go_enter Try.func9, Try.ntmps9
  go_wp2_with (go_at_call 26; refine (of_acc hs hk hx h).mono ?_; rintro e w' ⟨rfl, rfl⟩)
  go_ret
  exact ⟨rfl, rfl⟩

set_option maxRecDepth 100000 in
theorem get_id (i : Int) (hs : IsEvt w b n l) (h : has n i = false) : Calls Try.prog 12 #[.pointer (some ⟨b, 0, none⟩), .int .i64 i] w fun e w' => e = .returned (.tuple #[.int .u32 0, .int .i64 3]) ∧ w = w' := by
  go_enter Try.func12, Try.ntmps12
  go_wp2_with (go_at_call 26; refine (of_id i hs h).mono ?_; rintro e w' ⟨rfl, rfl⟩)
  go_ret2
  exact ⟨rfl, rfl⟩

set_option maxRecDepth 100000 in
theorem get_acc (hs : IsEvt w b n l) {k : Nat} {a : Ev} (hk : k < n) (hx : l[k]? = some a) (h : a.1 = 0) : Calls Try.prog 12 #[.pointer (some ⟨b, 0, none⟩), .int .i64 k] w fun e w' => e = .returned (.tuple #[.int .u32 0, .int .i64 1]) ∧ w = w' := by
  go_enter Try.func12, Try.ntmps12
  go_wp2_with (go_at_call 26; refine (of_acc hs hk hx h).mono ?_; rintro e w' ⟨rfl, rfl⟩)
  go_ret2
  exact ⟨rfl, rfl⟩

set_option maxRecDepth 100000 in
theorem wait_id (i : Int) (x : Int) (hs : IsEvt w b n l) (h : has n i = false) : Calls Try.prog 10 #[.pointer (some ⟨b, 0, none⟩), .int .i64 i, .int .u32 x] w fun e w' => e = .returned (.tuple #[.bool false, .int .i64 3]) ∧ w = w' := by
  go_enter Try.func10, Try.ntmps10
  go_wp2_with (go_at_call 26; refine (of_id i hs h).mono ?_; rintro e w' ⟨rfl, rfl⟩)
  go_ret2
  exact ⟨rfl, rfl⟩

set_option maxRecDepth 100000 in
theorem wait_acc (x : Int) (hs : IsEvt w b n l) {k : Nat} {a : Ev} (hk : k < n) (hx : l[k]? = some a) (h : a.1 = 0) : Calls Try.prog 10 #[.pointer (some ⟨b, 0, none⟩), .int .i64 k, .int .u32 x] w fun e w' => e = .returned (.tuple #[.bool false, .int .i64 1]) ∧ w = w' := by
  go_enter Try.func10, Try.ntmps10
  go_wp2_with (go_at_call 26; refine (of_acc hs hk hx h).mono ?_; rintro e w' ⟨rfl, rfl⟩)
  go_ret2
  exact ⟨rfl, rfl⟩

set_option maxRecDepth 100000 in
theorem waits_id (i : Int) (hs : IsEvt w b n l) (h : has n i = false) : Calls Try.prog 13 #[.pointer (some ⟨b, 0, none⟩), .int .i64 i] w fun e w' => e = .returned (.int .u32 0) ∧ w = w' := by
  go_enter Try.func13, Try.ntmps13
  go_wp2_with (go_at_call 26; refine (of_id i hs h).mono ?_; rintro e w' ⟨rfl, rfl⟩)
  go_ret
  exact ⟨rfl, rfl⟩

set_option maxRecDepth 100000 in
theorem waits_acc (hs : IsEvt w b n l) {k : Nat} {a : Ev} (hk : k < n) (hx : l[k]? = some a) (h : a.1 = 0) : Calls Try.prog 13 #[.pointer (some ⟨b, 0, none⟩), .int .i64 k] w fun e w' => e = .returned (.int .u32 0) ∧ w = w' := by
  go_enter Try.func13, Try.ntmps13
  go_wp2_with (go_at_call 26; refine (of_acc hs hk hx h).mono ?_; rintro e w' ⟨rfl, rfl⟩)
  go_ret
  exact ⟨rfl, rfl⟩

set_option maxRecDepth 100000 in
set_option maxHeartbeats 1000000 in
theorem fresh_ok {k : Nat} {m s t : Int} {g : Bool} (hs : IsEvt w b n l) (hk : k < n) (hx : l[k]? = some (m, s, t, g)) (h : (m == 0) = false) : Calls Try.prog 11 #[.pointer (some ⟨b, 0, none⟩), .int .i64 k] w fun e w' => e = .returned (.int .i64 0) ∧ IsEvt w' b n (l.set k (m, 0, 0, false)) ∧ Kept (fun i => i = b) w w' := by
  obtain ⟨e0, e1, e2, e3⟩ := hs.cells hx
  have f0 := hs.free (2 + k * 4)
  have f1 := hs.free (2 + k * 4 + 1)
  have f2 := hs.free (2 + k * 4 + 2)
  have f3 := hs.free (2 + k * 4 + 3)
  have hkl := (List.getElem?_eq_some_iff.1 hx).1
  have q3 := fun nq => (((((hs.drewN nq).put (i := 0) (m, s, t, g) hx (by decide) (u := .int .u32 m) rfl).again (i := 1) (m, 0, t, g) hkl (by decide) (u := .int .u32 0) rfl).again (i := 2) (m, 0, 0, g) hkl (by decide) (u := .int .u32 0) rfl).again (i := 3) (m, 0, 0, false) hkl (by decide) (u := .bool false) rfl)
  have kk := fun nq => (((((Kept.refl (fun i => i = b) w).drewN nq).setCell (p := ⟨b, 2 + k * 4, none⟩) (Or.inl rfl) (.int .u32 m)).setCell (p := ⟨b, 2 + k * 4 + 1, none⟩) (Or.inl rfl) (.int .u32 0)).setCell (p := ⟨b, 2 + k * 4 + 2, none⟩) (Or.inl rfl) (.int .u32 0)).setCell (p := ⟨b, 2 + k * 4 + 3, none⟩) (Or.inl rfl) (.bool false)
  have Q3 := Lib.hid q3
  have KK := Lib.hid kk
  clear q3 kk
  by_cases z1 : s = 0
  · subst z1
    by_cases z2 : t = 0
    · subst z2
      cases g with
      | false =>
        have e : l.set k (m, 0, 0, false) = l := by
          apply List.ext_getElem?
          intro i
          rw [List.getElem?_set]
          split
          · rename_i hi; subst hi; first | rw [hx] | rw [if_pos hkl, hx]
          · rfl
        rw [e]
        have h00 : ((0 : Int) == 0) = true := rfl
        go_enter Try.func11, Try.ntmps11
        go_wp2_with (go_at_call 26; refine (of_ok hs hk hx h).mono ?_; rintro e w' ⟨rfl, rfl⟩)
        go_quiet (fail)
        go_wp2
        go_ret
        exact ⟨rfl, hs.drewN _, (Kept.refl _ w).drewN _⟩
      | true =>
        go_enter Try.func11, Try.ntmps11
        go_wp2_with (go_at_call 26; refine (of_ok hs hk hx h).mono ?_; rintro e w' ⟨rfl, rfl⟩)
        go_quiet (fail)
        go_wp2
        go_ret
        exact ⟨rfl, Q3.out _, KK.out _⟩
    · have z2' : (t == 0) = false := by simpa using z2
      go_enter Try.func11, Try.ntmps11
      go_wp2_with (go_at_call 26; refine (of_ok hs hk hx h).mono ?_; rintro e w' ⟨rfl, rfl⟩)
      go_quiet (fail)
      go_wp2
      go_ret
      exact ⟨rfl, Q3.out _, KK.out _⟩
  · have z1' : (s == 0) = false := by simpa using z1
    go_enter Try.func11, Try.ntmps11
    go_wp2_with (go_at_call 26; refine (of_ok hs hk hx h).mono ?_; rintro e w' ⟨rfl, rfl⟩)
    go_quiet (fail)
    go_wp2
    go_ret
    exact ⟨rfl, Q3.out _, KK.out _⟩
theorem fresh_id (i : Int) (hs : IsEvt w b n l) (h : has n i = false) : Calls Try.prog 11 #[.pointer (some ⟨b, 0, none⟩), .int .i64 i] w fun e w' => e = .returned (.int .i64 3) ∧ ∃ q, w' = w.drewN q := by
  go_enter Try.func11, Try.ntmps11
  go_wp2_with (go_at_call 26; refine (of_id i hs h).mono ?_; rintro e w' ⟨rfl, rfl⟩)
  go_quiet (fail)
  go_wp2
  go_ret
  exact ⟨rfl, _, rfl⟩
theorem fresh_acc {k : Nat} {a : Ev} (hs : IsEvt w b n l) (hk : k < n) (hx : l[k]? = some a) (h : a.1 = 0) : Calls Try.prog 11 #[.pointer (some ⟨b, 0, none⟩), .int .i64 k] w fun e w' => e = .returned (.int .i64 1) ∧ ∃ q, w' = w.drewN q := by
  go_enter Try.func11, Try.ntmps11
  go_wp2_with (go_at_call 26; refine (of_acc hs hk hx h).mono ?_; rintro e w' ⟨rfl, rfl⟩)
  go_quiet (fail)
  go_wp2
  go_ret
  exact ⟨rfl, _, rfl⟩

def fr (a : Ev) : Ev := if a.1 = 0 then a else (a.1, 0, 0, false)
theorem fr_at {l : List Ev} {k : Nat} {a : Ev} (hx : l[k]? = some a) : ((l.take k).map fr ++ l.drop k)[k]? = some a := by
  have hk := (List.getElem?_eq_some_iff.1 hx).1
  rw [List.getElem?_append_right (by simp; omega)]
  simp [Nat.min_eq_left (Nat.le_of_lt hk), hx]
theorem fr_step {l : List Ev} {k : Nat} {a : Ev} (hx : l[k]? = some a) : ((l.take k).map fr ++ l.drop k).set k (fr a) = (l.take (k + 1)).map fr ++ l.drop (k + 1) := by
  have hk := (List.getElem?_eq_some_iff.1 hx).1
  rw [List.set_append_right _ _ (by simp; omega)]
  have e : k - (List.map fr (List.take k l)).length = 0 := by simp; omega
  have ea : l[k] = a := (List.getElem?_eq_some_iff.1 hx).2
  rw [e, List.drop_eq_getElem_cons hk, List.set_cons_zero, List.take_add_one, hx]
  simp
theorem set_same {α : Type} {l : List α} {k : Nat} {a : α} (hx : l[k]? = some a) : l.set k a = l := by
  have hkl := (List.getElem?_eq_some_iff.1 hx).1
  apply List.ext_getElem?
  intro i
  rw [List.getElem?_set]
  split
  · rename_i hi; subst hi; first | rw [hx] | rw [if_pos hkl, hx]
  · rfl

set_option maxRecDepth 100000 in
set_option maxHeartbeats 1000000 in
theorem reset_ok (hs : IsEvt w b n l) : Calls Try.prog 21 #[.pointer (some ⟨b, 0, none⟩)] w fun e w' => e = .returned (.int .i64 0) ∧ IsEvt w' b n (l.map fr) ∧ Kept (fun i => i = b) w w' := by
  have c0 := hs.blk.cell 0 rfl
  have c1 := hs.blk.cell 1 rfl
  have hn := hs.n256
  go_enter Try.func21, Try.ntmps21
  go_wp2
  have H0 : Hid (IsEvt w b n l) := hs
  have HL := Lib.hid hs.len
  clear hs c0 c1
  go_loopw [17] (fun i wr => ∃ k : Nat, k ≤ n ∧ i = .int .i64 k ∧ IsEvt wr b n ((l.take k).map fr ++ l.drop k) ∧ Kept (fun i => i = b) w wr) (fun i _ => n - (intOf i).toNat)
  case atStart => exact ⟨0, Nat.zero_le _, rfl, by simpa using H0.out, Kept.refl _ _⟩
  case round =>
    obtain ⟨k, hk, rfl, hE, hK⟩ := hrel
    clear H0
    by_cases hkn : k < n
    · obtain ⟨a, ha⟩ : ∃ a, l[k]? = some a := ⟨_, List.getElem?_eq_getElem (by rw [HL.out]; exact hkn)⟩
      have hat := fr_at ha
      have hst := fr_step ha
      obtain ⟨L, hL⟩ : ∃ L, (l.take k).map fr ++ l.drop k = L := ⟨_, rfl⟩
      rw [hL] at hE hat hst
      have Hst := Lib.hid hst
      have Hat := Lib.hid hat
      clear hL hst hat ha
      have hk1 : (k : Int) < (n : Int) := by omega
      by_cases hm : a.1 = 0
      · have hfr : fr a = a := by unfold fr; rw [if_pos hm]
        have Hfr := Lib.hid hfr
        clear hfr
        go_wp2_with (go_at_call 11; refine (fresh_acc hE hkn Hat.out hm).mono ?_; rintro e w' ⟨rfl, q, rfl⟩)
        go_roundw
        case rel => exact ⟨k + 1, by omega, by go_num, by rw [← Hst.out, Hfr.out, set_same Hat.out]; exact hE.drewN _, hK.drewN _⟩
        case measure => simp [intOf]; omega
      · obtain ⟨m, s, t, g⟩ := a
        have hm' : (m == 0) = false := by simpa using hm
        have hfr : fr (m, s, t, g) = (m, 0, 0, false) := by unfold fr; rw [if_neg hm]
        have Hfr := Lib.hid hfr
        clear hfr
        go_wp2_with (go_at_call 11; refine (fresh_ok hE hkn Hat.out hm').mono ?_; rintro e w' ⟨rfl, h1, k1⟩)
        go_roundw
        case rel => exact ⟨k + 1, by omega, by go_num, by rw [← Hst.out, Hfr.out]; exact h1, hK.then k1 (fun _ h => Or.inl h)⟩
        case measure => simp [intOf]; omega
    · obtain rfl : k = n := by omega
      have e : (l.take k).map fr ++ l.drop k = l.map fr := by rw [← HL.out, List.take_length, List.drop_length, List.append_nil]
      rw [e] at hE
      clear e
      go_wp2
      go_ret
      exact ⟨rfl, hE, hK⟩
end
end Go.Proofs.Ytmljnhhjjaibbaa.EV
