/- Package clock: Rel, Abs, Set. -/
import Derived.Test.YtemhfonneggneaaMem
import Derived.Test.YtemhfonneggneaaKcSum
/- Package clock: a clock that New made, its alarms a list of (set, left, cycle). -/
namespace Go.Proofs.Ytemhfonneggneaa.CK
open Go.RowKit Go.Fr

def encA (a : Bool × Nat × Nat) : List Value := [.bool a.1, .int .u64 a.2.1, .int .u32 a.2.2]
theorem encA_len (a : Bool × Nat × Nat) : (encA a).length = 3 := rfl

/-- a clock's numbers, and its alarms' -/
structure Fine (most least value : Nat) (l : List (Bool × Nat × Nat)) : Prop where
  hmost : most ≤ 2147483647
  hleast : 1 ≤ least ∧ least ≤ most
  hvalue : value ≤ most
  hlen : l.length ≤ 64
  hleft : ∀ a ∈ l, a.2.1 ≤ 4294967296
  hcycle : ∀ a ∈ l, a.2.2 ≤ most
  hset : ∀ a ∈ l, a.1 = true → 1 ≤ a.2.1

/-- block b is a clock -/
def IsClk (w : World) (b : Nat) (v : Value) (most least value : Nat) (l : List (Bool × Nat × Nat)) : Prop :=
  Blk w b [.bool true, .int .u32 most, .int .u32 least, .int .u32 value, v] 138 ∧ Row w 142 3 v l.length (l.flatMap encA) ∧ v.ownBlock ≠ some b ∧ Fine most least value l

def foot (b : Nat) (v : Value) : Nat → Prop := fun k => k = b ∨ v.ownBlock = some k

theorem IsClk.kept {w w' : World} {b : Nat} {v : Value} {m n x : Nat} {l : List (Bool × Nat × Nat)} {S : Nat → Prop} (hs : IsClk w b v m n x l) (k : Kept S w w') (hn : ∀ i, foot b v i → ¬ S i) : IsClk w' b v m n x l :=
  ⟨hs.1.kept k (hn _ (Or.inl rfl)), row_kept hs.2.1 k (fun _ hg => hn _ (Or.inr hg)), hs.2.2⟩
theorem IsClk.lt {w : World} {b : Nat} {v : Value} {m n x : Nat} {l : List (Bool × Nat × Nat)} (hs : IsClk w b v m n x l) : ∀ i, foot b v i → i < w.heap.size := by
  rintro i (rfl | hi)
  · exact hs.1.lt
  · exact row_lt hs.2.1 hi

theorem info_a : (Try.prog.info? 142).map (fun i => (i.zero, i.size, i.bytes)) = some (some (.agg #[.bool false, .int .u64 0, .int .u32 0]), 3, 24) := by kernel_rfl

set_option maxRecDepth 100000 in
theorem new_ok (nm : ByteArray) (mx bs mn n : Nat) (w : World) (h1 : 1 ≤ mx ∧ mx ≤ 2147483647) (h2 : 1 ≤ mn ∧ mn ≤ mx) (_ : bs ≤ 4294967295) (h3 : n ≤ 64) :
    Calls Try.prog 28 #[.agg #[.string nm, .int .u32 mx, .int .u32 bs, .int .u32 mn], .int .i64 n] w fun e w' =>
      ∃ b v, e = .returned (.tuple #[.pointer (some ⟨b, 0, none⟩), .int .i64 0]) ∧ IsClk w' b v mx mn 0 (List.replicate n (false, 0, 0)) ∧ (∀ i, foot b v i → w.heap.size ≤ i) ∧ Kept (fun _ => False) w w' := by
  obtain ⟨i0, hi, hz0, hz1, hz2⟩ := info_parts info_a
  have hmk : ∀ w, (Instr.makeSlice 136 (.int .i64 (n : Int)) (.int .i64 (n : Int))).run Try.prog w = .ok (.slice (some ⟨w.heap.size, 0, none⟩) n n) (w.alloc (.cells ((List.replicate n (false, 0, 0)).flatMap encA).toArray 142)) :=
    fun w => run_make_flat encA_len (by decide) (false, 0, 0) _ _ i0 _ Try.underlying136 hi hz0 hz1 rfl .i64 .i64 n (by rw [hz2]; omega) (by omega) w
  have bx := Blk.new w [.string nm, .int .u32 mx, .int .u32 bs, .int .u32 mn] 91
  have c1 := bx.cell 1 rfl
  have c3 := bx.cell 3 rfl
  go_enter Try.func28, Try.ntmps28
  go_wp2
  refine wp_region_noPanic ?_
  go_region_held3 (fun w' => w'.cell? ⟨w.heap.size, 1, none⟩ = some (.int .u32 mx) ∧ w'.cell? ⟨w.heap.size, 3, none⟩ = some (.int .u32 mn))
    (first
      | (simp [*, World.cell?_alloc_some]; done)
      | fail)
    (fail)
  refine NoPanic.normal ?_
  go_wp2
  go_ret2
  have hx : ((List.replicate n (false, 0, 0)).flatMap encA).length = n * 3 := by rw [flat_length encA_len]; simp
  refine ⟨w.heap.size + 1 + 1, .slice (some ⟨w.heap.size + 1, 0, none⟩) n n, rfl, ⟨?_, ?_, ?_, ?_⟩, ?_, ?_⟩
  · have h := Blk.new ((w.alloc (.cells #[.string nm, .int .u32 mx, .int .u32 bs, .int .u32 mn] 91)).alloc (.cells ((List.replicate n (false, 0, 0)).flatMap encA).toArray 142)) [.bool true, .int .u32 mx, .int .u32 mn, .int .u32 0, .slice (some ⟨w.heap.size + 1, 0, none⟩) n n] 138
    rw [World.size_alloc, World.size_alloc] at h
    exact h
  · have h := row_new (w.alloc (.cells #[.string nm, .int .u32 mx, .int .u32 bs, .int .u32 mn] 91)) 142 3 n _ hx (by unfold maxLen; omega)
    rw [World.size_alloc] at h
    rw [List.length_replicate]
    exact row_alloc h _
  · simp [Value.ownBlock]
  · refine ⟨h1.2, h2, Nat.zero_le _, by simpa using h3, ?_, ?_, ?_⟩ <;> (intro a ha; obtain rfl := List.eq_of_mem_replicate ha; simp)
  · rintro i (rfl | h)
    · omega
    · simp [Value.ownBlock] at h; omega
  · exact (((Kept.refl _ w).alloc _).alloc _).alloc _ |>.drew

set_option maxRecDepth 100000 in
theorem new_no (nm : ByteArray) (mx bs mn n : Int) (w : World) (h : mx < 1 ∨ 2147483647 < mx ∨ mn < 1 ∨ mx < mn ∨ n < 0 ∨ 64 < n) :
    Calls Try.prog 28 #[.agg #[.string nm, .int .u32 mx, .int .u32 bs, .int .u32 mn], .int .i64 n] w fun e w' =>
      e = .returned (.tuple #[.pointer none, .int .i64 160]) ∧ Kept (fun _ => False) w w' := by
  have bx := Blk.new w [.string nm, .int .u32 mx, .int .u32 bs, .int .u32 mn] 91
  have c1 := bx.cell 1 rfl
  have c3 := bx.cell 3 rfl
  by_cases a0 : mx < 1
  · go_enter Try.func28, Try.ntmps28
    go_wp2
    go_ret2
    exact ⟨rfl, (Kept.refl _ w).alloc _⟩
  by_cases a1 : 2147483647 < mx
  · go_enter Try.func28, Try.ntmps28
    go_wp2
    go_ret2
    exact ⟨rfl, (Kept.refl _ w).alloc _⟩
  by_cases a2 : mn < 1
  · go_enter Try.func28, Try.ntmps28
    go_wp2
    go_ret2
    exact ⟨rfl, (Kept.refl _ w).alloc _⟩
  by_cases a3 : mx < mn
  · go_enter Try.func28, Try.ntmps28
    go_wp2
    go_ret2
    exact ⟨rfl, (Kept.refl _ w).alloc _⟩
  by_cases a4 : n < 0
  · go_enter Try.func28, Try.ntmps28
    go_wp2
    go_ret2
    exact ⟨rfl, (Kept.refl _ w).alloc _⟩
  by_cases a5 : 64 < n
  · go_enter Try.func28, Try.ntmps28
    go_wp2
    go_ret2
    exact ⟨rfl, (Kept.refl _ w).alloc _⟩
  exact absurd h (by omega)

section
variable {w : World} {b : Nat} {v : Value} {m n x : Nat} {l : List (Bool × Nat × Nat)}

set_option maxRecDepth 100000 in
theorem alive_ok (hs : IsClk w b v m n x l) : Calls Try.prog 61 #[.pointer (some ⟨b, 0, none⟩)] w fun e w' => e = .returned (.bool true) ∧ w = w' := by
  have c0 := hs.1.cell 0 rfl
  go_enter Try.func61, Try.ntmps61
  go_wp2
  go_ret
  exact ⟨rfl, rfl⟩

set_option maxRecDepth 100000 in
theorem value_ok (hs : IsClk w b v m n x l) : Calls Try.prog 55 #[.pointer (some ⟨b, 0, none⟩)] w fun e w' => e = .returned (.int .u32 x) ∧ w = w' := by
  have c0 := hs.1.cell 0 rfl
  have c3 := hs.1.cell 3 rfl
  go_enter Try.func55, Try.ntmps55
  go_wp2
  go_ret
  exact ⟨rfl, rfl⟩

set_option maxRecDepth 100000 in
theorem has_ok (i : Int) (hs : IsClk w b v m n x l) : Calls Try.prog 86 #[.pointer (some ⟨b, 0, none⟩), .int .i64 i] w fun e w' => e = .returned (.bool (decide (0 ≤ i) && decide (i < l.length))) ∧ w = w' := by
  have c0 := hs.1.cell 0 rfl
  have c4 := hs.1.cell 4 rfl
  obtain ⟨ao, c, rfl, hc⟩ := row_any hs.2.1
  by_cases h : 0 ≤ i
  · go_enter Try.func86, Try.ntmps86
    go_wp2
    go_ret
    refine ⟨?_, rfl⟩
    simp [h]
  · go_enter Try.func86, Try.ntmps86
    go_wp2
    go_ret
    refine ⟨?_, rfl⟩
    simp; omega

set_option maxRecDepth 100000 in
theorem cyclic_ok (cy : Nat) (hs : IsClk w b v m n x l) : Calls Try.prog 65 #[.pointer (some ⟨b, 0, none⟩), .int .u32 cy] w fun e w' => e = .returned (.bool (decide (cy = 0) || (decide (n ≤ cy) && decide (cy ≤ m)))) ∧ w = w' := by
  have c1 := hs.1.cell 1 rfl
  have c2 := hs.1.cell 2 rfl
  by_cases h0 : cy = 0
  · subst h0
    go_enter Try.func65, Try.ntmps65
    go_wp2
    go_ret
    exact ⟨by simp, rfl⟩
  · by_cases h1 : n ≤ cy
    · go_enter Try.func65, Try.ntmps65
      go_wp2
      go_ret
      exact ⟨by simp [h0, h1], rfl⟩
    · go_enter Try.func65, Try.ntmps65
      go_wp2
      go_ret
      exact ⟨by simp [h0, h1], rfl⟩

/-- how an alarm stands, and the status -/
def ofA (l : List (Bool × Nat × Nat)) (i : Int) : Bool × Nat × Nat :=
  if 0 ≤ i then (match l[i.toNat]? with | some a => if a.1 then a else (false, 0, 0) | none => (false, 0, 0)) else (false, 0, 0)
def ofS (l : List (Bool × Nat × Nat)) (i : Int) : Int :=
  if 0 ≤ i then (match l[i.toNat]? with | some a => if a.1 then 0 else 5 | none => 3) else 3

theorem of_no {l : List (Bool × Nat × Nat)} {i : Int} (h : (decide (0 ≤ i) && decide (i < l.length)) = false) : ofA l i = (false, 0, 0) ∧ ofS l i = 3 := by
  unfold ofA ofS
  by_cases h0 : 0 ≤ i
  · have h1 : l.length ≤ i.toNat := by simp [h0] at h; omega
    rw [if_pos h0, if_pos h0, List.getElem?_eq_none h1]; exact ⟨rfl, rfl⟩
  · rw [if_neg h0, if_neg h0]; exact ⟨rfl, rfl⟩
theorem of_at {l : List (Bool × Nat × Nat)} {k : Nat} {a : Bool × Nat × Nat} (h : l[k]? = some a) : ofA l k = (if a.1 then a else (false, 0, 0)) ∧ ofS l k = (if a.1 then 0 else 5) := by
  have h0 : (0 : Int) ≤ (k : Int) := Int.natCast_nonneg _
  unfold ofA ofS
  rw [if_pos h0, if_pos h0, Int.toNat_natCast, h]
  exact ⟨rfl, rfl⟩
/-- where an alarm is -/
theorem at_of {l : List (Bool × Nat × Nat)} {i : Int} (h : (decide (0 ≤ i) && decide (i < l.length)) = true) : ∃ (k : Nat) (a : Bool × Nat × Nat), i = k ∧ k < l.length ∧ l[k]? = some a := by
  simp at h
  obtain ⟨k, rfl⟩ := Int.eq_ofNat_of_zero_le h.1
  exact ⟨k, _, rfl, by omega, List.getElem?_eq_getElem (by omega)⟩

theorem IsClk.alarm (hs : IsClk w b v m n x l) {k : Nat} {s : Bool} {lf cy : Nat} (h : l[k]? = some (s, lf, cy)) : ∃ g c, v = .slice (some ⟨g, 0, none⟩) l.length c ∧ g ≠ b ∧ g < w.heap.size ∧
    w.cell? ⟨g, k * 3, none⟩ = some (.bool s) ∧ w.cell? ⟨g, k * 3 + 1, none⟩ = some (.int .u64 lf) ∧ w.cell? ⟨g, k * 3 + 2, none⟩ = some (.int .u32 cy) := by
  have hr := hs.2.1
  have hk := (List.getElem?_eq_some_iff.1 h).1
  rcases row_forms hr with ⟨_, h0⟩ | ⟨g, c, rfl, _, _, hg⟩
  · omega
  · refine ⟨g, c, rfl, fun e => hs.2.2.1 (by rw [← e]; rfl), hg, ?_, ?_, ?_⟩
    · exact rows_cell (i := 0) encA_len hr h rfl
    · exact rows_cell (i := 1) encA_len hr h rfl
    · exact rows_cell (i := 2) encA_len hr h rfl

set_option maxRecDepth 100000 in
theorem of_ok (i : Int) (hs : IsClk w b v m n x l) : Calls Try.prog 70 #[.pointer (some ⟨b, 0, none⟩), .int .i64 i] w fun e w' =>
    e = .returned (.tuple #[.agg (encA (ofA l i)).toArray, .int .i64 (ofS l i)]) ∧ Kept (fun _ => False) w w' := by
  cases hh : (decide (0 ≤ i) && decide (i < l.length)) with
  | false =>
    obtain ⟨e1, e2⟩ := of_no hh
    rw [e1, e2]
    have hs0 := hs.kept ((Kept.refl (fun _ => False) w).alloc (.cells #[.bool false, .int .u64 0, .int .u32 0] 142)) (fun _ _ h => h)
    have hhas := has_ok i hs0
    rw [hh] at hhas
    go_enter Try.func70, Try.ntmps70
    go_wp2_with (go_at_call 86; refine hhas.mono ?_; rintro e w' ⟨rfl, rfl⟩)
    refine bodyPost_ret (v := .tuple #[.agg #[.bool false, .int .u64 0, .int .u32 0], .int .i64 3]) (by rw [results_cell_tmp rfl]; go_simp) rfl ⟨rfl, (Kept.refl _ w).alloc _⟩
  | true =>
    obtain ⟨k, ⟨s, lf, cy⟩, rfl, hk, hx⟩ := at_of hh
    obtain ⟨e1, e2⟩ := of_at hx
    rw [e1, e2]
    have hs0 := hs.kept ((Kept.refl (fun _ => False) w).alloc (.cells #[.bool false, .int .u64 0, .int .u32 0] 142)) (fun _ _ h => h)
    have hhas := has_ok k hs0
    rw [hh] at hhas
    obtain ⟨g, c, rfl, hgb, hg, d0, d1, d2⟩ := hs0.alarm hx
    have c4 := hs0.1.cell 4 rfl
    have hk0 : (0 : Int) ≤ (k : Int) := Int.natCast_nonneg _
    have hk1 : (k : Int) < (l.length : Int) := by omega
    cases s with
    | false =>
      go_enter Try.func70, Try.ntmps70
      go_wp2_with (go_at_call 86; refine hhas.mono ?_; rintro e w' ⟨rfl, rfl⟩)
      refine bodyPost_ret (v := .tuple #[.agg #[.bool false, .int .u64 0, .int .u32 0], .int .i64 5]) (by rw [results_cell_tmp rfl]; go_simp) rfl ⟨rfl, (Kept.refl _ w).alloc _⟩
    | true =>
      go_enter Try.func70, Try.ntmps70
      go_wp2_with (go_at_call 86; refine hhas.mono ?_; rintro e w' ⟨rfl, rfl⟩)
      refine bodyPost_ret (v := .tuple #[.agg #[.bool true, .int .u64 lf, .int .u32 cy], .int .i64 0]) (by rw [results_cell_tmp rfl]; go_simp) rfl ⟨rfl, (Kept.refl _ w).alloc _⟩

set_option maxRecDepth 100000 in
theorem left_ok (i : Int) (hs : IsClk w b v m n x l) : Calls Try.prog 35 #[.pointer (some ⟨b, 0, none⟩), .int .i64 i] w fun e w' =>
    e = .returned (.tuple #[.int .u64 (ofA l i).2.1, .int .i64 (ofS l i)]) ∧ Kept (fun _ => False) w w' := by
  obtain ⟨s, lf, cy, ha⟩ : ∃ s lf cy, ofA l i = (s, lf, cy) := ⟨_, _, _, rfl⟩
  have hof := of_ok i hs
  rw [ha] at hof ⊢
  simp only [encA] at hof
  go_enter Try.func35, Try.ntmps35
  go_wp2_with fail
  refine hof.mono ?_
  rintro e w1 ⟨rfl, k1⟩
  go_wp2_with fail
  go_ret2
  exact ⟨rfl, k1.alloc _⟩

set_option maxRecDepth 100000 in
theorem cycle_ok (i : Int) (hs : IsClk w b v m n x l) : Calls Try.prog 78 #[.pointer (some ⟨b, 0, none⟩), .int .i64 i] w fun e w' =>
    e = .returned (.tuple #[.int .u32 (ofA l i).2.2, .int .i64 (ofS l i)]) ∧ Kept (fun _ => False) w w' := by
  obtain ⟨s, lf, cy, ha⟩ : ∃ s lf cy, ofA l i = (s, lf, cy) := ⟨_, _, _, rfl⟩
  have hof := of_ok i hs
  rw [ha] at hof ⊢
  simp only [encA] at hof
  go_enter Try.func78, Try.ntmps78
  go_wp2_with fail
  refine hof.mono ?_
  rintro e w1 ⟨rfl, k1⟩
  go_wp2_with fail
  go_ret2
  exact ⟨rfl, k1.alloc _⟩
set_option maxRecDepth 100000 in
theorem cancel_no (i : Int) (hs : IsClk w b v m n x l) (h : ¬ ofS l i = 0) : Calls Try.prog 34 #[.pointer (some ⟨b, 0, none⟩), .int .i64 i] w fun e w' =>
    e = .returned (.int .i64 (ofS l i)) ∧ Kept (fun _ => False) w w' := by
  obtain ⟨s, lf, cy, ha⟩ : ∃ s lf cy, ofA l i = (s, lf, cy) := ⟨_, _, _, rfl⟩
  have hof := of_ok i hs
  rw [ha] at hof
  simp only [encA] at hof
  go_enter Try.func34, Try.ntmps34
  go_wp2_with fail
  refine hof.mono ?_
  rintro e w1 ⟨rfl, k1⟩
  go_wp2_with fail
  go_ret
  exact ⟨rfl, k1.alloc _⟩

/-- an alarm is written -/
theorem IsClk.write {g c k : Nat} {s s' : Bool} {lf cy lf' cy' : Nat} (hs : IsClk w b (.slice (some ⟨g, 0, none⟩) l.length c) m n x l) (h : l[k]? = some (s, lf, cy)) (h1 : lf' ≤ 4294967296) (h2 : cy' ≤ m) (h3 : s' = true → 1 ≤ lf') :
    IsClk (((w.setCell ⟨g, k * 3, none⟩ (.bool s')).setCell ⟨g, k * 3 + 1, none⟩ (.int .u64 lf')).setCell ⟨g, k * 3 + 2, none⟩ (.int .u32 cy')) b (.slice (some ⟨g, 0, none⟩) l.length c) m n x (l.set k (s', lf', cy')) := by
  obtain ⟨hb, hr, ho, hf⟩ := hs
  have hg : g ≠ b := fun e => ho (by rw [← e]; rfl)
  have hk := (List.getElem?_eq_some_iff.1 h).1
  have q0 := rows_set (i := 0) encA_len hr (x := (s, lf, cy)) (s', lf, cy) h (by decide) (u := .bool s') rfl
  have q1 := rows_set (l := l.set k (s', lf, cy)) (i := 1) encA_len q0 (x := (s', lf, cy)) (s', lf', cy) (by rw [List.getElem?_set_self hk]) (by decide) (u := .int .u64 lf') rfl
  have q2 := rows_set (l := (l.set k (s', lf, cy)).set k (s', lf', cy)) (i := 2) encA_len q1 (x := (s', lf', cy)) (s', lf', cy') (by rw [List.getElem?_set_self (by simpa using hk)]) (by decide) (u := .int .u32 cy') rfl
  rw [List.set_set, List.set_set] at q2
  refine ⟨((hb.other hg _).other hg _).other hg _, by rw [List.length_set]; exact q2, ho, ⟨hf.hmost, hf.hleast, hf.hvalue, by rw [List.length_set]; exact hf.hlen, ?_, ?_, ?_⟩⟩
  all_goals
    intro a ha
    rcases List.mem_or_eq_of_mem_set ha with h' | rfl
  · exact hf.hleft a h'
  · exact h1
  · exact hf.hcycle a h'
  · exact h2
  · exact hf.hset a h'
  · exact h3

set_option maxRecDepth 100000 in
theorem cancel_ok {k : Nat} {lf cy : Nat} (hs : IsClk w b v m n x l) (h : l[k]? = some (true, lf, cy)) : Calls Try.prog 34 #[.pointer (some ⟨b, 0, none⟩), .int .i64 k] w fun e w' =>
    e = .returned (.int .i64 0) ∧ IsClk w' b v m n x (l.set k (false, 0, 0)) ∧ Kept (foot b v) w w' := by
  have hof := of_ok k hs
  obtain ⟨e1, e2⟩ := of_at h
  rw [e1, e2] at hof
  simp only [encA, if_true] at hof
  go_enter Try.func34, Try.ntmps34
  go_wp2_with fail
  refine hof.mono ?_
  rintro e w1 ⟨rfl, k1⟩
  have hs1 := (hs.kept k1 (fun _ _ h => h)).kept ((Kept.refl (fun _ => False) w1).alloc (.cells #[.bool true, .int .u64 lf, .int .u32 cy] 142)) (fun _ _ h => h)
  obtain ⟨g, c, rfl, hgb, hg, d0, d1, d2⟩ := hs1.alarm h
  have c4 := hs1.1.cell 4 rfl
  have hk0 : (0 : Int) ≤ (k : Int) := Int.natCast_nonneg _
  have hk1 : (k : Int) < (l.length : Int) := by have := (List.getElem?_eq_some_iff.1 h).1; omega
  have f0 := row_frozen hs1.2.1 (k * 3)
  have f1 := row_frozen hs1.2.1 (k * 3 + 1)
  have f2 := row_frozen hs1.2.1 (k * 3 + 2)
  go_wp2_with fail
  go_ret
  refine ⟨rfl, hs1.write (s' := false) (lf' := 0) (cy' := 0) h (by omega) (by omega) (by simp), ?_⟩
  exact (((((k1.mono (fun _ _ h => h.elim)).alloc _).setCell (p := ⟨g, k * 3, none⟩) (Or.inl (Or.inr rfl)) _).setCell (p := ⟨g, k * 3 + 1, none⟩) (Or.inl (Or.inr rfl)) _).setCell (p := ⟨g, k * 3 + 2, none⟩) (Or.inl (Or.inr rfl)) _)

end
end Go.Proofs.Ytemhfonneggneaa.CK
namespace Go.Proofs.Ytemhfonneggneaa.CK
open Go.RowKit Go.Fr

/-- may the cycle be -/
def cycB (n m cy : Nat) : Bool := decide (cy = 0) || (decide (n ≤ cy) && decide (cy ≤ m))

section
variable {w : World} {b : Nat} {v : Value} {m n x : Nat} {l : List (Bool × Nat × Nat)}

set_option maxRecDepth 100000 in
set_option maxHeartbeats 1000000 in
theorem rel1_ok {bt bc by' t cy : Nat} (hs : IsClk w b v m n x l) (ht : w.cell? ⟨bt, 0, none⟩ = some (.int .u32 t)) (hc : w.cell? ⟨bc, 0, none⟩ = some (.pointer (some ⟨b, 0, none⟩))) (hy : w.cell? ⟨by', 0, none⟩ = some (.int .u32 cy)) :
    Calls Try.prog 68 #[.pointer (some ⟨bt, 0, none⟩), .pointer (some ⟨bc, 0, none⟩), .pointer (some ⟨by', 0, none⟩)] w fun e w' =>
      e = .returned (.bool (decide (1 ≤ t) && decide (t ≤ m) && cycB n m cy)) ∧ ∃ k, w' = w.drewN k := by
  have c1 := hs.1.cell 1 rfl
  have hcy : ∀ k, Calls Try.prog 65 #[.pointer (some ⟨b, 0, none⟩), .int .u32 cy] (w.drewN k) fun e w' => e = .returned (.bool (cycB n m cy)) ∧ w' = w.drewN k := fun k => (cyclic_ok cy (w := w.drewN k) hs).mono (by rintro e w' ⟨rfl, rfl⟩; exact ⟨rfl, rfl⟩)
  by_cases h1 : 1 ≤ t
  · have d1 : decide ((1 : Int) ≤ (t : Int)) = true := by simp; omega
    by_cases h2 : t ≤ m
    · have d2 : decide ((t : Int) ≤ (m : Int)) = true := by simp; omega
      go_enter Try.func68, Try.ntmps68
      go_wp2
      go_quiet (first | (go_at_call 65; refine Calls.quiet_of_same (hcy _)))
      go_wp2
      go_ret
      exact ⟨by simp [h1, h2], _, rfl⟩
    · have d2 : decide ((t : Int) ≤ (m : Int)) = false := by simp; omega
      go_enter Try.func68, Try.ntmps68
      go_wp2
      go_quiet (first | (go_at_call 65; refine Calls.quiet_of_same (hcy _)))
      go_wp2
      go_ret
      exact ⟨by simp [h1, h2], _, rfl⟩
  · have d1 : decide ((1 : Int) ≤ (t : Int)) = false := by simp; omega
    go_enter Try.func68, Try.ntmps68
    go_wp2
    go_quiet (first | (go_at_call 65; refine Calls.quiet_of_same (hcy _)))
    go_wp2
    go_ret
    exact ⟨by simp [h1], _, rfl⟩

set_option maxRecDepth 100000 in
theorem rel2_ok {bt t : Nat} (h : t ≤ 4294967295) (ht : w.cell? ⟨bt, 0, none⟩ = some (.int .u32 t)) :
    Calls Try.prog 69 #[.pointer (some ⟨bt, 0, none⟩)] w fun e w' => e = .returned (.int .u64 t) ∧ w' = w := by
  go_enter Try.func69, Try.ntmps69
  go_wp2
  go_ret
  exact ⟨rfl, rfl⟩

set_option maxRecDepth 100000 in
theorem set2_ok {bt t : Nat} (h : t ≤ 4294967295) (ht : w.cell? ⟨bt, 0, none⟩ = some (.int .u32 t)) :
    Calls Try.prog 91 #[.pointer (some ⟨bt, 0, none⟩)] w fun e w' => e = .returned (.int .u64 t) ∧ w' = w := by
  go_enter Try.func91, Try.ntmps91
  go_wp2
  go_ret
  exact ⟨rfl, rfl⟩

set_option maxRecDepth 100000 in
set_option maxHeartbeats 1000000 in
theorem abs1_ok {bt bc by' t cy : Nat} (hs : IsClk w b v m n x l) (ht : w.cell? ⟨bt, 0, none⟩ = some (.int .u32 t)) (hc : w.cell? ⟨bc, 0, none⟩ = some (.pointer (some ⟨b, 0, none⟩))) (hy : w.cell? ⟨by', 0, none⟩ = some (.int .u32 cy)) :
    Calls Try.prog 64 #[.pointer (some ⟨bt, 0, none⟩), .pointer (some ⟨bc, 0, none⟩), .pointer (some ⟨by', 0, none⟩)] w fun e w' =>
      e = .returned (.bool (decide (t ≤ m) && cycB n m cy)) ∧ ∃ k, w' = w.drewN k := by
  have c1 := hs.1.cell 1 rfl
  have hcy : ∀ k, Calls Try.prog 65 #[.pointer (some ⟨b, 0, none⟩), .int .u32 cy] (w.drewN k) fun e w' => e = .returned (.bool (cycB n m cy)) ∧ w' = w.drewN k := fun k => (cyclic_ok cy (w := w.drewN k) hs).mono (by rintro e w' ⟨rfl, rfl⟩; exact ⟨rfl, rfl⟩)
  by_cases h2 : t ≤ m
  · have d2 : decide ((t : Int) ≤ (m : Int)) = true := by simp; omega
    go_enter Try.func64, Try.ntmps64
    go_wp2
    go_quiet (first | (go_at_call 65; refine Calls.quiet_of_same (hcy _)))
    go_wp2
    go_ret
    exact ⟨by simp [h2], _, rfl⟩
  · have d2 : decide ((t : Int) ≤ (m : Int)) = false := by simp; omega
    go_enter Try.func64, Try.ntmps64
    go_wp2
    go_quiet (first | (go_at_call 65; refine Calls.quiet_of_same (hcy _)))
    go_wp2
    go_ret
    exact ⟨by simp [h2], _, rfl⟩

set_option maxRecDepth 100000 in
set_option maxHeartbeats 1000000 in
theorem abs2_ok {bt bc t : Nat} (h : t ≤ 4294967295) (hs : IsClk w b v m n x l) (ht : w.cell? ⟨bt, 0, none⟩ = some (.int .u32 t)) (hc : w.cell? ⟨bc, 0, none⟩ = some (.pointer (some ⟨b, 0, none⟩))) :
    Calls Try.prog 66 #[.pointer (some ⟨bc, 0, none⟩), .pointer (some ⟨bt, 0, none⟩)] w fun e w' =>
      e = .returned (.int .u64 (until' m x t)) ∧ ∃ k, w' = w.drewN k := by
  have c1 := hs.1.cell 1 rfl
  have c3 := hs.1.cell 3 rfl
  have hm := hs.2.2.2.hmost
  have hx := hs.2.2.2.hvalue
  have hun : ∀ k, Calls Try.prog 67 #[.int .u32 m, .int .u32 x, .int .u32 t] (w.drewN k) fun e w' => e = .returned (.int .u64 (until' m x t)) ∧ w' = w.drewN k := fun k => (until_ok m x t (by omega) (by omega) (by omega) (w.drewN k)).mono (by rintro e w' ⟨rfl, rfl⟩; exact ⟨rfl, rfl⟩)
  go_enter Try.func66, Try.ntmps66
  go_wp2
  go_quiet (first | (go_at_call 67; refine Calls.quiet_of_same (hun _)))
  go_wp2
  go_ret
  exact ⟨rfl, _, rfl⟩

set_option maxRecDepth 100000 in
set_option maxHeartbeats 1000000 in
theorem set1_ok {bt bc by' t cy : Nat} (h : t ≤ 4294967295) (hs : IsClk w b v m n x l) (ht : w.cell? ⟨bt, 0, none⟩ = some (.int .u32 t)) (hc : w.cell? ⟨bc, 0, none⟩ = some (.pointer (some ⟨b, 0, none⟩))) (hy : w.cell? ⟨by', 0, none⟩ = some (.int .u32 cy)) :
    Calls Try.prog 90 #[.pointer (some ⟨bt, 0, none⟩), .pointer (some ⟨bc, 0, none⟩), .pointer (some ⟨by', 0, none⟩)] w fun e w' =>
      e = .returned (.bool (decide (1 ≤ t) && decide (t ≤ m + 1) && decide (cy ≤ m))) ∧ ∃ k, w' = w.drewN k := by
  have c1 := hs.1.cell 1 rfl
  have hm := hs.2.2.2.hmost
  have e1 : IntKind.u64.wrap ((m : Int) + 1) = (m : Int) + 1 := IntWalk.u64_in _ (by omega)
  by_cases h1 : 1 ≤ t
  · have d1 : decide ((1 : Int) ≤ (t : Int)) = true := by simp; omega
    by_cases h2 : t ≤ m + 1
    · have d2 : decide ((t : Int) ≤ (m : Int) + 1) = true := by simp; omega
      go_enter Try.func90, Try.ntmps90
      go_wp2
      go_quiet (fail)
      go_wp2
      go_ret
      exact ⟨by simp [h1, h2], _, rfl⟩
    · have d2 : decide ((t : Int) ≤ (m : Int) + 1) = false := by simp; omega
      go_enter Try.func90, Try.ntmps90
      go_wp2
      go_quiet (fail)
      go_wp2
      go_ret
      exact ⟨by simp [h1, h2], _, rfl⟩
  · have d1 : decide ((1 : Int) ≤ (t : Int)) = false := by simp; omega
    go_enter Try.func90, Try.ntmps90
    go_wp2
    go_quiet (fail)
    go_wp2
    go_ret
    exact ⟨by simp [h1], _, rfl⟩
end
end Go.Proofs.Ytemhfonneggneaa.CK
