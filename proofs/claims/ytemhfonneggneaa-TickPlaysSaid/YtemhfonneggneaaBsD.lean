/- The program's board told in lists: Alarms. -/
import Derived.Test.YtemhfonneggneaaBsA
import Derived.Test.YtemhfonneggneaaBdR
import Derived.Test.YtemhfonneggneaaBdS
import Derived.Test.YtemhfonneggneaaBdW
import Derived.Test.YtemhfonneggneaaRbH
/- The program's board told in lists. -/
namespace Go.Proofs.Ytemhfonneggneaa.BS
open Go.RowKit Go.Fr Go.Tb Go.Proofs.Ytemhfonneggneaa.CK Go.Proofs.Ytemhfonneggneaa.BD Go.Proofs.Ytemhfonneggneaa.RB Go.Proofs.Ytemhfonneggneaa.TC

/-- what tables that may be are known to be -/
structure TOk (T : Tb) : Prop where
  nc : T.counters.length ≤ 16
  na : T.alarms.length ≤ 64
  ni : T.isrs.length ≤ 32
  nm : 1 ≤ T.modes ∧ T.modes ≤ 8
  al : ∀ (i : Nat) (x : AlarmR), T.alarms[i]? = some x → ∃ (c mx mn : Nat) (bs : Int), x.counter = (c : Int) ∧ T.counters[c]? = some ((mx : Int), bs, (mn : Int)) ∧ 1 ≤ mx ∧ mx ≤ 2147483647 ∧ 1 ≤ mn ∧ mn ≤ mx ∧ (x.auto ≠ 0 → 1 ≤ x.time ∧ x.time ≤ mx ∧ (x.cycle = 0 ∨ ((mn : Int) ≤ x.cycle ∧ x.cycle ≤ mx)))
  cs : ∀ (c : Nat) (r : Int × Int × Int), T.counters[c]? = some r → ∃ mx mn : Nat, r.1 = (mx : Int) ∧ r.2.2 = (mn : Int) ∧ mx ≤ 2147483647
  cat : ∀ x ∈ T.isrs, x.cat = 1 ∨ x.cat = 2
  u : ∀ x ∈ T.alarms, U32 x.auto ∧ U32 x.time ∧ U32 x.cycle
theorem tok {T : Tb} (h : CheckP T) (hW : T.Wf) : TOk T := by
  obtain ⟨⟨_, h1, _, _, h2, h3, h4, _⟩, _, _, ⟨_, ⟨hc, ha⟩, hi, _⟩, _⟩ := h
  have hcs : ∀ (c : Nat) (r : Int × Int × Int), T.counters[c]? = some r → ∃ mx mn : Nat, r.1 = (mx : Int) ∧ r.2.2 = (mn : Int) ∧ mx ≤ 2147483647 := fun c r hr => by
    have hp := hc r (List.mem_of_getElem? hr)
    unfold CounterP at hp
    exact ⟨r.1.toNat, r.2.2.toNat, by omega, by omega, by omega⟩
  refine ⟨h2, h3, h4, h1, fun i x hx => ?_, hcs, fun x hx => ?_, fun x hx => ?_⟩
  · obtain ⟨⟨a1, a2⟩, _, _, r, hr, hau⟩ := ha x (List.mem_of_getElem? hx)
    have hp := hc r (List.mem_of_getElem? hr)
    unfold CounterP at hp
    obtain ⟨r1, r2, r3⟩ := r
    dsimp only at hp
    refine ⟨x.counter.toNat, r1.toNat, r3.toNat, r2, by omega, ?_, by omega, by omega, by omega, by omega, fun h0 => ?_⟩
    · rw [hr, show ((r1.toNat : Nat) : Int) = r1 by omega, show ((r3.toNat : Nat) : Int) = r3 by omega]
    · rcases hau with ⟨h, _⟩ | ⟨_, h⟩
      · exact absurd h h0
      · unfold RightP at h
        dsimp only at h
        omega
  · obtain ⟨k, hk⟩ := List.mem_iff_getElem?.1 hx
    have hkl := (List.getElem?_eq_some_iff.1 hk).1
    exact (hi k hkl x hk).1.1
  · have := hW.alarms x hx
    exact ⟨this.2.2.2.2.1, this.2.2.2.2.2.1, this.2.2.2.2.2.2⟩

def pad (R : List Bool) : List Bool := R ++ List.replicate (32 - R.length) false
/-- the program's board: its values, its alarms, its requests -/
structure IsBs (w : World) (b : Nat) (M : Bm) (T : Tb) (V : List Nat) (A : List (Bool × Nat × Nat)) (R : List Bool) : Prop where
  bd : IsBd w b M T (mkC T V A) (pad R)
  lv : V.length = T.counters.length
  la : A.length = T.alarms.length
  lr : R.length = T.isrs.length
theorem pad_set {R : List Bool} {k : Nat} (h : k < R.length) (v : Bool) : (pad R).set k v = pad (R.set k v) := by
  unfold pad
  rw [List.set_append_left _ _ h, List.length_set]
theorem pad_at {R : List Bool} {k : Nat} (h : k < R.length) : (pad R)[k]? = R[k]? := by
  unfold pad
  rw [List.getElem?_append_left h]
theorem pad_true {R : List Bool} {k : Nat} (h : (pad R)[k]? = some true) : k < R.length := by
  unfold pad at h
  rcases Nat.lt_or_ge k R.length with h1 | h1
  · exact h1
  · rw [List.getElem?_append_right h1, List.getElem?_replicate] at h
    split at h <;> simp at h
theorem reqB_pad (R : List Bool) : ∀ m, reqB (pad R) (R.length + m) = reqB R R.length
  | 0 => by
    rw [Nat.add_zero]
    unfold reqB
    congr 1
    apply List.filter_congr
    intro i hi
    rw [pad_at (List.mem_range.1 hi)]
  | m + 1 => by
    rw [← Nat.add_assoc, reqB_succ, reqB_pad R m, if_neg (fun h => by have := pad_true h; omega), List.append_nil]
theorem req_pad {R : List Bool} (h : R.length ≤ 32) : reqB (pad R) 32 = reqB R R.length := by
  have := reqB_pad R (32 - R.length)
  rwa [show R.length + (32 - R.length) = 32 by omega] at this

section
variable {w w' : World} {b : Nat} {M : Bm} {T : Tb} {V : List Nat} {A : List (Bool × Nat × Nat)} {R : List Bool} {S : Nat → Prop}
theorem IsBs.kept (h : IsBs w b M T V A R) (k : Kept S w w') (hn : ∀ g, bfoot b M g → ¬ S g) : IsBs w' b M T V A R := { h with bd := h.bd.kept k hn }
theorem IsBs.same (h : IsBs w b M T V A R) (k : Kept (fun _ => False) w w') : IsBs w' b M T V A R := { h with bd := h.bd.same k }
theorem ctr_of {c : Nat} {r : Int × Int × Int} (h : T.counters[c]? = some r) : ctr T c = r := by simp [ctr, List.getD_eq_getElem?_getD, h]
/-- an alarm's clock -/
theorem mks {i c mx mn : Nat} {x : AlarmR} {bs : Int} {a : Bool × Nat × Nat} (hx : T.alarms[i]? = some x) (hxc : x.counter = (c : Int)) (hr : T.counters[c]? = some ((mx : Int), bs, (mn : Int))) (ha : A[i]? = some a) :
    (mkC T V A)[c]? = some (mkS T V A c) ∧ (mkS T V A c).mx = mx ∧ (mkS T V A c).mn = mn ∧ (mkS T V A c).x = V.getD c 0 ∧ (mkS T V A c).l[plc T i c]? = some a := by
  refine ⟨mkC_at (List.getElem?_eq_some_iff.1 hr).1, ?_, ?_, rfl, mkS_at hx hxc ha⟩
  · show (ctr T c).1.toNat = mx
    rw [ctr_of hr]; simp
  · show (ctr T c).2.2.toNat = mn
    rw [ctr_of hr]; simp
theorem put_mk {i c : Nat} {x : AlarmR} {a : Bool × Nat × Nat} (hx : T.alarms[i]? = some x) (hxc : x.counter = (c : Int)) (hc : c < T.counters.length) (ha : A[i]? = some a) (F : Bool) (lf cy : Nat) :
    (putL (mkS T V A c).l ((plc T i c : Nat) : Int) F lf cy).2 = (putL A (i : Int) F lf cy).2 ∧ (mkC T V A).set c ⟨(mkS T V A c).mx, (mkS T V A c).mn, (mkS T V A c).x, (putL (mkS T V A c).l ((plc T i c : Nat) : Int) F lf cy).1⟩ = mkC T V (putL A (i : Int) F lf cy).1 := by
  have hi : i < A.length := (List.getElem?_eq_some_iff.1 ha).1
  have hs : (mkC T V A).set c ⟨(mkS T V A c).mx, (mkS T V A c).mn, (mkS T V A c).x, (mkS T V A c).l⟩ = mkC T V A := set_eq_of_getElem? (mkC_at hc)
  rw [RB.putL_at (mkS_at hx hxc ha), RB.putL_at ha]
  split
  · exact ⟨rfl, hs⟩
  · split
    · exact ⟨rfl, (mkC_set hx hxc hi _).symm⟩
    · exact ⟨rfl, hs⟩
theorem cancelL_at {A : List (Bool × Nat × Nat)} {k : Nat} {a : Bool × Nat × Nat} (ha : A[k]? = some a) : cancelL A (k : Int) = if a.1 then (A.set k (false, 0, 0), 0) else (A, 5) := by
  unfold cancelL
  rw [if_pos (by omega), show ((k : Nat) : Int).toNat = k from Int.toNat_natCast k, ha]
theorem cancel_mk {i c : Nat} {x : AlarmR} {a : Bool × Nat × Nat} (hx : T.alarms[i]? = some x) (hxc : x.counter = (c : Int)) (hc : c < T.counters.length) (ha : A[i]? = some a) :
    (cancelL (mkS T V A c).l ((plc T i c : Nat) : Int)).2 = (cancelL A (i : Int)).2 ∧ (mkC T V A).set c ⟨(mkS T V A c).mx, (mkS T V A c).mn, (mkS T V A c).x, (cancelL (mkS T V A c).l ((plc T i c : Nat) : Int)).1⟩ = mkC T V (cancelL A (i : Int)).1 := by
  have hi : i < A.length := (List.getElem?_eq_some_iff.1 ha).1
  have hs : (mkC T V A).set c ⟨(mkS T V A c).mx, (mkS T V A c).mn, (mkS T V A c).x, (mkS T V A c).l⟩ = mkC T V A := set_eq_of_getElem? (mkC_at hc)
  rw [cancelL_at (mkS_at hx hxc ha), cancelL_at ha]
  split
  · exact ⟨rfl, (mkC_set hx hxc hi _).symm⟩
  · exact ⟨rfl, hs⟩
theorem putL_len (A : List (Bool × Nat × Nat)) (i : Int) (F : Bool) (lf cy : Nat) : (putL A i F lf cy).1.length = A.length := by
  unfold putL
  split
  · split
    · rfl
    · split
      · rfl
      · split <;> simp
  · rfl
theorem cancelL_len (A : List (Bool × Nat × Nat)) (i : Int) : (cancelL A i).1.length = A.length := by
  unfold cancelL
  split
  · split
    · rfl
    · split <;> simp
  · rfl

theorem s_rel {i c mx mn t cy : Nat} {x : AlarmR} {bs : Int} {a : Bool × Nat × Nat} (hs : IsBs w b M T V A R) (hk : TOk T) (hx : T.alarms[i]? = some x) (hxc : x.counter = (c : Int)) (hr : T.counters[c]? = some ((mx : Int), bs, (mn : Int))) (ha : A[i]? = some a) (ht : t ≤ 4294967295) :
    Calls Try.prog 11 #[.pointer (some ⟨b, 0, none⟩), .int .i64 i, .int .u32 t, .int .u32 cy] w fun e w' =>
    e = .returned (.int .i64 (putL A i (decide (1 ≤ t) && decide (t ≤ mx) && cycB mn mx cy) t cy).2) ∧ IsBs w' b M T V (putL A i (decide (1 ≤ t) && decide (t ≤ mx) && cycB mn mx cy) t cy).1 R ∧ Kept (bfoot b M) w w' := by
  obtain ⟨e1, e2, e3, e4, e5⟩ := mks (V := V) hx hxc hr ha
  have hc := (List.getElem?_eq_some_iff.1 hr).1
  refine (rel_in hs.bd hx hxc e1 hk.na ht).mono ?_
  rintro e w' ⟨rfl, hb, k⟩
  rw [e2, e3] at hb ⊢
  obtain ⟨f1, f2⟩ := put_mk (V := V) hx hxc hc ha (decide (1 ≤ t) && decide (t ≤ mx) && cycB mn mx cy) t cy
  rw [e2, e3] at f2
  unfold plc at f1 f2
  rw [f2] at hb
  rw [f1]
  exact ⟨rfl, ⟨hb, hs.lv, (putL_len _ _ _ _ _).trans hs.la, hs.lr⟩, k⟩
theorem s_abs {i c mx mn t cy : Nat} {x : AlarmR} {bs : Int} {a : Bool × Nat × Nat} (hs : IsBs w b M T V A R) (hk : TOk T) (hx : T.alarms[i]? = some x) (hxc : x.counter = (c : Int)) (hr : T.counters[c]? = some ((mx : Int), bs, (mn : Int))) (ha : A[i]? = some a) (ht : t ≤ 4294967295) :
    Calls Try.prog 10 #[.pointer (some ⟨b, 0, none⟩), .int .i64 i, .int .u32 t, .int .u32 cy] w fun e w' =>
    e = .returned (.int .i64 (putL A i (decide (t ≤ mx) && cycB mn mx cy) (until' mx (V.getD c 0) t) cy).2) ∧ IsBs w' b M T V (putL A i (decide (t ≤ mx) && cycB mn mx cy) (until' mx (V.getD c 0) t) cy).1 R ∧ Kept (bfoot b M) w w' := by
  obtain ⟨e1, e2, e3, e4, e5⟩ := mks (V := V) hx hxc hr ha
  have hc := (List.getElem?_eq_some_iff.1 hr).1
  refine (abs_in hs.bd hx hxc e1 hk.na ht).mono ?_
  rintro e w' ⟨rfl, hb, k⟩
  rw [e2, e3, e4] at hb ⊢
  obtain ⟨f1, f2⟩ := put_mk (V := V) hx hxc hc ha (decide (t ≤ mx) && cycB mn mx cy) (until' mx (V.getD c 0) t) cy
  rw [e2, e3, e4] at f2
  unfold plc at f1 f2
  rw [f2] at hb
  rw [f1]
  exact ⟨rfl, ⟨hb, hs.lv, (putL_len _ _ _ _ _).trans hs.la, hs.lr⟩, k⟩
theorem s_cancel {i c : Nat} {x : AlarmR} {a : Bool × Nat × Nat} (hs : IsBs w b M T V A R) (hk : TOk T) (hx : T.alarms[i]? = some x) (hxc : x.counter = (c : Int)) (hc : c < T.counters.length) (ha : A[i]? = some a) :
    Calls Try.prog 12 #[.pointer (some ⟨b, 0, none⟩), .int .i64 i] w fun e w' =>
    e = .returned (.int .i64 (cancelL A i).2) ∧ IsBs w' b M T V (cancelL A i).1 R ∧ Kept (bfoot b M) w w' := by
  refine (cancel_in hs.bd hx hxc (mkC_at hc) hk.na).mono ?_
  rintro e w' ⟨rfl, hb, k⟩
  obtain ⟨f1, f2⟩ := cancel_mk (V := V) hx hxc hc ha
  unfold plc at f1 f2
  rw [f2] at hb
  rw [f1]
  exact ⟨rfl, ⟨hb, hs.lv, (cancelL_len _ _).trans hs.la, hs.lr⟩, k⟩
theorem s_left {i c : Nat} {x : AlarmR} {a : Bool × Nat × Nat} (hs : IsBs w b M T V A R) (hk : TOk T) (hx : T.alarms[i]? = some x) (hxc : x.counter = (c : Int)) (hc : c < T.counters.length) (ha : A[i]? = some a) (hb : a.2.1 ≤ 4294967295) :
    Calls Try.prog 15 #[.pointer (some ⟨b, 0, none⟩), .int .i64 i] w fun e w' =>
    e = .returned (.tuple (if a.1 then #[.int .u32 a.2.1, .int .i64 0] else #[.int .u32 0, .int .i64 5])) ∧ Kept (fun _ => False) w w' := by
  refine (left_in hs.bd hx hxc (mkC_at hc) hk.na).mono ?_
  rintro e w' ⟨rfl, k⟩
  refine ⟨?_, k⟩
  have h1 : ofA (mkS T V A c).l ((plc T i c : Nat) : Int) = if a.1 then a else (false, 0, 0) := by
    unfold ofA
    rw [if_pos (by omega), Int.toNat_natCast, mkS_at hx hxc ha]
  have h2 : ofS (mkS T V A c).l ((plc T i c : Nat) : Int) = if a.1 then 0 else 5 := by
    unfold ofS
    rw [if_pos (by omega), Int.toNat_natCast, mkS_at hx hxc ha]
  unfold plc at h1 h2
  rw [h1, h2]
  cases a.1
  · rw [if_neg Bool.false_ne_true, if_neg Bool.false_ne_true, if_neg Bool.false_ne_true]
    rw [IntWalk.u32_in _ (by simp)]
    rfl
  · rw [if_pos rfl, if_pos rfl, if_pos rfl]
    rw [IntWalk.u32_in _ (by omega)]
theorem s_tick {c : Nat} (hs : IsBs w b M T V A R) (hk : TOk T) (hc : c < T.counters.length) :
    Calls Try.prog 9 #[.pointer (some ⟨b, 0, none⟩), .int .i64 c] w fun e w' =>
    ∃ ao cc, e = .returned (.tuple #[.slice ao (fireA T c A A.length).length cc, .int .i64 0]) ∧ Ob w w' ao cc (fireA T c A A.length) ∧ IsBs w' b M T (V.set c (after (mkS T V A c).mx (V.getD c 0) 1)) (tkA T c A A.length) R ∧ Kept (bfoot b M) w w' := by
  refine (tick_in hs.bd (mkC_at hc) (by have := hk.nc; omega)).mono ?_
  rintro e w' ⟨ao, cc, rfl, ho, hb, k⟩
  have ht := told_fire (V := V) (c := c) hs.la
  have hl : (fired (mkS T V A c).l 0).length = (fireA T c A A.length).length := by rw [← ht]; unfold told; simp
  rw [ht] at ho
  rw [hl]
  refine ⟨ao, cc, rfl, ho, ⟨?_, (List.length_set).trans hs.lv, (tkA_len _ _ _ _).trans hs.la, hs.lr⟩, k⟩
  rw [mkC_tick hs.la (by rw [hs.lv]; exact hc)]
  exact hb
end
end Go.Proofs.Ytemhfonneggneaa.BS
/- Package tick: a board's Calm. -/
namespace Go.Proofs.Ytemhfonneggneaa.BS
open Go.RowKit Go.Fr Go.Tb Go.Proofs.Ytemhfonneggneaa.CK Go.Proofs.Ytemhfonneggneaa.BD Go.Proofs.Ytemhfonneggneaa.RB
attribute [local go_sem] Oper.semAt_some

/-- cells of a block are cleared -/
theorem run_clear_mid {w : World} {b o n : Nat} {cs : List Value} {t ty : TypeId} (h : Blk w b cs t) (hn : o + n ≤ cs.length) (hpos : 0 < n) :
    ∃ w', (Builtin.clear_ #[107] ty #[.slice (some ⟨b, o, none⟩) n n]).run Try.prog w = .ok (.tuple #[]) w' ∧ Blk w' b (cs.take o ++ List.replicate n (.bool false) ++ cs.drop (o + n)) t ∧ Kept (fun k => k = b) w w' := by
  obtain ⟨m, rfl⟩ : ∃ m, n = m + 1 := ⟨n - 1, by omega⟩
  have hz : ∀ w, (zeroValue 4).run Try.prog w = .ok (.bool false) w := fun w => by kernel_rfl
  have hzc : (Builtin.zeroCells (Value.bool false).cells (m + 1)).toList = List.replicate (m + 1) (Value.bool false) := by
    have := made_flat (enc := fun x : Bool => [Value.bool x]) (fun _ => rfl) (by decide) false (m + 1)
    have h2 : Builtin.zeroCells #[Value.bool false] (m + 1) = madeCells #[Value.bool false] ((m + 1) * 1) := by
      unfold Builtin.zeroCells madeCells; simp
    rw [show (Value.bool false).cells = #[Value.bool false] from rfl, h2]
    rw [this]
    have key : ∀ k, (List.replicate k false).flatMap (fun x : Bool => [Value.bool x]) = List.replicate k (Value.bool false) := by
      intro k
      induction k with
      | zero => rfl
      | succ k ih => rw [List.replicate_succ, List.replicate_succ, List.flatMap_cons, ih]; rfl
    exact key (m + 1)
  have hs := run_storeCells_at Try.prog b o t (List.replicate (m + 1) (Value.bool false)) 0 cs.toArray w h (by simp; omega) (fun u hu => by rw [List.eq_of_mem_replicate hu]; rfl)
  simp only [Nat.add_zero, List.length_replicate] at hs
  refine ⟨w.setRow b (cs.take o ++ List.replicate (m + 1) (Value.bool false) ++ cs.drop (o + (m + 1))).toArray, ?_, setRow_heap w b _ _ t _ h, ⟨rfl, rfl, rfl, by simp [World.setRow], fun k _ hn => setRow_other w b k _ hn⟩⟩
  simp [Builtin.clear_, run_underlying Try.underlying107, hz, hzc, hs]

/-- the first k alarms are calm -/
def calmA (A : List (Bool × Nat × Nat)) (k : Nat) : List (Bool × Nat × Nat) := A.mapIdx (fun j a => if decide (j < k) then z0 else a)
theorem calmA_len (A : List (Bool × Nat × Nat)) (k : Nat) : (calmA A k).length = A.length := by simp [calmA]
theorem calmA_zero (A : List (Bool × Nat × Nat)) : calmA A 0 = A := by
  apply List.ext_getElem?
  intro i
  simp only [calmA, List.getElem?_mapIdx]
  cases A[i]? <;> simp
theorem calmA_at (A : List (Bool × Nat × Nat)) (k : Nat) : (calmA A k)[k]? = A[k]? := by
  simp only [calmA, List.getElem?_mapIdx]
  cases A[k]? <;> simp
theorem calmA_succ {A : List (Bool × Nat × Nat)} {k : Nat} (hk : k < A.length) : calmA A (k + 1) = (calmA A k).set k z0 := by
  apply List.ext_getElem?
  intro i
  rw [List.getElem?_set]
  by_cases hi : k = i
  · subst hi
    rw [if_pos rfl, if_pos (by rw [calmA_len]; exact hk)]
    simp only [calmA, List.getElem?_mapIdx, List.getElem?_eq_getElem hk, Option.map_some]
    simp
  · rw [if_neg hi]
    simp only [calmA, List.getElem?_mapIdx]
    have : decide (i < k + 1) = decide (i < k) := by
      rw [Bool.eq_iff_iff, decide_eq_true_eq, decide_eq_true_eq]; omega
    rw [this]
theorem calmA_all (A : List (Bool × Nat × Nat)) : calmA A A.length = List.replicate A.length z0 := by
  apply List.ext_getElem?
  intro i
  simp only [calmA, List.getElem?_mapIdx, List.getElem?_replicate]
  by_cases h : i < A.length
  · rw [List.getElem?_eq_getElem h]; simp [h]
  · rw [List.getElem?_eq_none (by omega)]; simp [h]
/-- an alarm that is not set is blank; none has more left than a clock may -/
def Good (A : List (Bool × Nat × Nat)) : Prop := ∀ a ∈ A, (a.1 = false → a = z0) ∧ a.2.1 ≤ 2147483648

section
variable {w w' : World} {b : Nat} {M : Bm} {T : Tb} {V : List Nat} {A : List (Bool × Nat × Nat)} {R : List Bool} {S : Nat → Prop}
theorem reqs {C : List Cs} {R' : List Bool} (hs : IsBd w b M T C R) (h32 : R'.length = 32) (k : Kept (fun g => g = b) w w') (hb : Blk w' b (bcells M T R') 68) : IsBd w' b M T C R' := by
  have fx : ∀ g, fixed M g → ¬ g = b := fun g hg => (hs.fix g hg).1
  exact { hs with
    blk := hb
    n32 := h32
    rows := hs.rows.kept k (fun g hg => fx g (Or.inl hg))
    alarms := hs.alarms.kept k (fun g hg => fx g (Or.inr (Or.inl hg)))
    places := hs.places.kept k (fun g hg => fx g (Or.inr (Or.inr (Or.inl hg))))
    ctrs := hs.ctrs.kept k (fun g hg => fx g (Or.inr (Or.inr (Or.inr (Or.inl hg)))))
    isrs := hs.isrs.kept k (fun g hg => fx g (Or.inr (Or.inr (Or.inr (Or.inr (Or.inl hg))))))
    clk := fun c s cb h1 h2 => (hs.clk c s cb h1 h2).kept k (fun g hg e => hs.nb cb (List.mem_of_getElem? h2) (e ▸ hg))
    sls := fun d v h => (hs.sls d v h).kept k (fun g hg => fx g (Or.inr (Or.inr (Or.inr (Or.inr (Or.inr ⟨v, List.mem_of_getElem? h, hg⟩))))))
    fix := fun g hg => ⟨(hs.fix g hg).1, Nat.lt_of_lt_of_le (hs.fix g hg).2.1 k.size, (hs.fix g hg).2.2⟩ }
theorem bcells_calm {R : List Bool} (h : R.length = 32) : (bcells M T R).take 6 ++ List.replicate 32 (Value.bool false) ++ (bcells M T R).drop (6 + 32) = bcells M T (List.replicate 32 false) := by
  show ([M.vr, M.va, M.vp, M.vc, .int .i64 T.modes, M.vi] : List Value) ++ List.replicate 32 (Value.bool false) ++ (R.map Value.bool ++ [Value.bool true]).drop 32 = ([M.vr, M.va, M.vp, M.vc, .int .i64 T.modes, M.vi] : List Value) ++ ((List.replicate 32 false).map Value.bool ++ [.bool true])
  rw [List.drop_left' (by rw [List.length_map, h]), List.map_replicate, List.append_assoc]
theorem pad_calm (h : R.length ≤ 32) : pad (List.replicate R.length false) = List.replicate 32 false := by
  unfold pad
  rw [List.length_replicate, List.replicate_append_replicate]
  congr 1
  omega
set_option maxRecDepth 100000 in
set_option maxHeartbeats 4000000 in
theorem s_calm (hs : IsBs w b M T V A R) (hk : TOk T) (hg : Good A) : Calls Try.prog 19 #[.pointer (some ⟨b, 0, none⟩)] w fun e w' =>
    e = .returned (.int .i64 0) ∧ IsBs w' b M T V (List.replicate A.length z0) (List.replicate R.length false) ∧ Kept (bfoot b M) w w' := by
  obtain ⟨a1, k1, _, _, _, _, _, _, _, _, _, _, _, _, _, c1, _, _, _⟩ := hs.bd.heads
  have ha := alive_ok hs.bd
  have hla := hs.la
  have hna := hk.na
  rw [← hla] at c1 hna
  have HS := Lib.hid hs
  have HK := Lib.hid hk
  have HG := Lib.hid hg
  clear hs hk hg
  go_enter Try.func19, Try.ntmps19
  go_wp2_with (go_at_call 29; refine ha.mono ?_; rintro e w1 ⟨rfl, rfl⟩)
  go_loopw [12] (fun i wr => ∃ k : Nat, k ≤ A.length ∧ i = .int .i64 k ∧ Hid (IsBs wr b M T V (calmA A k) R) ∧ Hid (Kept (bfoot b M) w wr)) (fun i _ => A.length - (intOf i).toNat)
  case atStart => exact ⟨0, Nat.zero_le _, rfl, by rw [Hid, calmA_zero]; exact HS.out, Kept.refl _ _⟩
  case round =>
    clear HS ha c1
    obtain ⟨k, hk, rfl, hS, hK⟩ := hrel
    by_cases hkl : k < A.length
    · obtain ⟨a, ha, hma⟩ := at_of hkl
      have hat := calmA_at A k
      rw [ha] at hat
      obtain ⟨x, hx, _⟩ := at_of (l := T.alarms) (k := k) (by omega)
      obtain ⟨c, mx, mn, bs, hxc, hr, _⟩ := HK.out.al k x hx
      have hc := s_cancel hS.out HK.out hx hxc (List.getElem?_eq_some_iff.1 hr).1 hat
      have hcl : (cancelL (calmA A k) (k : Int)).1 = calmA A (k + 1) := by
        rw [cancelL_at hat, calmA_succ hkl]
        split
        · rfl
        · rename_i h
          have := (HG.out a hma).1 (by simpa using h)
          rw [this] at hat
          exact (set_eq_of_getElem? hat).symm
      rw [hcl] at hc
      have hk0 : (0 : Int) ≤ (k : Int) := by omega
      have hk1 : (k : Int) < (A.length : Int) := by omega
      clear ha hma hat hx hxc hr hcl hS
      go_wp2_with fail
      refine hc.mono ?_
      rintro e w2 ⟨rfl, hb2, k2⟩
      have HS2 := Lib.hid hb2
      have HK2 := Lib.hid (hK.out.then k2 (fun _ h => Or.inl h))
      clear hb2 k2 hc hK
      go_wp2_with fail
      go_roundw
      case rel => exact ⟨k + 1, by omega, by go_num, HS2, HK2⟩
      case measure => simp [intOf]; omega
    · obtain rfl : k = A.length := by omega
      have hS2 := hS.out
      rw [calmA_all] at hS2
      have hbk := hS2.bd.blk
      obtain ⟨w5, hrun, hb5, k5⟩ := run_clear_mid (ty := 0) (o := 6) (n := 32) hbk (by simp [bcells, hS2.bd.n32]) (by decide)
      rw [bcells_calm hS2.bd.n32] at hb5
      have hfin : IsBs w5 b M T V (List.replicate A.length z0) (List.replicate R.length false) := by
        refine ⟨?_, hS2.lv, hS2.la, by rw [List.length_replicate]; exact hS2.lr⟩
        rw [pad_calm (by rw [hS2.lr]; exact HK.out.ni)]
        exact reqs hS2.bd (by simp) k5 hb5
      have HFIN := Lib.hid hfin
      have HKF := Lib.hid (hK.out.then k5 (fun g hg => Or.inl (Or.inl hg)))
      clear hfin k5 hb5 hbk hS2 hS hK
      go_wp2_with fail
      go_ret
      exact ⟨rfl, HFIN.out, HKF.out⟩
end
end Go.Proofs.Ytemhfonneggneaa.BS
/- The program's board told in lists: Request, Serve, Requested, Next, Counters. -/
namespace Go.Proofs.Ytemhfonneggneaa.BS
open Go.RowKit Go.Fr Go.Tb Go.Proofs.Ytemhfonneggneaa.CK Go.Proofs.Ytemhfonneggneaa.BD Go.Proofs.Ytemhfonneggneaa.RB
section
variable {w w' : World} {b : Nat} {M : Bm} {T : Tb} {V : List Nat} {A : List (Bool × Nat × Nat)} {R : List Bool} {S : Nat → Prop}
theorem s_request {k : Nat} (hs : IsBs w b M T V A R) (hk : TOk T) (h : k < R.length) : Calls Try.prog 13 #[.pointer (some ⟨b, 0, none⟩), .int .i64 k] w fun e w' =>
    e = .returned (.int .i64 0) ∧ IsBs w' b M T V A (R.set k true) ∧ Kept (bfoot b M) w w' := by
  refine (request_ok (i := (k : Int)) hs.bd hk.ni).mono ?_
  rintro e w' ⟨R', rfl, hb, hR, k'⟩
  have hin : 0 ≤ (k : Int) ∧ (k : Int) < T.isrs.length := by have := hs.lr; omega
  rw [if_pos hin] at hR
  rw [Int.toNat_natCast, pad_set h] at hR
  subst hR
  rw [if_pos hin]
  exact ⟨rfl, ⟨hb, hs.lv, hs.la, by rw [List.length_set]; exact hs.lr⟩, k'⟩
theorem s_request_out {i : Int} (hs : IsBs w b M T V A R) (hk : TOk T) (h : ¬ (0 ≤ i ∧ i < R.length)) : Calls Try.prog 13 #[.pointer (some ⟨b, 0, none⟩), .int .i64 i] w fun e w' =>
    e = .returned (.int .i64 3) ∧ IsBs w' b M T V A R ∧ Kept (bfoot b M) w w' := by
  refine (request_ok (i := i) hs.bd hk.ni).mono ?_
  rintro e w' ⟨R', rfl, hb, hR, k'⟩
  have hin : ¬ (0 ≤ i ∧ i < T.isrs.length) := by rw [← hs.lr]; exact h
  rw [if_neg hin] at hR
  subst hR
  rw [if_neg hin]
  exact ⟨rfl, ⟨hb, hs.lv, hs.la, hs.lr⟩, k'⟩
theorem s_serve {k : Nat} {v : Bool} (hs : IsBs w b M T V A R) (hk : TOk T) (hv : R[k]? = some v) : Calls Try.prog 14 #[.pointer (some ⟨b, 0, none⟩), .int .i64 k] w fun e w' =>
    e = .returned (.int .i64 (if v then 0 else 2)) ∧ IsBs w' b M T V A (R.set k false) ∧ Kept (bfoot b M) w w' := by
  have h : k < R.length := (List.getElem?_eq_some_iff.1 hv).1
  refine (serve_ok (i := (k : Int)) hs.bd hk.ni).mono ?_
  rintro e w' ⟨R', rfl, hb, hR, k'⟩
  have hin : 0 ≤ (k : Int) ∧ (k : Int) < T.isrs.length := by have := hs.lr; omega
  rw [Int.toNat_natCast, pad_at h, hv] at hR
  rw [Int.toNat_natCast, pad_at h, hv]
  cases v with
  | true =>
    rw [if_pos ⟨hin.1, hin.2, rfl⟩, pad_set h] at hR
    subst hR
    rw [if_pos ⟨hin.1, hin.2, rfl⟩, if_pos rfl]
    exact ⟨rfl, ⟨hb, hs.lv, hs.la, by rw [List.length_set]; exact hs.lr⟩, k'⟩
  | false =>
    have hno : ¬ (0 ≤ (k : Int) ∧ (k : Int) < T.isrs.length ∧ some false = some true) := fun h => by simp at h
    rw [if_neg hno] at hR
    subst hR
    rw [if_neg hno, if_neg Bool.false_ne_true, set_eq_of_getElem? hv]
    exact ⟨rfl, ⟨hb, hs.lv, hs.la, hs.lr⟩, k'⟩
theorem s_serve_out {i : Int} (hs : IsBs w b M T V A R) (hk : TOk T) (h : ¬ (0 ≤ i ∧ i < R.length)) : Calls Try.prog 14 #[.pointer (some ⟨b, 0, none⟩), .int .i64 i] w fun e w' =>
    e = .returned (.int .i64 2) ∧ IsBs w' b M T V A R ∧ Kept (bfoot b M) w w' := by
  refine (serve_ok (i := i) hs.bd hk.ni).mono ?_
  rintro e w' ⟨R', rfl, hb, hR, k'⟩
  have hin : ¬ (0 ≤ i ∧ i < T.isrs.length ∧ (pad R)[i.toNat]? = some true) := fun h2 => h ⟨h2.1, by rw [hs.lr]; exact h2.2.1⟩
  rw [if_neg hin] at hR
  subst hR
  rw [if_neg hin]
  exact ⟨rfl, ⟨hb, hs.lv, hs.la, hs.lr⟩, k'⟩
theorem s_requested (hs : IsBs w b M T V A R) (hk : TOk T) : Calls Try.prog 53 #[.pointer (some ⟨b, 0, none⟩)] w fun e w' =>
    ∃ ao c, e = .returned (.slice ao (reqB R R.length).length c) ∧ Ob w w' ao c (reqB R R.length) ∧ Kept (fun _ => False) w w' := by
  have h := BD.requested_ok hs.bd
  rw [req_pad (by have := hs.lr; have := hk.ni; omega)] at h
  exact h
theorem s_next (level : Int) (g : Bool × Int × Int) (hs : IsBs w b M T V A R) (hk : TOk T) : Calls Try.prog 23 #[.pointer (some ⟨b, 0, none⟩), .int .i64 level, .agg #[.bool g.1, .int .i64 g.2.1, .int .i64 g.2.2]] w fun e w' =>
    e = .returned (.tuple #[.int .i64 (best T R R.length level g).1, .bool (decide (0 ≤ (best T R R.length level g).1))]) ∧ Kept (fun _ => False) w w' := by
  have h := BD.next_ok level g hs.bd (fun i hi => by have := pad_true hi; have := hs.lr; omega)
  unfold nextOf at h
  rw [req_pad (by have := hs.lr; have := hk.ni; omega)] at h
  exact h
theorem mkC_vals (hv : V.length = T.counters.length) : (mkC T V A).map (fun s => Value.int .u32 (s.x : Int)) = V.map vu := by
  apply List.ext_getElem?
  intro i
  rw [List.getElem?_map, List.getElem?_map]
  by_cases hi : i < T.counters.length
  · rw [mkC_at hi]
    obtain ⟨v, h⟩ : ∃ v, V[i]? = some v := ⟨_, List.getElem?_eq_getElem (by omega)⟩
    rw [h]
    simp [mkS, vu, List.getD_eq_getElem?_getD, h]
  · rw [List.getElem?_eq_none (by rw [mkC_len]; omega), List.getElem?_eq_none (by omega)]
    rfl
theorem s_counters (hs : IsBs w b M T V A R) (hk : TOk T) : Calls Try.prog 24 #[.pointer (some ⟨b, 0, none⟩)] w fun e w' =>
    ∃ ao c, e = .returned (.slice ao V.length c) ∧ Row w' 22 1 (.slice ao V.length c) V.length (V.map vu) ∧ (∀ g, (Value.slice ao V.length c).ownBlock = some g → w.heap.size ≤ g) ∧ Kept (fun _ => False) w w' := by
  have h := counters_ok hs.bd (by have := hk.nc; omega)
  rw [mkC_vals hs.lv, mkC_len, ← hs.lv] at h
  exact h
end
end Go.Proofs.Ytemhfonneggneaa.BS
namespace Go.Proofs.Ytemhfonneggneaa.BS
open Go.RowKit Go.Fr Go.Tb Go.Proofs.Ytemhfonneggneaa.CK Go.Proofs.Ytemhfonneggneaa.BD Go.Proofs.Ytemhfonneggneaa.RB
attribute [local go_sem] Oper.semAt_some
section
variable {w w' : World} {b : Nat} {M : Bm} {T : Tb} {V : List Nat} {A : List (Bool × Nat × Nat)} {R : List Bool} {S : Nat → Prop}
theorem encL_one (a : Bool × Nat × Nat) : ∀ u ∈ encL a, u.oneCell' = true := by
  intro u hu
  simp only [encL, List.mem_cons, List.not_mem_nil, or_false] at hu
  rcases hu with rfl | rfl | rfl <;> rfl
set_option maxRecDepth 100000 in
set_option maxHeartbeats 8000000 in
theorem s_alarms (hs : IsBs w b M T V A R) (hk : TOk T) (hg : Good A) : Calls Try.prog 52 #[.pointer (some ⟨b, 0, none⟩)] w fun e w' =>
    ∃ ao c, e = .returned (.slice ao A.length c) ∧ Row w' 129 3 (.slice ao A.length c) A.length (A.flatMap encL) ∧ (∀ g, (Value.slice ao A.length c).ownBlock = some g → w.heap.size ≤ g) ∧ Kept (fun _ => False) w w' := by
  obtain ⟨i0, hi, hz0, hz1, hz2⟩ := info_parts infoL
  obtain ⟨a1, k1, _, _, _, _, _, _, _, _, _, _, _, _, _, c1, _, _, _⟩ := hs.bd.heads
  have ha := alive_ok hs.bd
  have hla := hs.la
  have hna := hk.na
  rw [← hla] at c1 hna
  have HS := Lib.hid hs
  have HK := Lib.hid hk
  have HG := Lib.hid hg
  have B0 : Hid (Row w 129 3 (.slice none 0 0) 0 ((A.take 0).flatMap encL) ∧ ∀ g, (Value.slice none 0 0).ownBlock = some g → w.heap.size ≤ g) := ⟨World.ownsRow_nil _ _ _ _, by simp [Value.ownBlock]⟩
  clear hs hk hg
  go_enter Try.func52, Try.ntmps52
  go_wp2_with (go_at_call 29; refine ha.mono ?_; rintro e w1 ⟨rfl, rfl⟩)
  clear ha c1
  go_loopw [3, 18] (fun l i wr => ∃ (k : Nat) (ao : Option Addr) (c : Nat), k ≤ A.length ∧ i = .int .i64 k ∧ l = .slice ao k c ∧ Hid (Kept (fun _ => False) w wr) ∧ Hid (Row wr 129 3 (.slice ao k c) k ((A.take k).flatMap encL) ∧ ∀ g, (Value.slice ao k c).ownBlock = some g → w.heap.size ≤ g)) (fun _ i _ => A.length - (intOf i).toNat)
  case atStart => exact ⟨0, none, 0, Nat.zero_le _, rfl, rfl, Kept.refl _ _, B0⟩
  case round =>
    clear B0
    obtain ⟨k, ao, cc, hk, rfl, rfl, hK, hO⟩ := hrel
    by_cases hkl : k < A.length
    · obtain ⟨a, ha, hma⟩ := at_of hkl
      obtain ⟨x, hx, _⟩ := at_of (l := T.alarms) (k := k) (by omega)
      obtain ⟨c, mx, mn, bs, hxc, hr, _⟩ := HK.out.al k x hx
      have hcl : c < T.counters.length := (List.getElem?_eq_some_iff.1 hr).1
      have hs1 := HS.out.same hK.out
      have HOF := Lib.hid (of_in hs1.bd hx hxc hcl HK.out.na)
      have hgd := HG.out a hma
      have hA1 : ofA (mkS T V A c).l ((plc T k c : Nat) : Int) = a := by
        unfold ofA
        rw [if_pos (by omega), Int.toNat_natCast, mkS_at hx hxc ha]
        dsimp only
        split
        · rfl
        · rename_i h; exact (hgd.1 (by simpa using h)).symm
      have hA2 : ofS (mkS T V A c).l ((plc T k c : Nat) : Int) = if a.1 then 0 else 5 := by
        unfold ofS
        rw [if_pos (by omega), Int.toNat_natCast, mkS_at hx hxc ha]
      have htk : (A.take (k + 1)).flatMap encL = (A.take k).flatMap encL ++ encL a := by rw [List.take_add_one, ha, List.flatMap_append]; simp
      have HTK := Lib.hid htk
      have HA1 := Lib.hid hA1
      have HA2 := Lib.hid hA2
      have HS1 := Lib.hid hs1
      have hk0 : (0 : Int) ≤ (k : Int) := by omega
      have hk1 : (k : Int) < (A.length : Int) := by omega
      obtain ⟨sa, lf, cy⟩ := a
      have hlb : lf ≤ 2147483648 := hgd.2
      clear ha hma hx hxc hr hs1 hgd hA1 hA2 htk
      obtain ⟨pl, hpl⟩ : ∃ pl : Nat, (alsOf (T.alarms.take k) c).length = pl := ⟨_, rfl⟩
      have HB1 : Hid (ofA (mkS T V A c).l (pl : Int) = (sa, lf, cy)) := by rw [Hid, ← hpl]; exact HA1.out
      have HB2 : Hid (ofS (mkS T V A c).l (pl : Int) = if sa then 0 else 5) := by rw [Hid, ← hpl]; exact HA2.out
      rw [hpl] at HOF
      clear hpl HA1 HA2
      go_upto_region 7 with (go_at_call 31; refine HOF.out.mono ?_; rintro e w1 ⟨g, o, cv, e3, rfl, k1⟩)
      have hs1 := HS1.out.same k1
      obtain ⟨_, cb, vv, _, _, hcb, hvv, _⟩ := hs1.bd.at hcl
      have HCB := Lib.hid hcb
      have HVV := Lib.hid hvv
      have E3 := Lib.hid e3
      obtain ⟨g', o', cc', e3', _, q0, _⟩ := hs1.bd.ctr hcb hvv
      rw [e3] at e3'
      cases e3'
      have hl2 := left_ok pl (hs1.bd.clk c _ cb (mkC_at hcl) hcb)
      rw [HB1.out, HB2.out] at hl2
      have HL2 := Lib.hid hl2
      have K1 := Lib.hid (hK.out.then k1 (fun _ x => x.elim))
      have KR1 := Lib.hid k1
      have HS2 := Lib.hid hs1
      clear HOF k1 hs1 hcb hvv e3 hl2 HS1 hK
      go_upto_region 8 with (go_at_call 35; refine HL2.out.mono ?_; rintro e w2 ⟨rfl, k2⟩)
      have hs2 := HS2.out.same k2
      obtain ⟨g', o', cc', e3', _, q0, _⟩ := hs2.bd.ctr HCB.out HVV.out
      rw [E3.out] at e3'
      cases e3'
      have hl3 := cycle_ok pl (hs2.bd.clk c _ cb (mkC_at hcl) HCB.out)
      rw [HB1.out, HB2.out] at hl3
      have HL3 := Lib.hid hl3
      have K2 := Lib.hid (K1.out.then k2 (fun _ x => x.elim))
      have KR2 := Lib.hid (KR1.out.then k2 (fun _ x => x.elim))
      clear HL2 k2 hs2 hl3 HS2 K1 KR1
      go_upto_region 9 with (go_at_call 78; refine HL3.out.mono ?_; rintro e w3 ⟨rfl, k3⟩)
      have K3 := Lib.hid (K2.out.then k3 (fun _ x => x.elim))
      have KR3 := KR2.out.then k3 (fun _ x => x.elim)
      have hO3 : Hid (Row w3 129 3 (.slice ao k cc) k ((A.take k).flatMap encL) ∧ ∀ g, (Value.slice ao k cc).ownBlock = some g → w.heap.size ≤ g) := ⟨row_kept hO.out.1 KR3 (fun _ _ x => x), hO.out.2⟩
      have hsz := K3.out.size
      clear HL3 k3 K2 KR2 KR3 hO HCB HVV E3 HB1 HB2 q0
      have hlb1 : (lf : Int) ≤ 4294967295 := by omega
      cases sa
      all_goals
        go_wp2_with (at_builtin; refine wpList_append_any rfl (.tmp 45) (.tmp 52) 106 rfl 129 i0 (.agg #[.bool false, .int .u32 0, .int .u32 0]) 3 12 Try.underlying106 hi hz0 hz1 hz2 rfl (by decide) _ _ _ ((A.take k).flatMap encL) rfl (row_alloc hO3.out.1 _) _ 1 1 (encL (_, lf, cy)) rfl (shows_new _ [_, _, _] _ (by simp) rfl) (encL_one _) (by unfold maxLen; omega) (by omega) ?_; intro ao5 c5 w5 r1 r2 r3)
        have O5 : Hid (Row w5 129 3 (.slice ao5 (k + 1) c5) (k + 1) ((A.take (k + 1)).flatMap encL) ∧ ∀ g, (Value.slice ao5 (k + 1) c5).ownBlock = some g → w.heap.size ≤ g) := by
          refine ⟨by rw [HTK.out]; exact r1, fun g hg => ?_⟩
          rcases r3 g hg with h1 | h1
          · exact hO3.out.2 g h1
          · rw [World.size_alloc] at h1; omega
        have KC : Hid (Kept (fun _ => False) w w5) := K3.out.then ((((Kept.refl _ w3).alloc _).grown r2 (fun i e => Or.inl e)) : Kept (fun i => (Value.slice ao k cc).ownBlock = some i) w3 w5) (fun i e => Or.inr (hO3.out.2 i e))
        clear r1 r2 r3 hO3
        go_wp2_with fail
        go_roundw
        case rel => exact ⟨k + 1, ao5, c5, by omega, by go_num, rfl, KC, O5⟩
        case measure => simp [intOf]; omega
    · obtain rfl : k = A.length := by omega
      rw [List.take_length] at hO
      have hO2 := hO.out
      go_wp2_with fail
      go_ret
      exact ⟨ao, cc, rfl, hO2.1, hO2.2, hK.out⟩
end
end Go.Proofs.Ytemhfonneggneaa.BS
