/- Package clock: Rel, Abs, Set, Cancel, each in one form; the law of one alarm over many ticks. -/
import Derived.Test.YtemhfonneggneaaKcQ
/- Package clock: Tick. -/
namespace Go.Proofs.Ytemhfonneggneaa.CK
open Go.RowKit Go.Fr

/-- an alarm, one tick on -/
def tick1 (a : Bool × Nat × Nat) : Bool × Nat × Nat :=
  if a.1 then (if a.2.1 - 1 = 0 then (if a.2.2 = 0 then (false, 0, 0) else (true, a.2.2, a.2.2)) else (true, a.2.1 - 1, a.2.2)) else a
def fires (a : Bool × Nat × Nat) : Bool := a.1 && decide (a.2.1 - 1 = 0)
/-- the alarms that expire, from number k on -/
def fired : List (Bool × Nat × Nat) → Nat → List Int
  | [], _ => []
  | a :: l, k => (if fires a then [(k : Int)] else []) ++ fired l (k + 1)
theorem fired_append : ∀ (l l' : List (Bool × Nat × Nat)) (k : Nat), fired (l ++ l') k = fired l k ++ fired l' (k + l.length)
  | [], l', k => by simp [fired]
  | a :: l, l', k => by
    rw [List.cons_append, fired, fired, fired_append l l' (k + 1), List.append_assoc, List.length_cons, show k + 1 + l.length = k + (l.length + 1) by omega]
theorem fired_length : ∀ (l : List (Bool × Nat × Nat)) (k : Nat), (fired l k).length ≤ l.length
  | [], _ => by simp [fired]
  | a :: l, k => by
    rw [fired, List.length_append, List.length_cons]
    have := fired_length l (k + 1)
    split <;> simp <;> omega

set_option maxRecDepth 100000 in
theorem next_ok (g n : Nat) (hg : g ≤ 4294967295) (hn : n ≤ 4294967295) (w : World) :
    Calls Try.prog 62 #[.int .u32 g, .int .u32 n] w fun e w' => e = .returned (.int .u32 (after g n 1)) ∧ w = w' := by
  go_enter Try.func62, Try.ntmps62
  go_wp2_with fail
  refine (after_ok g n 1 hg hn (by decide) w).mono ?_
  rintro e w1 ⟨rfl, rfl⟩
  go_wp2
  go_ret
  exact ⟨rfl, rfl⟩

/-- the tick's state behind k alarms -/
def mid (l : List (Bool × Nat × Nat)) (k : Nat) : List (Bool × Nat × Nat) := (l.take k).map tick1 ++ l.drop k
theorem mid_length (l : List (Bool × Nat × Nat)) (k : Nat) : (mid l k).length = l.length := by simp [mid]; omega
theorem mid_at {l : List (Bool × Nat × Nat)} {k : Nat} {a : Bool × Nat × Nat} (h : l[k]? = some a) : (mid l k)[k]? = some a := by
  have hk := (List.getElem?_eq_some_iff.1 h).1
  unfold mid
  rw [List.getElem?_append_right (by simp; omega)]
  simp [Nat.min_eq_left (Nat.le_of_lt hk), h]
theorem mid_succ {l : List (Bool × Nat × Nat)} {k : Nat} {a : Bool × Nat × Nat} (h : l[k]? = some a) : (mid l k).set k (tick1 a) = mid l (k + 1) := by
  have hk := (List.getElem?_eq_some_iff.1 h).1
  unfold mid
  rw [List.set_append_right _ _ (by simp; omega)]
  have e : k - (List.map tick1 (List.take k l)).length = 0 := by simp; omega
  rw [e, List.drop_eq_getElem_cons hk, List.set_cons_zero, List.take_add_one, h]
  have ea : l[k] = a := (List.getElem?_eq_some_iff.1 h).2
  simp
theorem fired_succ {l : List (Bool × Nat × Nat)} {k : Nat} {a : Bool × Nat × Nat} (h : l[k]? = some a) : fired (l.take (k + 1)) 0 = fired (l.take k) 0 ++ (if fires a then [(k : Int)] else []) := by
  have hk := (List.getElem?_eq_some_iff.1 h).1
  rw [List.take_add_one, h, Option.toList_some, fired_append, fired, fired, List.append_nil]
  simp [Nat.min_eq_left (Nat.le_of_lt hk)]

section
variable {w : World} {b : Nat} {v : Value} {m n x : Nat} {l : List (Bool × Nat × Nat)}

theorem IsClk.setValue {x' : Nat} (hs : IsClk w b v m n x l) (hx : x' ≤ m) : IsClk (w.setCell ⟨b, 3, none⟩ (.int .u32 x')) b v m n x' l :=
  ⟨hs.1.set 3 _, row_setCell_other hs.2.1 hs.2.2.1 _, hs.2.2.1, { hs.2.2.2 with hvalue := hx }⟩

/-- a clock without its bounds -/
def IsC (w : World) (b : Nat) (v : Value) (m n x : Nat) (l : List (Bool × Nat × Nat)) : Prop :=
  Blk w b [.bool true, .int .u32 m, .int .u32 n, .int .u32 x, v] 138 ∧ Row w 142 3 v l.length (l.flatMap encA) ∧ v.ownBlock ≠ some b
theorem IsClk.c (hs : IsClk w b v m n x l) : IsC w b v m n x l := ⟨hs.1, hs.2.1, hs.2.2.1⟩
theorem IsC.kept {w' : World} {S : Nat → Prop} (hs : IsC w b v m n x l) (k : Kept S w w') (hn : ∀ i, foot b v i → ¬ S i) : IsC w' b v m n x l :=
  ⟨hs.1.kept k (hn _ (Or.inl rfl)), row_kept hs.2.1 k (fun _ hg => hn _ (Or.inr hg)), hs.2.2⟩
theorem IsC.alarm (hs : IsC w b v m n x l) {k : Nat} {s : Bool} {lf cy : Nat} (h : l[k]? = some (s, lf, cy)) : ∃ g c, v = .slice (some ⟨g, 0, none⟩) l.length c ∧ g ≠ b ∧ g < w.heap.size ∧
    w.cell? ⟨g, k * 3, none⟩ = some (.bool s) ∧ w.cell? ⟨g, k * 3 + 1, none⟩ = some (.int .u64 lf) ∧ w.cell? ⟨g, k * 3 + 2, none⟩ = some (.int .u32 cy) ∧
    w.frozen? ⟨g, k * 3, none⟩ = false ∧ w.frozen? ⟨g, k * 3 + 1, none⟩ = false ∧ w.frozen? ⟨g, k * 3 + 2, none⟩ = false := by
  have hr := hs.2.1
  have hk := (List.getElem?_eq_some_iff.1 h).1
  rcases row_forms hr with ⟨_, h0⟩ | ⟨g, c, rfl, _, _, hg⟩
  · omega
  · refine ⟨g, c, rfl, fun e => hs.2.2 (by rw [← e]; rfl), hg, ?_, ?_, ?_, row_frozen hr _, row_frozen hr _, row_frozen hr _⟩
    · exact rows_cell (i := 0) encA_len hr h rfl
    · exact rows_cell (i := 1) encA_len hr h rfl
    · exact rows_cell (i := 2) encA_len hr h rfl
theorem IsC.put {g c k i : Nat} {a : Bool × Nat × Nat} (a' : Bool × Nat × Nat) {u : Value} (hs : IsC w b (.slice (some ⟨g, 0, none⟩) l.length c) m n x l) (h : l[k]? = some a) (hi : i < 3) (e : encA a' = (encA a).set i u) :
    IsC (w.setCell ⟨g, k * 3 + i, none⟩ u) b (.slice (some ⟨g, 0, none⟩) l.length c) m n x (l.set k a') := by
  have hg : g ≠ b := fun e => hs.2.2 (by rw [← e]; rfl)
  exact ⟨hs.1.other hg _, by rw [List.length_set]; exact rows_set encA_len hs.2.1 a' h hi e, hs.2.2⟩

/-- the tick under way -/
structure Ticking (w : World) (b : Nat) (v : Value) (m n x : Nat) (l : List (Bool × Nat × Nat)) (k : Nat) (r : Value) (wr : World) : Prop where
  clk : IsC wr b v m n x (mid l k)
  row : Row wr 3 1 r (fired (l.take k) 0).length ((fired (l.take k) 0).map (Value.int .i64))
  own : ∀ g, r.ownBlock = some g → w.heap.size ≤ g
  kept : Kept (foot b v) w wr

theorem mid_same {l : List (Bool × Nat × Nat)} {k : Nat} {a : Bool × Nat × Nat} (h : l[k]? = some a) (e : tick1 a = a) : mid l (k + 1) = mid l k := by
  have hk := (List.getElem?_eq_some_iff.1 h).1
  rw [← mid_succ h, e]
  apply List.ext_getElem?
  intro i
  rw [List.getElem?_set]
  split
  · rename_i hi
    subst hi
    rw [mid_length, if_pos hk, mid_at h]
  · rfl

theorem Ticking.skip {k : Nat} {r : Value} {wr w0 : World} {a : Bool × Nat × Nat} (hT : Ticking w0 b v m n x l k r wr) (h : l[k]? = some a) (e : tick1 a = a) (hf : fires a = false) : Ticking w0 b v m n x l (k + 1) r wr := by
  have hfd : fired (l.take (k + 1)) 0 = fired (l.take k) 0 := by rw [fired_succ h, hf]; simp
  exact ⟨by rw [mid_same h e]; exact hT.clk, by rw [hfd]; exact hT.row, hT.own, hT.kept⟩

theorem Ticking.dec {k g c lf cy : Nat} {r : Value} {wr w0 : World} (hT : Ticking w0 b (.slice (some ⟨g, 0, none⟩) l.length c) m n x l k r wr) (h : l[k]? = some (true, lf, cy)) (hl : 2 ≤ lf) (hlt : ∀ i, foot b (.slice (some ⟨g, 0, none⟩) l.length c) i → i < w0.heap.size) :
    Ticking w0 b (.slice (some ⟨g, 0, none⟩) l.length c) m n x l (k + 1) r (wr.setCell ⟨g, k * 3 + 1, none⟩ (.int .u64 ((lf - 1 : Nat) : Int))) := by
  have ht : tick1 (true, lf, cy) = (true, lf - 1, cy) := by simp [tick1]; omega
  have hf : fires (true, lf, cy) = false := by simp [fires]; omega
  have hfd : fired (l.take (k + 1)) 0 = fired (l.take k) 0 := by rw [fired_succ h, hf]; simp
  have hc := hT.clk
  have hml := mid_length l k
  have hp : IsC (wr.setCell ⟨g, k * 3 + 1, none⟩ (.int .u64 ((lf - 1 : Nat) : Int))) b (.slice (some ⟨g, 0, none⟩) l.length c) m n x (mid l (k + 1)) := by
    rw [← mid_succ h, ht, ← hml]
    rw [← hml] at hc
    exact hc.put (i := 1) (true, lf - 1, cy) (mid_at h) (by decide) rfl
  have hg : g < w0.heap.size := hlt g (Or.inr rfl)
  exact ⟨hp, by rw [hfd]; exact row_setCell_other hT.row (fun e => by have := hT.own _ e; simp at this; omega) _, hT.own, hT.kept.setCell (p := ⟨g, k * 3 + 1, none⟩) (Or.inl (Or.inr rfl)) _⟩

theorem IsC.put' {g c k i N : Nat} {a : Bool × Nat × Nat} (a' : Bool × Nat × Nat) {u : Value} (hN : l.length = N) (hs : IsC w b (.slice (some ⟨g, 0, none⟩) N c) m n x l) (h : l[k]? = some a) (hi : i < 3) (e : encA a' = (encA a).set i u) :
    IsC (w.setCell ⟨g, k * 3 + i, none⟩ u) b (.slice (some ⟨g, 0, none⟩) N c) m n x (l.set k a') := by
  subst hN; exact hs.put a' h hi e

/-- a cell of an alarm is written anew -/
theorem IsC.again {g c k i N : Nat} {L : List (Bool × Nat × Nat)} {a : Bool × Nat × Nat} (a' : Bool × Nat × Nat) {u : Value} (hN : L.length = N) (hk : k < N) (hs : IsC w b (.slice (some ⟨g, 0, none⟩) N c) m n x (L.set k a)) (hi : i < 3) (e : encA a' = (encA a).set i u) :
    IsC (w.setCell ⟨g, k * 3 + i, none⟩ u) b (.slice (some ⟨g, 0, none⟩) N c) m n x (L.set k a') := by
  have h := hs.put' (k := k) (i := i) (a := a) a' (by rw [List.length_set, hN]) (by rw [List.getElem?_set_self (by omega)]) hi e
  rwa [List.set_set] at h

theorem Ticking.fire {k g c c3 : Nat} {ao3 : Option Addr} {a : Bool × Nat × Nat} {we w0 : World} (h : l[k]? = some a) (hf : fires a = true) (hC : IsC we b (.slice (some ⟨g, 0, none⟩) l.length c) m n x ((mid l k).set k (tick1 a)))
    (hr : Row we 3 1 (.slice ao3 ((fired (l.take k) 0).length + 1) c3) ((fired (l.take k) 0).length + 1) ((fired (l.take k) 0).map (Value.int .i64) ++ [.int .i64 k])) (ho : ∀ i, (Value.slice ao3 ((fired (l.take k) 0).length + 1) c3).ownBlock = some i → w0.heap.size ≤ i)
    (hk : Kept (foot b (.slice (some ⟨g, 0, none⟩) l.length c)) w0 we) : (fired (l.take (k + 1)) 0).length = (fired (l.take k) 0).length + 1 ∧ Ticking w0 b (.slice (some ⟨g, 0, none⟩) l.length c) m n x l (k + 1) (.slice ao3 ((fired (l.take k) 0).length + 1) c3) we := by
  have hfd : fired (l.take (k + 1)) 0 = fired (l.take k) 0 ++ [(k : Int)] := by rw [fired_succ h, hf]; rfl
  have hfl : (fired (l.take (k + 1)) 0).length = (fired (l.take k) 0).length + 1 := by rw [hfd]; simp
  refine ⟨hfl, by rw [← mid_succ h]; exact hC, ?_, ho, hk⟩
  rw [hfl, hfd, List.map_append]
  exact hr

theorem info_i : (Try.prog.info? 3).map (fun i => (i.zero, i.size, i.bytes)) = some (some (.int .i64 0), 1, 8) := by kernel_rfl

set_option maxRecDepth 100000 in
set_option maxHeartbeats 4000000 in
theorem tick_ok (hs : IsClk w b v m n x l) : Calls Try.prog 30 #[.pointer (some ⟨b, 0, none⟩)] w fun e w' =>
    ∃ ao c, e = .returned (.slice ao (fired l 0).length c) ∧ IsClk w' b v m n (after m x 1) (l.map tick1) ∧ Kept (foot b v) w w' ∧
      Row w' 3 1 (.slice ao (fired l 0).length c) (fired l 0).length ((fired l 0).map (Value.int .i64)) ∧ (∀ g, (Value.slice ao (fired l 0).length c).ownBlock = some g → w.heap.size ≤ g) := by
  have hm := hs.2.2.2.hmost
  have hv := hs.2.2.2.hvalue
  have hl := hs.2.2.2.hlen
  have c1 := hs.1.cell 1 rfl
  have c3 := hs.1.cell 3 rfl
  have f3 := hs.1.frozen 3
  obtain ⟨i0, hi, hz0, hz1, hz2⟩ := info_parts info_i
  have hax : after m x 1 ≤ m := by unfold after; have := Nat.mod_lt (min x m + 1 % (m + 1)) (show 0 < m + 1 by omega); omega
  have hnx : ∀ w, Calls Try.prog 62 #[.int .u32 m, .int .u32 x] w fun e w' => e = .returned (.int .u32 (after m x 1)) ∧ w = w' := fun w => next_ok m x (by omega) (by omega) w
  go_enter Try.func30, Try.ntmps30
  go_upto_region 3 with (first | (go_at_call 61; refine (alive_ok hs).mono ?_; rintro e w' ⟨rfl, rfl⟩))
  go_cut [] from 9 to 21 (fun wx => wx = (w.setCell ⟨b, 3, none⟩ (.int .u32 (after m x 1 : Nat))).drew)
  case first =>
    go_region_with (first
      | (go_at_call 62; refine (hnx _).mono ?_; rintro e w5 ⟨rfl, rfl⟩))
    all_goals (go_wp2_with fail; go_meet; exact rfl)
  case rest =>
    obtain rfl := hcut
    have hs1 : IsClk (w.setCell ⟨b, 3, none⟩ (.int .u32 (after m x 1 : Nat))).drew b v m n (after m x 1) l := hs.setValue hax
    have k1 : Kept (foot b v) w (w.setCell ⟨b, 3, none⟩ (.int .u32 (after m x 1 : Nat))).drew := ((Kept.refl _ w).setCell (p := ⟨b, 3, none⟩) (Or.inl (Or.inl rfl)) _).drew
    obtain ⟨w1, hw1⟩ : ∃ w1, (w.setCell ⟨b, 3, none⟩ (.int .u32 (after m x 1 : Nat))).drew = w1 := ⟨_, rfl⟩
    rw [hw1] at hs1 k1 ⊢
    clear hw1 c1 c3 f3
    have c4 := hs1.1.cell 4 rfl
    obtain ⟨ao, c, rfl, hc⟩ := row_any hs1.2.1
    go_wp2
    have hlt := hs.lt
    have hT0 : Hid (Ticking w b (.slice ao l.length c) m n (after m x 1) l 0 (.slice none 0 0) w1) := ⟨by simpa [mid] using hs1.c, World.ownsRow_nil _ _ _ _, by simp [Value.ownBlock], k1⟩
    have hfn := Lib.hid hs1.2.2.2
    clear hs1 k1 c4 hs hnx
    go_loopw [3, 26] (fun r i wr => ∃ (k : Nat) (ao' : Option Addr) (c' : Nat), k ≤ l.length ∧ i = .int .i64 k ∧ r = .slice ao' (fired (l.take k) 0).length c' ∧ Hid (Ticking w b (.slice ao l.length c) m n (after m x 1) l k (.slice ao' (fired (l.take k) 0).length c') wr)) (fun _ i _ => l.length - (intOf i).toNat)
    case atStart => exact ⟨0, none, 0, Nat.zero_le _, rfl, rfl, hT0⟩
    case round =>
      obtain ⟨k, ao', c', hk, rfl, rfl, hT⟩ := hrel
      clear hT0
      by_cases hkl : k < l.length
      · obtain ⟨a, ha⟩ : ∃ a, l[k]? = some a := ⟨_, List.getElem?_eq_getElem hkl⟩
        obtain ⟨s, lf, cy⟩ := a
        have hk0 : (0 : Int) ≤ (k : Int) := Int.natCast_nonneg _
        have hk1 : (k : Int) < (l.length : Int) := by omega
        obtain ⟨g, c2, hv', hgb, hgl, e0, e1, e2, z0, z1, z2⟩ := hT.out.clk.alarm (mid_at ha)
        rw [mid_length] at hv'
        cases hv'
        have c4 := hT.out.clk.1.cell 4 rfl
        cases s with
        | false =>
          go_wp2
          go_roundw
          case rel =>
            have hN := hT.out.skip ha rfl rfl
            have hfd : fired (l.take (k + 1)) 0 = fired (l.take k) 0 := by rw [fired_succ ha]; simp [fires]
            exact ⟨k + 1, ao', c', by omega, by go_num, by rw [hfd], by rw [hfd]; exact hN⟩
          case measure => simp [intOf]; omega
        | true =>
          have hlf := hfn.out.hset _ (List.mem_of_getElem? ha) rfl
          have hlf2 := hfn.out.hleft _ (List.mem_of_getElem? ha)
          simp only at hlf hlf2
          by_cases h2 : 2 ≤ lf
          · have hw : IntKind.u64.wrap ((lf : Int) - 1) = ((lf - 1 : Nat) : Int) := by rw [IntWalk.u64_in _ (by omega)]; omega
            have hpos : (0 : Int) < ((lf - 1 : Nat) : Int) := by omega
            have hwp : decide ((0 : Int) < ((lf - 1 : Nat) : Int)) = true := by simp; omega
            go_wp2
            go_roundw
            case rel =>
              have hN := hT.out.dec ha h2 hlt
              have hfd : fired (l.take (k + 1)) 0 = fired (l.take k) 0 := by rw [fired_succ ha]; simp [fires]; omega
              exact ⟨k + 1, ao', c', by omega, by go_num, by rw [hfd], by rw [hfd]; exact hN⟩
            case measure => simp [intOf]; omega
          · obtain rfl : lf = 1 := by omega
            have hC1 : IsC (wr.setCell ⟨g, k * 3 + 1, none⟩ (.int .u64 0)) b (.slice (some ⟨g, 0, none⟩) (mid l k).length c) m n (after m x 1) ((mid l k).set k (true, 0, cy)) := by
              have hc := hT.out.clk
              rw [← mid_length l k] at hc
              exact hc.put (i := 1) (true, 0, cy) (mid_at ha) (by decide) rfl
            rw [mid_length] at hC1
            have hflen := fired_length (l.take k) 0
            rw [List.length_take] at hflen
            have hrow := row_setCell_other hT.out.row (a := ⟨g, k * 3 + 1, none⟩) (fun e => by have := hT.out.own _ e; have := hlt g (Or.inr rfl); simp at *; omega) (.int .u64 0)
            go_wp2_with ((at_builtin; refine wpList_append_any rfl (.tmp 52) (.tmp 54) 40 rfl 3 i0 (.int .i64 0) 1 8 Try.underlying40 hi hz0 hz1 hz2 rfl (by decide) _ _ _ ((fired (l.take k) 0).map (Value.int .i64)) rfl ?hrow _ 1 1 [.int .i64 k] rfl ?hnew (by simp [Value.oneCell']) ?b1 ?b2 ?_))
            case hrow => exact row_alloc hrow _
            case hnew => exact shows_new _ [_] _ (by simp) rfl
            case b1 => unfold maxLen; omega
            case b2 => omega
            intro ao3 c3 wc r1 r2 r3
            have hown : ∀ i, foot b (.slice (some ⟨g, 0, none⟩) l.length c) i → (Value.slice ao' (fired (l.take k) 0).length c').ownBlock ≠ some i := fun i hi e => by have := hT.out.own _ e; have := hlt i hi; omega
            have hC2 : IsC wc b (.slice (some ⟨g, 0, none⟩) l.length c) m n (after m x 1) ((mid l k).set k (true, 0, cy)) :=
              (hC1.kept ((Kept.refl (fun _ => False) _).alloc _) (fun _ _ h => h)).kept (S := fun i => (Value.slice ao' (fired (l.take k) 0).length c').ownBlock = some i) ((Kept.refl _ _).grown r2 (fun k hk => Or.inl hk)) hown
            have hcell : ((mid l k).set k (true, 0, cy))[k]? = some (true, 0, cy) := by rw [List.getElem?_set_self (by rw [mid_length]; exact hkl)]
            obtain ⟨g', c5, hv2, hgb2, hgl2, y0, y1, y2, x0, x1, x2⟩ := hC2.alarm hcell
            rw [List.length_set, mid_length] at hv2
            cases hv2
            have kc : Kept (foot b (.slice (some ⟨g, 0, none⟩) l.length c)) w wc := ((hT.out.kept.setCell (p := ⟨g, k * 3 + 1, none⟩) (Or.inl (Or.inr rfl)) _).alloc _).grown r2 (fun i e => Or.inr (hT.out.own i e))
            by_cases hcy : cy = 0
            · subst hcy
              go_wp2
              have ho3 : ∀ i, (Value.slice ao3 ((fired (l.take k) 0).length + 1) c3).ownBlock = some i → w.heap.size ≤ i := fun i e => (r3 i e).elim (fun h => hT.out.own i h) (fun h => by have := kc.size; have := hT.out.kept.size; omega)
              have hg3 : (Value.slice ao3 ((fired (l.take k) 0).length + 1) c3).ownBlock ≠ some g := fun e => by have := ho3 _ e; have := hlt g (Or.inr rfl); omega
              have q0 := hC2.again (i := 1) (true, 0, 0) (u := .int .u64 0) (mid_length l k) hkl (by decide) rfl
              have q1 := q0.again (i := 0) (false, 0, 0) (u := .bool false) (mid_length l k) hkl (by decide) rfl
              have q2 := q1.again (i := 1) (false, 0, 0) (u := .int .u64 0) (mid_length l k) hkl (by decide) rfl
              have q3 := q2.again (i := 2) (false, 0, 0) (u := .int .u32 0) (mid_length l k) hkl (by decide) rfl
              have hF := Ticking.fire (w0 := w) (a := (true, 1, 0)) ha rfl q3 (row_setCell_other (row_setCell_other (row_setCell_other (row_setCell_other r1 hg3 _) hg3 _) hg3 _) hg3 _) ho3
                ((((kc.setCell (p := ⟨g, k * 3 + 1, none⟩) (Or.inl (Or.inr rfl)) _).setCell (p := ⟨g, k * 3 + 0, none⟩) (Or.inl (Or.inr rfl)) _).setCell (p := ⟨g, k * 3 + 1, none⟩) (Or.inl (Or.inr rfl)) _).setCell (p := ⟨g, k * 3 + 2, none⟩) (Or.inl (Or.inr rfl)) _)
              go_roundw
              case rel => exact ⟨k + 1, ao3, c3, by omega, by go_num, by rw [hF.1], by rw [hF.1]; exact hF.2⟩
              case measure => simp [intOf]; omega
            · have hcy2 : ¬ ((cy : Int) = 0) := by omega
              go_wp2
              have ho3 : ∀ i, (Value.slice ao3 ((fired (l.take k) 0).length + 1) c3).ownBlock = some i → w.heap.size ≤ i := fun i e => (r3 i e).elim (fun h => hT.out.own i h) (fun h => by have := kc.size; have := hT.out.kept.size; omega)
              have hg3 : (Value.slice ao3 ((fired (l.take k) 0).length + 1) c3).ownBlock ≠ some g := fun e => by have := ho3 _ e; have := hlt g (Or.inr rfl); omega
              have hcm := hfn.out.hcycle _ (List.mem_of_getElem? ha)
              simp only at hcm
              have hwc : IntKind.u64.wrap (cy : Int) = (cy : Int) := IntWalk.u64_in _ (by omega)
              have ht : tick1 (true, 1, cy) = (true, cy, cy) := by simp [tick1, hcy]
              have q0 := hC2.again (i := 1) (true, cy, cy) (u := .int .u64 cy) (mid_length l k) hkl (by decide) rfl
              have hF := Ticking.fire (w0 := w) (a := (true, 1, cy)) ha rfl (by rw [ht]; exact q0) (row_setCell_other r1 hg3 _) ho3 (kc.setCell (p := ⟨g, k * 3 + 1, none⟩) (Or.inl (Or.inr rfl)) _)
              rw [hwc]
              go_roundw
              case rel => exact ⟨k + 1, ao3, c3, by omega, by go_num, by rw [hF.1], by rw [hF.1]; exact hF.2⟩
              case measure => simp [intOf]; omega
      · have hkk : k = l.length := by omega
        subst hkk
        have hN := hT.out
        have e1 : mid l l.length = l.map tick1 := by simp [mid]
        have h1 := hN.clk
        have h2 := hN.row
        have h3 := hN.own
        rw [e1] at h1
        rw [List.take_length] at h2 h3
        have hfine : Fine m n (after m x 1) (l.map tick1) := by
          have hf := hfn.out
          refine ⟨hf.hmost, hf.hleast, hf.hvalue, by simpa using hf.hlen, ?_, ?_, ?_⟩
          all_goals
            intro a ha
            obtain ⟨⟨s, lf, cy⟩, hm', rfl⟩ := List.mem_map.1 ha
            have l1 := hf.hleft _ hm'
            have l2 := hf.hcycle _ hm'
            have l3 := hf.hset _ hm'
            have l4 := hf.hmost
            simp only at l1 l2 l3
            unfold tick1
            simp only
            repeat' split
            all_goals (first | omega | (simp; omega) | (simp_all; omega) | simp_all)
        go_wp2
        go_ret
        rw [List.take_length]
        exact ⟨ao', c', rfl, ⟨h1.1, by simpa using h1.2.1, h1.2.2, hfine⟩, hN.kept, h2, h3⟩
end
end Go.Proofs.Ytemhfonneggneaa.CK
/- tappetlaw16: num, alive. -/
namespace Go.Proofs.Ytemhfonneggneaa.CK
open Go.RowKit Go.Fr

def a0 : List (Bool × Nat × Nat) := List.replicate 3 (false, 0, 0)
def a1 : List (Bool × Nat × Nat) := [(true, 2, 0), (false, 0, 0), (false, 0, 0)]
def a2 : List (Bool × Nat × Nat) := [(true, 2, 0), (true, 2, 3), (false, 0, 0)]

def a3 : List (Bool × Nat × Nat) := [(true, 1, 0), (true, 1, 3), (false, 0, 0)]
def a4 : List (Bool × Nat × Nat) := [(false, 0, 0), (true, 3, 3), (false, 0, 0)]

end Go.Proofs.Ytemhfonneggneaa.CK
namespace Go.Proofs.Ytemhfonneggneaa.CK
open Go.RowKit Go.Fr

/-- an alarm is put -/
def putL (l : List (Bool × Nat × Nat)) (i : Int) (fine : Bool) (lf cy : Nat) : List (Bool × Nat × Nat) × Int :=
  if 0 ≤ i then (match l[i.toNat]? with | none => (l, 3) | some a => if a.1 then (l, 7) else if fine then (l.set i.toNat (true, lf, cy), 0) else (l, 8)) else (l, 3)
def cancelL (l : List (Bool × Nat × Nat)) (i : Int) : List (Bool × Nat × Nat) × Int :=
  if 0 ≤ i then (match l[i.toNat]? with | none => (l, 3) | some a => if a.1 then (l.set i.toNat (false, 0, 0), 0) else (l, 5)) else (l, 3)

theorem putL_no {l : List (Bool × Nat × Nat)} {i : Int} (h : (decide (0 ≤ i) && decide (i < l.length)) = false) (f : Bool) (lf cy : Nat) : putL l i f lf cy = (l, 3) := by
  unfold putL
  by_cases h0 : 0 ≤ i
  · have h1 : l.length ≤ i.toNat := by simp [h0] at h; omega
    rw [if_pos h0, List.getElem?_eq_none h1]
  · rw [if_neg h0]
theorem putL_at {l : List (Bool × Nat × Nat)} {k : Nat} {a : Bool × Nat × Nat} (h : l[k]? = some a) (f : Bool) (lf cy : Nat) : putL l k f lf cy = if a.1 then (l, 7) else if f then (l.set k (true, lf, cy), 0) else (l, 8) := by
  unfold putL
  rw [if_pos (Int.natCast_nonneg _), Int.toNat_natCast, h]
theorem cancelL_no {l : List (Bool × Nat × Nat)} {i : Int} (h : (decide (0 ≤ i) && decide (i < l.length)) = false) : cancelL l i = (l, 3) := by
  unfold cancelL
  by_cases h0 : 0 ≤ i
  · have h1 : l.length ≤ i.toNat := by simp [h0] at h; omega
    rw [if_pos h0, List.getElem?_eq_none h1]
  · rw [if_neg h0]
theorem cancelL_at {l : List (Bool × Nat × Nat)} {k : Nat} {a : Bool × Nat × Nat} (h : l[k]? = some a) : cancelL l k = if a.1 then (l.set k (false, 0, 0), 0) else (l, 5) := by
  unfold cancelL
  rw [if_pos (Int.natCast_nonneg _), Int.toNat_natCast, h]

theorem putL_length (l : List (Bool × Nat × Nat)) (i : Int) (f : Bool) (lf cy : Nat) : (putL l i f lf cy).1.length = l.length := by
  unfold putL; repeat' split
  all_goals simp
theorem cancelL_length (l : List (Bool × Nat × Nat)) (i : Int) : (cancelL l i).1.length = l.length := by
  unfold cancelL; repeat' split
  all_goals simp
theorem putL_other (l : List (Bool × Nat × Nat)) (i : Int) (f : Bool) (lf cy : Nat) {k : Nat} (h : i ≠ k) : (putL l i f lf cy).1[k]? = l[k]? := by
  unfold putL; repeat' split
  all_goals (first | rfl | (rw [List.getElem?_set_ne (by omega)]))
theorem cancelL_other (l : List (Bool × Nat × Nat)) (i : Int) {k : Nat} (h : i ≠ k) : (cancelL l i).1[k]? = l[k]? := by
  unfold cancelL; repeat' split
  all_goals (first | rfl | (rw [List.getElem?_set_ne (by omega)]))
theorem cancelL_snd (l : List (Bool × Nat × Nat)) (i : Int) : (cancelL l i).2 = ofS l i := by
  unfold cancelL ofS; repeat' split
  all_goals (first | rfl | simp_all)

theorem until_in (g n v : Nat) : 1 ≤ until' g n v ∧ until' g n v ≤ g + 1 := by
  unfold until'
  have := Nat.min_le_right n g
  have := Nat.min_le_right v g
  split <;> omega
theorem cyc_le {n m cy : Nat} (h : cycB n m cy = true) : cy ≤ m := by
  simp [cycB] at h; omega

section
variable {w : World} {b : Nat} {v : Value} {m n x : Nat} {l : List (Bool × Nat × Nat)}

theorem IsClk.same {w' : World} (hs : IsClk w b v m n x l) (k : Kept (fun _ => False) w w') : IsClk w' b v m n x l ∧ Kept (foot b v) w w' := ⟨hs.kept k (fun _ _ h => h), k.mono (fun _ _ h => h.elim)⟩

theorem rel_all (i : Int) (t cy : Nat) (ht : t ≤ 4294967295) (hs : IsClk w b v m n x l) : Calls Try.prog 33 #[.pointer (some ⟨b, 0, none⟩), .int .i64 i, .int .u32 t, .int .u32 cy] w fun e w' =>
    e = .returned (.int .i64 (putL l i (decide (1 ≤ t) && decide (t ≤ m) && cycB n m cy) t cy).2) ∧ IsClk w' b v m n x (putL l i (decide (1 ≤ t) && decide (t ≤ m) && cycB n m cy) t cy).1 ∧ Kept (foot b v) w w' := by
  cases hh : (decide (0 ≤ i) && decide (i < l.length)) with
  | false =>
    rw [putL_no hh]
    exact (rel_no i t cy hs hh).mono fun e w' ⟨he, k⟩ => ⟨he, hs.same k⟩
  | true =>
    obtain ⟨k, ⟨s, lf, c'⟩, rfl, hk, hx⟩ := at_of hh
    rw [putL_at hx]
    cases s with
    | true => exact (rel_set t cy hs hx).mono fun e w' ⟨he, k⟩ => ⟨he, hs.same k⟩
    | false =>
      cases hf : (decide (1 ≤ t) && decide (t ≤ m) && cycB n m cy) with
      | false => exact (rel_bad ht hs hx hf).mono fun e w' ⟨he, k⟩ => ⟨he, hs.same k⟩
      | true =>
        have h1 : 1 ≤ t := by simp at hf; omega
        have h2 : cycB n m cy = true := by simp at hf; exact hf.2
        exact (rel_ok ht hs hx hf ⟨h1, by omega⟩ (cyc_le h2)).mono fun e w' ⟨he, h, k⟩ => ⟨he, h, k⟩

theorem abs_all (i : Int) (t cy : Nat) (ht : t ≤ 4294967295) (hs : IsClk w b v m n x l) : Calls Try.prog 32 #[.pointer (some ⟨b, 0, none⟩), .int .i64 i, .int .u32 t, .int .u32 cy] w fun e w' =>
    e = .returned (.int .i64 (putL l i (decide (t ≤ m) && cycB n m cy) (until' m x t) cy).2) ∧ IsClk w' b v m n x (putL l i (decide (t ≤ m) && cycB n m cy) (until' m x t) cy).1 ∧ Kept (foot b v) w w' := by
  have hu := until_in m x t
  have hm := hs.2.2.2.hmost
  cases hh : (decide (0 ≤ i) && decide (i < l.length)) with
  | false =>
    rw [putL_no hh]
    exact (abs_no i t cy hs hh).mono fun e w' ⟨he, k⟩ => ⟨he, hs.same k⟩
  | true =>
    obtain ⟨k, ⟨s, lf, c'⟩, rfl, hk, hx⟩ := at_of hh
    rw [putL_at hx]
    cases s with
    | true => exact (abs_set t cy hs hx).mono fun e w' ⟨he, k⟩ => ⟨he, hs.same k⟩
    | false =>
      cases hf : (decide (t ≤ m) && cycB n m cy) with
      | false => exact (abs_bad ht hs hx hf).mono fun e w' ⟨he, k⟩ => ⟨he, hs.same k⟩
      | true =>
        have h2 : cycB n m cy = true := by simp at hf; exact hf.2
        exact (abs_ok ht hs hx hf ⟨hu.1, by omega⟩ (cyc_le h2)).mono fun e w' ⟨he, h, k⟩ => ⟨he, h, k⟩

theorem set_all (i : Int) (t cy : Nat) (ht : t ≤ 4294967295) (hs : IsClk w b v m n x l) : Calls Try.prog 77 #[.pointer (some ⟨b, 0, none⟩), .int .i64 i, .int .u32 t, .int .u32 cy] w fun e w' =>
    e = .returned (.int .i64 (putL l i (decide (1 ≤ t) && decide (t ≤ m + 1) && decide (cy ≤ m)) t cy).2) ∧ IsClk w' b v m n x (putL l i (decide (1 ≤ t) && decide (t ≤ m + 1) && decide (cy ≤ m)) t cy).1 ∧ Kept (foot b v) w w' := by
  have hm := hs.2.2.2.hmost
  cases hh : (decide (0 ≤ i) && decide (i < l.length)) with
  | false =>
    rw [putL_no hh]
    exact (set_no i t cy hs hh).mono fun e w' ⟨he, k⟩ => ⟨he, hs.same k⟩
  | true =>
    obtain ⟨k, ⟨s, lf, c'⟩, rfl, hk, hx⟩ := at_of hh
    rw [putL_at hx]
    cases s with
    | true => exact (set_set t cy hs hx).mono fun e w' ⟨he, k⟩ => ⟨he, hs.same k⟩
    | false =>
      cases hf : (decide (1 ≤ t) && decide (t ≤ m + 1) && decide (cy ≤ m)) with
      | false => exact (set_bad ht hs hx hf).mono fun e w' ⟨he, k⟩ => ⟨he, hs.same k⟩
      | true =>
        have h1 : 1 ≤ t ∧ t ≤ m + 1 ∧ cy ≤ m := by simp at hf; omega
        exact (set_ok ht hs hx hf ⟨h1.1, by omega⟩ h1.2.2).mono fun e w' ⟨he, h, k⟩ => ⟨he, h, k⟩

theorem cancel_all (i : Int) (hs : IsClk w b v m n x l) : Calls Try.prog 34 #[.pointer (some ⟨b, 0, none⟩), .int .i64 i] w fun e w' =>
    e = .returned (.int .i64 (cancelL l i).2) ∧ IsClk w' b v m n x (cancelL l i).1 ∧ Kept (foot b v) w w' := by
  have hno := cancel_no (i := i) hs
  cases hh : (decide (0 ≤ i) && decide (i < l.length)) with
  | false =>
    rw [cancelL_no hh]
    rw [(of_no hh).2] at hno
    exact (hno (by decide)).mono fun e w' ⟨he, k⟩ => ⟨he, hs.same k⟩
  | true =>
    obtain ⟨k, ⟨s, lf, c'⟩, rfl, hk, hx⟩ := at_of hh
    rw [cancelL_at hx]
    cases s with
    | true => exact (cancel_ok hs hx).mono fun e w' ⟨he, h, k⟩ => ⟨he, h, k⟩
    | false =>
      rw [(of_at hx).2] at hno
      exact (hno (by simp)).mono fun e w' ⟨he, k⟩ => ⟨he, hs.same k⟩
end

theorem succ_mod (a c : Nat) (hc : 0 < c) : (a + 1) % c = if a % c + 1 = c then 0 else a % c + 1 := by
  have h := Nat.div_add_mod a c
  have hl := Nat.mod_lt a hc
  split
  · rename_i e
    have h2 : a + 1 = c * (a / c + 1) := by rw [Nat.mul_add]; omega
    rw [h2, Nat.mul_mod_right]
  · have h2 : a + 1 = (a % c + 1) + c * (a / c) := by omega
    rw [h2, Nat.add_mul_mod_self_left, Nat.mod_eq_of_lt (by omega)]

/-- an alarm that was set to d ticks, j ticks behind -/
def al (d cy j : Nat) : Bool × Nat × Nat := if j < d then (true, d - j, cy) else if cy = 0 then (false, 0, 0) else (true, cy - (j - d) % cy, cy)
def due (d cy t : Nat) : Bool := decide (t = d) || (decide (d < t) && decide (0 < cy) && decide ((t - d) % cy = 0))

theorem al_zero {d : Nat} (cy : Nat) (h : 1 ≤ d) : al d cy 0 = (true, d, cy) := by
  unfold al; rw [if_pos (by omega)]; rfl
theorem al_tick {d : Nat} (cy j : Nat) (h : 1 ≤ d) : tick1 (al d cy j) = al d cy (j + 1) := by
  unfold al
  rcases Nat.lt_trichotomy (j + 1) d with h1 | h1 | h1
  · rw [if_pos (by omega : j < d), if_pos h1]
    simp only [tick1, if_true]
    rw [if_neg (by omega), show d - j - 1 = d - (j + 1) by omega]
  · subst h1
    rw [if_pos (Nat.lt_succ_self j), if_neg (Nat.lt_irrefl _)]
    simp only [tick1, if_true]
    rw [if_pos (by omega), Nat.sub_self, Nat.zero_mod, Nat.sub_zero]
  · rw [if_neg (show ¬ j < d by omega), if_neg (show ¬ j + 1 < d by omega)]
    by_cases hc : cy = 0
    · rw [if_pos hc, if_pos hc]; rfl
    · rw [if_neg hc, if_neg hc, show j + 1 - d = (j - d) + 1 by omega, succ_mod _ _ (by omega)]
      have hl := Nat.mod_lt (j - d) (show 0 < cy by omega)
      simp only [tick1, if_true]
      by_cases he : (j - d) % cy + 1 = cy
      · rw [if_pos (by omega), if_neg hc, if_pos he, Nat.sub_zero]
      · rw [if_neg (by omega), if_neg he, show cy - (j - d) % cy - 1 = cy - ((j - d) % cy + 1) by omega]
theorem al_fires {d : Nat} (cy j : Nat) (h : 1 ≤ d) : fires (al d cy j) = due d cy (j + 1) := by
  unfold al due
  rcases Nat.lt_trichotomy (j + 1) d with h1 | h1 | h1
  · rw [if_pos (show j < d by omega), decide_eq_false (show ¬ j + 1 = d by omega), decide_eq_false (show ¬ d < j + 1 by omega)]
    simp [fires]; omega
  · subst h1
    rw [if_pos (Nat.lt_succ_self j)]
    simp [fires]
  · rw [if_neg (show ¬ j < d by omega), decide_eq_false (show ¬ j + 1 = d by omega), decide_eq_true (show d < j + 1 by omega)]
    by_cases hc : cy = 0
    · rw [if_pos hc, decide_eq_false (show ¬ 0 < cy by omega)]; simp [fires]
    · rw [if_neg hc, decide_eq_true (show 0 < cy by omega), show j + 1 - d = (j - d) + 1 by omega, succ_mod _ _ (by omega)]
      have hl := Nat.mod_lt (j - d) (show 0 < cy by omega)
      by_cases he : (j - d) % cy + 1 = cy
      · rw [if_pos he]; simp [fires]; omega
      · rw [if_neg he]; simp [fires]; omega
theorem al_set {d : Nat} (cy j : Nat) : (al d cy j).1 = (decide (0 < cy) || decide (j < d)) := by
  unfold al
  by_cases h : j < d
  · rw [if_pos h]; simp [h]
  · rw [if_neg h]
    by_cases hc : cy = 0
    · rw [if_pos hc]; simp [hc, h]
    · rw [if_neg hc]; simp; omega

theorem fired_mem : ∀ (l : List (Bool × Nat × Nat)) (k : Nat) (y : Int), y ∈ fired l k → (k : Int) ≤ y ∧ y < k + l.length
  | [], k, y, h => by simp [fired] at h
  | a :: l, k, y, h => by
    rw [fired, List.mem_append] at h
    rw [List.length_cons]
    rcases h with h | h
    · split at h
      · simp at h; omega
      · simp at h
    · have := fired_mem l (k + 1) y h; omega
theorem fired_sorted : ∀ (l : List (Bool × Nat × Nat)) (k : Nat), (fired l k).Pairwise (· < ·)
  | [], k => by simp [fired]
  | a :: l, k => by
    rw [fired, List.pairwise_append]
    refine ⟨by split <;> simp, fired_sorted l (k + 1), fun y hy z hz => ?_⟩
    have := fired_mem l (k + 1) z hz
    split at hy
    · simp at hy; omega
    · simp at hy
theorem fired_has : ∀ (l : List (Bool × Nat × Nat)) (k j : Nat) (a : Bool × Nat × Nat), l[j]? = some a → (((k + j : Nat) : Int) ∈ fired l k ↔ fires a = true)
  | [], k, j, a, h => by simp at h
  | b :: l, k, 0, a, h => by
    simp at h; subst h
    rw [fired, List.mem_append, Nat.add_zero]
    constructor
    · rintro (h | h)
      · split at h
        · assumption
        · simp at h
      · have := fired_mem l (k + 1) _ h; omega
    · intro h; rw [if_pos h]; exact Or.inl (by simp)
  | b :: l, k, j + 1, a, h => by
    rw [fired, List.mem_append, show k + (j + 1) = k + 1 + j by omega]
    have ih := fired_has l (k + 1) j a (by simpa using h)
    constructor
    · rintro (h | h)
      · split at h
        · simp at h; omega
        · simp at h
      · exact ih.1 h
    · intro h; exact Or.inr (ih.2 h)

end Go.Proofs.Ytemhfonneggneaa.CK
