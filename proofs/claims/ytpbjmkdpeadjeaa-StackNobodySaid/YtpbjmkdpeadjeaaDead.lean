/- A stack that New did not give (no pointer, or one to a struct of zeros): its methods, and play. -/
import Derived.Test.YtpbjmkdpeadjeaaPlay
namespace Go.Proofs.Ytpbjmkdpeadjeaa.L
open Go.RowKit Go.Fr Go.Proofs.Ytpbjmkdpeadjeaa.SI Go.Proofs.Ytpbjmkdpeadjeaa.RS

def Dead (w : World) (p : Option Addr) : Prop := p = none ∨ ∃ b, p = some ⟨b, 0, none⟩ ∧ Blk w b [.bool false, .int .i64 0, .slice none 0 0, .int .i64 0] 73

theorem Dead.kept {w w' : World} {p : Option Addr} (h : Dead w p) (k : Kept (fun _ => False) w w') : Dead w' p := by
  rcases h with h | ⟨b, h, hb⟩
  · exact Or.inl h
  · exact Or.inr ⟨b, h, hb.kept k (fun h => h)⟩

theorem dead_alive {w : World} {p : Option Addr} (h : Dead w p) : Calls Try.prog 44 #[.pointer p] w fun e w' => e = .returned (.bool false) ∧ w = w' := by
  rcases h with rfl | ⟨b, rfl, hb⟩
  · go_enter Try.func44, Try.ntmps44
    go_wp2
    go_ret
    exact ⟨rfl, rfl⟩
  · have c0 := hb.cell 0 rfl
    go_enter Try.func44, Try.ntmps44
    go_wp2
    go_ret
    exact ⟨rfl, rfl⟩

section
variable {w : World} {p : Option Addr}

theorem dead_len (h : Dead w p) : Calls Try.prog 24 #[.pointer p] w fun e w' => e = .returned (.int .i64 0) ∧ w = w' := by
  go_enter Try.func24, Try.ntmps24
  go_wp2_with (go_at_call 44; refine (dead_alive h).mono ?_; rintro e w' ⟨rfl, rfl⟩)
  go_ret
  exact ⟨rfl, rfl⟩
theorem dead_depth (h : Dead w p) : Calls Try.prog 34 #[.pointer p] w fun e w' => e = .returned (.int .i64 0) ∧ w = w' := by
  go_enter Try.func34, Try.ntmps34
  go_wp2_with (go_at_call 44; refine (dead_alive h).mono ?_; rintro e w' ⟨rfl, rfl⟩)
  go_ret
  exact ⟨rfl, rfl⟩
theorem dead_high (h : Dead w p) : Calls Try.prog 26 #[.pointer p] w fun e w' => e = .returned (.int .i64 0) ∧ w = w' := by
  go_enter Try.func26, Try.ntmps26
  go_wp2_with (go_at_call 44; refine (dead_alive h).mono ?_; rintro e w' ⟨rfl, rfl⟩)
  go_ret
  exact ⟨rfl, rfl⟩
theorem dead_copy (h : Dead w p) : Calls Try.prog 31 #[.pointer p] w fun e w' => e = .returned (.pointer none) ∧ w = w' := by
  go_enter Try.func31, Try.ntmps31
  go_wp2_with (go_at_call 44; refine (dead_alive h).mono ?_; rintro e w' ⟨rfl, rfl⟩)
  go_ret
  exact ⟨rfl, rfl⟩
theorem dead_top (h : Dead w p) : Calls Try.prog 33 #[.pointer p] w fun e w' => e = .returned (.tuple #[.int .i64 0, .bool false]) ∧ w = w' := by
  go_enter Try.func33, Try.ntmps33
  go_wp2_with (go_at_call 44; refine (dead_alive h).mono ?_; rintro e w' ⟨rfl, rfl⟩)
  go_ret2
  exact ⟨rfl, rfl⟩
theorem dead_pop (h : Dead w p) : Calls Try.prog 25 #[.pointer p] w fun e w' => e = .returned (.tuple #[.int .i64 0, .int .i64 1]) ∧ w = w' := by
  go_enter Try.func25, Try.ntmps25
  go_wp2_with (go_at_call 44; refine (dead_alive h).mono ?_; rintro e w' ⟨rfl, rfl⟩)
  go_ret2
  exact ⟨rfl, rfl⟩
theorem dead_find (x : Int) (h : Dead w p) : Calls Try.prog 46 #[.pointer p, .int .i64 x] w fun e w' => e = .returned (.tuple #[.int .i64 0, .bool false]) ∧ w = w' := by
  go_enter Try.func46, Try.ntmps46
  go_wp2_with (go_at_call 44; refine (dead_alive h).mono ?_; rintro e w' ⟨rfl, rfl⟩)
  go_ret2
  exact ⟨rfl, rfl⟩
theorem dead_cut (x : Int) (h : Dead w p) : Calls Try.prog 23 #[.pointer p, .int .i64 x] w fun e w' => e = .returned (.tuple #[.slice none 0 0, .int .i64 1]) ∧ w = w' := by
  go_enter Try.func23, Try.ntmps23
  go_wp2_with (go_at_call 44; refine (dead_alive h).mono ?_; rintro e w' ⟨rfl, rfl⟩)
  go_ret2
  exact ⟨rfl, rfl⟩
theorem dead_all (p : Option Addr) (w : World) : Calls Try.prog 28 #[.pointer p] w fun e w' =>
    e = .returned (.func (.func 49) #[] #[.pointer (some ⟨w.heap.size, 0, none⟩)]) ∧ w' = w.alloc (.cells #[.pointer p] 51) := by
  have hmf : ∀ (fn : Fn) (first cap : Array Value) (w : World), (Instr.makeFunc fn first cap).run Try.prog w = .ok (.func fn first cap) w := fun _ _ _ _ => rfl
  go_enter Try.func28, Try.ntmps28
  go_wp2
  go_ret
  exact ⟨rfl, rfl⟩
end

theorem dead_push {w : World} {p : Option Addr} (x : Int) (h : Dead w p) : Calls Try.prog 22 #[.pointer p, .int .i64 x] w fun e w' => e = .returned (.int .i64 1) ∧ Kept (fun _ => False) w w' := by
  have bN := (Blk.new w [.pointer p] 51).cell 0 rfl
  have k0 := (Kept.refl (fun _ => False) w).alloc (.cells #[.pointer p] 51)
  have h0 := h.kept k0
  go_enter_defers Try.func22, Try.ntmps22
  go_wp2_with (go_at_call 44; refine (dead_alive h0).mono ?_; rintro e w' ⟨rfl, rfl⟩)
  exact ⟨_, results_tmp rfl _ _ _, rfl, k0⟩

/-- the document's stack that nobody made -/
def DeadR (w : World) (b : Nat) : Prop := IsRef w b (.slice none 0 0) false 0 0 []

theorem DeadR.kept {w w' : World} {b : Nat} (h : DeadR w b) (k : Kept (fun _ => False) w w') : DeadR w' b := IsRef.kept h k (fun _ _ h => h)

set_option maxRecDepth 100000 in
set_option maxHeartbeats 2000000 in
theorem play_dead {w : World} {p : Option Addr} {b : Nat} (k x : Int) (hd : Dead w p) (hr : DeadR w b) :
    Calls Try.prog 27 #[.pointer p, .pointer (some ⟨b, 0, none⟩), .agg #[.int .i64 k, .int .i64 x]] w fun e w' => e = .returned (.bool true) ∧ Kept (fun _ => False) w w' := by
  obtain ⟨c0, c1⟩ := boxed (w := w) k x
  have k0 := (Kept.refl (fun _ => False) w).alloc (.cells #[.int .i64 k, .int .i64 x] 40)
  have hsz : w.heap.size < (w.alloc (.cells #[.int .i64 k, .int .i64 x] 40)).heap.size := by simp
  have hd0 := hd.kept k0
  have hr0 := hr.kept k0
  by_cases h1 : k = 1
  · subst h1
    go_enter Try.func27, Try.ntmps27
    go_wp2_with fail
    generalize hW : w.alloc (.cells #[.int .i64 1, .int .i64 x] 40) = w0 at *
    refine wp_region_noPanic ?_
    go_region_held3 (fun w' => w'.cell? ⟨w.heap.size, 1, none⟩ = some (.int .i64 x))
      (first
        | (simp [*]; done)
        | exact (k1.undrew.cell (p := ⟨w.heap.size, 1, none⟩) hsz (fun h => h)).trans (by assumption)
        | fail)
      (first
        | (go_at_call 22; refine (dead_push x (Dead.kept hd0 ((Kept.refl _ _).drewN _))).mono ?_; rintro e w1 ⟨rfl, k1⟩)
        | (go_at_call 16; refine (RS.push_nil x (DeadR.kept hr0 k1.undrew)).mono ?_; rintro e w2 ⟨rfl, rfl⟩)
        | (go_at_call 10; refine (SS.num_ok _ _).mono ?_; rintro e w3 ⟨rfl, rfl⟩))
    refine NoPanic.normal ?_
    go_wp2
    go_ret
    exact ⟨rfl, k0.then k1.undrew (fun _ h => Or.inl h)⟩
  · by_cases h2 : k = 2
    · subst h2
      go_enter Try.func27, Try.ntmps27
      go_wp2_with fail
      refine (dead_pop hd0).mono ?_
      rintro e w1 ⟨rfl, rfl⟩
      go_wp2_with fail
      refine (RS.pop_nil hr0).mono ?_
      rintro e w2 ⟨rfl, rfl⟩
      go_wp2
      go_ret
      exact ⟨rfl, k0⟩
    · by_cases h3 : k = 3
      · subst h3
        go_enter Try.func27, Try.ntmps27
        go_wp2_with fail
        refine (dead_find x hd0).mono ?_
        rintro e w1 ⟨rfl, rfl⟩
        go_wp2_with fail
        refine (RS.find_ok x hr0).mono ?_
        rintro e w2 ⟨rfl, k2⟩
        have e0 : fidx [] x = 0 := rfl
        have e1 : decide (x ∈ ([] : List Int)) = false := rfl
        rw [e0, e1]
        go_wp2_with fail
        go_ret
        exact ⟨rfl, k0.then k2 (fun _ h => Or.inl h)⟩
      · by_cases h4 : k = 4
        · subst h4
          obtain ⟨i0, hi, hz0, hz1, hz2⟩ := info_parts info
          go_enter Try.func27, Try.ntmps27
          go_wp2_with fail
          refine (dead_cut x hd0).mono ?_
          rintro e w1 ⟨rfl, rfl⟩
          go_wp2_with fail
          refine (RS.cut_nil x hr0).mono ?_
          rintro e w2 ⟨rfl, rfl⟩
          go_wp2_with (first
            | (go_at_call 10; refine (SS.num_ok _ _).mono ?_; rintro e w3 ⟨rfl, rfl⟩)
            | (go_at_call 48; refine (same_ok' (l := []) (N := 0) rfl (World.ownsRow_nil _ _ _ _) (World.ownsRow_nil _ _ _ _) (by omega)).mono ?_; rintro e w3 ⟨rfl, k3⟩))
          have hk := Lib.hid (k0.then k3 (fun _ h => Or.inl h))
          clear k0 k3 c0 c1 hd0 hr0 hsz
          go_loopw [19] (fun i wr => i = .int .i64 0 ∧ wr = w3) (fun i _ => 0)
          case atStart => exact ⟨rfl, rfl⟩
          case round =>
            obtain ⟨rfl, rfl⟩ := hrel
            go_wp2
            go_loopw [15, 20] (fun o i wr => ∃ (k : Nat) (ao : Option Addr) (c : Nat), k ≤ 40 ∧ i = .int .i64 k ∧ o = .slice ao k c ∧ Hid (Kept (fun _ => False) w wr ∧ ∃ xs : List Int, xs.length = k ∧ Row wr 3 1 (.slice ao k c) k (xs.map (Value.int .i64)) ∧ ∀ g, (Value.slice ao k c).ownBlock = some g → w.heap.size ≤ g)) (fun _ i _ => 40 - (intOf i).toNat)
            case atStart => exact ⟨0, none, 0, by omega, rfl, rfl, ⟨hk, [], rfl, World.ownsRow_nil _ _ _ _, by simp [Value.ownBlock]⟩⟩
            case round =>
              obtain ⟨j, ao, c, hj, rfl, rfl, hkk, xs, hx, hr, hg⟩ := hrel
              by_cases hlt : j < 40
              · go_wp2_with ((at_builtin; refine wpList_append_any rfl (.tmp 119) (.tmp 120) 35 rfl 3 i0 (.int .i64 0) 1 8 Try.underlying35 hi hz0 hz1 hz2 rfl (by decide) _ _ _ (xs.map (Value.int .i64)) rfl ?hrow _ 1 1 [.int .i64 (-6)] rfl ?hnew (by simp [Value.oneCell']) ?b1 ?b2 ?_))
                case hrow => exact row_alloc hr _
                case hnew => exact shows_new _ [_] _ (by simp) rfl
                case b1 => unfold maxLen; omega
                case b2 => omega
                intro ao3 c3 wc r1 r2 r3
                have hz := hkk.size
                have hk3 : Kept (fun _ => False) w wc := (hkk.alloc _).grown r2 (fun g e => Or.inr (hg g e))
                have hN : Hid (Kept (fun _ => False) w wc ∧ ∃ xs : List Int, xs.length = j + 1 ∧ Row wc 3 1 (.slice ao3 (j + 1) c3) (j + 1) (xs.map (Value.int .i64)) ∧ ∀ g, (Value.slice ao3 (j + 1) c3).ownBlock = some g → w.heap.size ≤ g) :=
                  ⟨hk3, xs ++ [-6], by simp [hx], by simpa using r1, fun g e => by rcases r3 g e with h | h; exact hg g h; omega⟩
                clear r1 r2 r3 hr hk3 hkk hg hz
                go_wp2
                go_roundw
                case rel => exact ⟨j + 1, ao3, c3, by omega, by go_num, rfl, hN⟩
                case measure => simp [intOf]; omega
              · go_wp2
                go_ret
                exact ⟨rfl, hkk⟩
        · go_enter Try.func27, Try.ntmps27
          go_wp2
          go_ret
          exact ⟨rfl, k0⟩
end Go.Proofs.Ytpbjmkdpeadjeaa.L
