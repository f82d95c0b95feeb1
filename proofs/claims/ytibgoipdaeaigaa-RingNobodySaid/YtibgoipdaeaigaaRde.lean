/- A ring that New did not give (no pointer, or one to a struct of zeros): its methods, and play. -/
import Derived.Test.YtibgoipdaeaigaaRpl
namespace Go.Proofs.Ytibgoipdaeaigaa.L
open Go.RowKit Go.Fr Go.Proofs.Ytibgoipdaeaigaa.RI Go.Proofs.Ytibgoipdaeaigaa.RR

def Dead (w : World) (p : Option Addr) : Prop := p = none ∨ ∃ b, p = some ⟨b, 0, none⟩ ∧ Blk w b [.bool false, .int .i64 0, .slice none 0 0, .int .i64 0, .int .i64 0, .int .i64 0] 72

theorem Dead.kept {w w' : World} {p : Option Addr} (h : Dead w p) (k : Kept (fun _ => False) w w') : Dead w' p := by
  rcases h with h | ⟨b, h, hb⟩
  · exact Or.inl h
  · exact Or.inr ⟨b, h, hb.kept k (fun h => h)⟩
theorem Dead.keptB {w w' : World} {p : Option Addr} {b : Nat} (h : Dead w p) (k : Kept (fun i => i = b) w w') (hb : ∀ a, p = some a → a.block ≠ b) : Dead w' p := by
  rcases h with h | ⟨c, rfl, hc⟩
  · exact Or.inl h
  · exact Or.inr ⟨c, rfl, hc.kept k (fun e => hb _ rfl e)⟩

theorem dead_alive {w : World} {p : Option Addr} (h : Dead w p) : Calls Try.prog 48 #[.pointer p] w fun e w' => e = .returned (.bool false) ∧ w = w' := by
  rcases h with rfl | ⟨b, rfl, hb⟩
  · go_enter Try.func48, Try.ntmps48
    go_wp2
    go_ret
    exact ⟨rfl, rfl⟩
  · have c0 := hb.cell 0 rfl
    go_enter Try.func48, Try.ntmps48
    go_wp2
    go_ret
    exact ⟨rfl, rfl⟩

section
variable {w : World} {p : Option Addr}

theorem dead_len (h : Dead w p) : Calls Try.prog 26 #[.pointer p] w fun e w' => e = .returned (.int .i64 0) ∧ w = w' := by
  go_enter Try.func26, Try.ntmps26
  go_wp2_with (go_at_call 48; refine (dead_alive h).mono ?_; rintro e w' ⟨rfl, rfl⟩)
  go_ret
  exact ⟨rfl, rfl⟩
theorem dead_room (h : Dead w p) : Calls Try.prog 35 #[.pointer p] w fun e w' => e = .returned (.int .i64 0) ∧ w = w' := by
  go_enter Try.func35, Try.ntmps35
  go_wp2_with (go_at_call 48; refine (dead_alive h).mono ?_; rintro e w' ⟨rfl, rfl⟩)
  go_ret
  exact ⟨rfl, rfl⟩
theorem dead_high (h : Dead w p) : Calls Try.prog 28 #[.pointer p] w fun e w' => e = .returned (.int .i64 0) ∧ w = w' := by
  go_enter Try.func28, Try.ntmps28
  go_wp2_with (go_at_call 48; refine (dead_alive h).mono ?_; rintro e w' ⟨rfl, rfl⟩)
  go_ret
  exact ⟨rfl, rfl⟩
theorem dead_clear (h : Dead w p) : Calls Try.prog 33 #[.pointer p] w fun e w' => e = .returned (.int .i64 0) ∧ w = w' := by
  go_enter Try.func33, Try.ntmps33
  go_wp2_with (go_at_call 48; refine (dead_alive h).mono ?_; rintro e w' ⟨rfl, rfl⟩)
  go_ret
  exact ⟨rfl, rfl⟩
theorem dead_copy (h : Dead w p) : Calls Try.prog 32 #[.pointer p] w fun e w' => e = .returned (.pointer none) ∧ w = w' := by
  go_enter Try.func32, Try.ntmps32
  go_wp2_with (go_at_call 48; refine (dead_alive h).mono ?_; rintro e w' ⟨rfl, rfl⟩)
  go_ret
  exact ⟨rfl, rfl⟩
theorem dead_take (h : Dead w p) : Calls Try.prog 25 #[.pointer p] w fun e w' => e = .returned (.tuple #[.int .i64 0, .int .i64 1]) ∧ w = w' := by
  go_enter Try.func25, Try.ntmps25
  go_wp2_with (go_at_call 48; refine (dead_alive h).mono ?_; rintro e w' ⟨rfl, rfl⟩)
  go_ret2
  exact ⟨rfl, rfl⟩
theorem dead_at (x : Int) (h : Dead w p) : Calls Try.prog 50 #[.pointer p, .int .i64 x] w fun e w' => e = .returned (.tuple #[.int .i64 0, .bool false]) ∧ w = w' := by
  go_enter Try.func50, Try.ntmps50
  go_wp2_with (go_at_call 48; refine (dead_alive h).mono ?_; rintro e w' ⟨rfl, rfl⟩)
  go_ret2
  exact ⟨rfl, rfl⟩
theorem dead_last (x : Int) (h : Dead w p) : Calls Try.prog 24 #[.pointer p, .int .i64 x] w fun e w' => e = .returned (.int .i64 1) ∧ w = w' := by
  go_enter Try.func24, Try.ntmps24
  go_wp2_with (go_at_call 48; refine (dead_alive h).mono ?_; rintro e w' ⟨rfl, rfl⟩)
  go_ret
  exact ⟨rfl, rfl⟩
theorem dead_first (x : Int) (h : Dead w p) : Calls Try.prog 27 #[.pointer p, .int .i64 x] w fun e w' => e = .returned (.int .i64 1) ∧ w = w' := by
  go_enter Try.func27, Try.ntmps27
  go_wp2_with (go_at_call 48; refine (dead_alive h).mono ?_; rintro e w' ⟨rfl, rfl⟩)
  go_ret
  exact ⟨rfl, rfl⟩
theorem dead_full (h : Dead w p) : Calls Try.prog 36 #[.pointer p] w fun e w' => e = .returned (.bool false) ∧ ∃ n, w' = w.drewN n := by
  have ha : ∀ n, Calls Try.prog 48 #[.pointer p] (w.drewN n) fun e w' => e = .returned (.bool false) ∧ w' = w.drewN n := fun n => (dead_alive (h.kept ((Kept.refl _ _).drewN n))).mono fun _ _ h => ⟨h.1, h.2.symm⟩
  go_enter Try.func36, Try.ntmps36
  go_wp2
  go_quiet (first | (go_at_call 48; refine Calls.quiet_of_same (ha _)))
  go_wp2
  go_ret
  exact ⟨rfl, _, rfl⟩
theorem dead_all (p : Option Addr) (w : World) : Calls Try.prog 30 #[.pointer p] w fun e w' =>
    e = .returned (.func (.func 52) #[] #[.pointer (some ⟨w.heap.size, 0, none⟩)]) ∧ w' = w.alloc (.cells #[.pointer p] 53) := by
  have hmf : ∀ (fn : Fn) (first cap : Array Value) (w : World), (Instr.makeFunc fn first cap).run Try.prog w = .ok (.func fn first cap) w := fun _ _ _ _ => rfl
  go_enter Try.func30, Try.ntmps30
  go_wp2
  go_ret
  exact ⟨rfl, rfl⟩
end

/-- the document's ring that nobody made -/
def DeadR (w : World) (b : Nat) : Prop := IsRef w b (.slice none 0 0) false 0 0 []

theorem DeadR.kept {w w' : World} {b : Nat} (h : DeadR w b) (k : Kept (fun _ => False) w w') : DeadR w' b := IsRef.kept h k (fun _ _ h => h)

set_option maxRecDepth 100000 in
set_option maxHeartbeats 2000000 in
theorem play_dead_last {w : World} {p : Option Addr} {b : Nat} (x : Int) (hd : Dead w p) (hr : DeadR w b) :
    Calls Try.prog 29 #[.pointer p, .pointer (some ⟨b, 0, none⟩), .agg #[.int .i64 1, .int .i64 x]] w fun e w' => e = .returned (.bool true) ∧ Kept (fun _ => False) w w' := by
  obtain ⟨c0, c1⟩ := boxed (w := w) 1 x
  have k0 := (Kept.refl (fun _ => False) w).alloc (.cells #[.int .i64 1, .int .i64 x] 39)
  have hd0 := hd.kept k0
  have hr0 := hr.kept k0
  go_enter Try.func29, Try.ntmps29
  go_wp2_with fail
  generalize hW : w.alloc (.cells #[.int .i64 1, .int .i64 x] 39) = w0 at *
  refine wp_region_noPanic ?_
  go_region_held3 (fun w' => w'.cell? ⟨w.heap.size, 1, none⟩ = some (.int .i64 x))
    (first
      | (simp [*]; done)
      | fail)
    (first
      | (go_at_call 24; refine (dead_last x (Dead.kept hd0 ((Kept.refl _ _).drewN _))).mono ?_; rintro e w1 ⟨rfl, rfl⟩)
      | (go_at_call 16; refine (RR.put_nil x false (DeadR.kept hr0 ((Kept.refl _ _).drewN _))).mono ?_; rintro e w2 ⟨rfl, rfl⟩)
      | (go_at_call 11; refine (RS.num_ok _ _).mono ?_; rintro e w3 ⟨rfl, rfl⟩))
  refine NoPanic.normal ?_
  go_wp2
  go_ret
  exact ⟨rfl, by exact k0.same rfl rfl rfl rfl⟩

set_option maxRecDepth 100000 in
set_option maxHeartbeats 2000000 in
theorem play_dead_first {w : World} {p : Option Addr} {b : Nat} (x : Int) (hd : Dead w p) (hr : DeadR w b) :
    Calls Try.prog 29 #[.pointer p, .pointer (some ⟨b, 0, none⟩), .agg #[.int .i64 2, .int .i64 x]] w fun e w' => e = .returned (.bool true) ∧ Kept (fun _ => False) w w' := by
  obtain ⟨c0, c1⟩ := boxed (w := w) 2 x
  have k0 := (Kept.refl (fun _ => False) w).alloc (.cells #[.int .i64 2, .int .i64 x] 39)
  have hd0 := hd.kept k0
  have hr0 := hr.kept k0
  go_enter Try.func29, Try.ntmps29
  go_wp2_with fail
  generalize hW : w.alloc (.cells #[.int .i64 2, .int .i64 x] 39) = w0 at *
  refine wp_region_noPanic ?_
  go_region_held3 (fun w' => w'.cell? ⟨w.heap.size, 1, none⟩ = some (.int .i64 x))
    (first
      | (simp [*]; done)
      | fail)
    (first
      | (go_at_call 27; refine (dead_first x (Dead.kept hd0 ((Kept.refl _ _).drewN _))).mono ?_; rintro e w1 ⟨rfl, rfl⟩)
      | (go_at_call 16; refine (RR.put_nil x true (DeadR.kept hr0 ((Kept.refl _ _).drewN _))).mono ?_; rintro e w2 ⟨rfl, rfl⟩)
      | (go_at_call 11; refine (RS.num_ok _ _).mono ?_; rintro e w3 ⟨rfl, rfl⟩))
  refine NoPanic.normal ?_
  go_wp2
  go_ret
  exact ⟨rfl, by exact k0.same rfl rfl rfl rfl⟩

set_option maxRecDepth 100000 in
set_option maxHeartbeats 2000000 in
theorem play_dead {w : World} {p : Option Addr} {b : Nat} (k x : Int) (hd : Dead w p) (hr : DeadR w b) (hpb : ∀ a, p = some a → a.block ≠ b) :
    Calls Try.prog 29 #[.pointer p, .pointer (some ⟨b, 0, none⟩), .agg #[.int .i64 k, .int .i64 x]] w fun e w' => e = .returned (.bool true) ∧ Dead w' p ∧ DeadR w' b ∧ Kept (fun i => i = b) w w' := by
  have fin : ∀ {w'}, Kept (fun _ => False) w w' → Dead w' p ∧ DeadR w' b ∧ Kept (fun i => i = b) w w' := fun k => ⟨hd.kept k, hr.kept k, k.mono (fun _ _ h => h.elim)⟩
  by_cases h1 : k = 1
  · subst h1
    refine (play_dead_last x hd hr).mono ?_
    rintro e w' ⟨rfl, k⟩
    exact ⟨rfl, fin k⟩
  by_cases h2 : k = 2
  · subst h2
    refine (play_dead_first x hd hr).mono ?_
    rintro e w' ⟨rfl, k⟩
    exact ⟨rfl, fin k⟩
  obtain ⟨c0, c1⟩ := boxed (w := w) k x
  have k0 := (Kept.refl (fun _ => False) w).alloc (.cells #[.int .i64 k, .int .i64 x] 39)
  have hd0 := hd.kept k0
  have hr0 := hr.kept k0
  by_cases h3 : k = 3
  · subst h3
    go_enter Try.func29, Try.ntmps29
    go_wp2_with fail
    refine (dead_take hd0).mono ?_
    rintro e w1 ⟨rfl, rfl⟩
    go_wp2_with fail
    refine (RR.take_nil hr0).mono ?_
    rintro e w2 ⟨rfl, rfl⟩
    go_wp2
    go_ret
    exact ⟨rfl, fin k0⟩
  by_cases h4 : k = 4
  · subst h4
    have hno : x < 0 ∨ ((([] : List Int).length : Nat) : Int) ≤ x := by simp; omega
    go_enter Try.func29, Try.ntmps29
    go_wp2_with fail
    refine (dead_at x hd0).mono ?_
    rintro e w1 ⟨rfl, rfl⟩
    go_wp2_with fail
    refine (RR.at_no x hr0 hno).mono ?_
    rintro e w2 ⟨rfl, rfl⟩
    go_wp2
    go_ret
    exact ⟨rfl, fin k0⟩
  by_cases h5 : k = 5
  · subst h5
    go_enter Try.func29, Try.ntmps29
    go_wp2_with fail
    refine (dead_clear hd0).mono ?_
    rintro e w1 ⟨rfl, rfl⟩
    go_wp2_with fail
    refine (RR.clear_ok hr0).mono ?_
    rintro e w2 ⟨rfl, hr2, k2⟩
    go_wp2
    go_ret
    exact ⟨rfl, hd0.keptB k2 hpb, hr2, (k0.mono (fun _ _ h => h.elim)).then k2 (fun i e => Or.inl e)⟩
  go_enter Try.func29, Try.ntmps29
  go_wp2
  go_ret
  exact ⟨rfl, fin k0⟩
end Go.Proofs.Ytibgoipdaeaigaa.L
