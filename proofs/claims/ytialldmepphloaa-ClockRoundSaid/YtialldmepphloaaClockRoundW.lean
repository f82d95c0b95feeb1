/- P16.1 without the document's answer, the walk. -/
import Derived.Test.YtialldmepphloaaClkA
import Derived.Test.YtialldmepphloaaClockSumsW
namespace Go.Proofs.Ytialldmepphloaa.clockRoundW
open Go.RowKit Go.Fr Go.Proofs.Ytialldmepphloaa.CK Go.Proofs.Ytialldmepphloaa.clockSumsW

theorem until_range {g n v : Nat} (hn : n ≤ g) (hv : v ≤ g) : 1 ≤ until' g n v ∧ until' g n v ≤ g + 1 := by
  unfold until'
  rw [Nat.min_eq_left hn, Nat.min_eq_left hv]
  split <;> omega
theorem after_until {g n v : Nat} (hn : n ≤ g) (hv : v ≤ g) : after g n (until' g n v) = v := by
  unfold after until'
  rw [Nat.min_eq_left hn, Nat.min_eq_left hv]
  split
  · rw [Nat.mod_eq_of_lt (a := v - n) (by omega), show n + (v - n) = v by omega, Nat.mod_eq_of_lt (by omega)]
  · rcases Nat.lt_or_ge v n with h | h
    · rw [Nat.mod_eq_of_lt (a := g + 1 - n + v) (by omega), show n + (g + 1 - n + v) = v + (g + 1) by omega, Nat.add_mod_right, Nat.mod_eq_of_lt (by omega)]
    · have e : v = n := by omega
      subst e
      rw [show g + 1 - v + v = g + 1 by omega, Nat.mod_self, Nat.add_zero, Nat.mod_eq_of_lt (by omega)]
theorem after_le (g n t : Nat) : after g n t ≤ g := by
  unfold after; have := Nat.mod_lt (min n g + t % (g + 1)) (show 0 < g + 1 by omega); omega
theorem after_add {g n : Nat} (hn : n ≤ g) (a b : Nat) : after g (after g n a) b = after g n (a + b) := by
  have h := after_le g n a
  have e : ∀ x, x ≤ g → ∀ t, after g x t = (x + t) % (g + 1) := by
    intro x hx t
    unfold after
    rw [Nat.min_eq_left hx, Nat.add_mod_mod]
  rw [e _ h, e _ hn, e _ hn, Nat.mod_add_mod, Nat.add_assoc]
theorem after_round {g n : Nat} (hn : n ≤ g) : after g n (g + 1) = n := by
  unfold after; rw [Nat.min_eq_left hn, Nat.mod_self, Nat.add_zero, Nat.mod_eq_of_lt (by omega)]
theorem after_zero {g n : Nat} (hn : n ≤ g) : after g n 0 = n := by
  unfold after; rw [Nat.min_eq_left hn, Nat.zero_mod, Nat.add_zero, Nat.mod_eq_of_lt (by omega)]
/-- before then, the value is not there -/
theorem after_before {g n v : Nat} (hn : n ≤ g) (hv : v ≤ g) (_ : n ≠ v) (h1 : 1 < until' g n v) : after g n (until' g n v - 1) ≠ v := by
  unfold after until' at *
  rw [Nat.min_eq_left hn, Nat.min_eq_left hv] at *
  split at h1
  · rename_i h
    rw [if_pos h, Nat.mod_eq_of_lt (a := v - n - 1) (by omega), Nat.mod_eq_of_lt (by omega)]
    omega
  · rename_i h
    rw [if_neg h, Nat.mod_eq_of_lt (a := g + 1 - n + v - 1) (by omega)]
    rcases Nat.lt_or_ge 0 v with h2 | h2
    · rw [show n + (g + 1 - n + v - 1) = (v - 1) + (g + 1) by omega, Nat.add_mod_right, Nat.mod_eq_of_lt (by omega)]; omega
    · rw [Nat.mod_eq_of_lt (by omega)]; omega

set_option maxRecDepth 100000 in
set_option maxHeartbeats 4000000 in
theorem walk (w : World) (a0 : Int) (w0 : (Lit.int .u32 a0).wf = true) (a1 : Int) (w1 : (Lit.int .u32 a1).wf = true) (a2 : Int) (w2 : (Lit.int .u32 a2).wf = true) (a3 : Int) (w3 : (Lit.int .u32 a3).wf = true) (a4 : Int) (w4 : (Lit.int .u32 a4).wf = true) :
    Calls Try.prog 5 #[.int .u32 a0, .int .u32 a1, .int .u32 a2, .int .u32 a3, .int .u32 a4] w fun e w' => e = .returned (.bool true) ∧ Below w.heap.size w w' := by
  obtain ⟨g, rfl, hg⟩ := u32_nat w0
  obtain ⟨n, rfl, hn⟩ := u32_nat w1
  obtain ⟨v, rfl, hv⟩ := u32_nat w2
  obtain ⟨a, rfl, ha⟩ := u32_nat w3
  obtain ⟨b, rfl, hb⟩ := u32_nat w4
  clear w0 w1 w2 w3 w4
  have hal : ∀ w : World, Calls Try.prog 18 #[] w fun e w' => e = .returned (.bool true) ∧ Kept (fun _ => False) w w' := fun w => alive_law w
  by_cases hng : n ≤ g
  · by_cases hvg : v ≤ g
    · have hun := until_ok g n v hg hn hv
      obtain ⟨r1, r2⟩ := until_range hng hvg
      have cN := after_ok g n (until' g n v) hg hn (by omega)
      have cN1 := after_ok g n (until' g n v - 1) hg hn (by omega)
      rw [after_until hng hvg] at cN
      have hbef := fun h => after_before hng hvg (n := n) h
      have hm1 := after_le g n (until' g n v - 1)
      generalize after g n (until' g n v - 1) = y at cN1 hbef hm1
      generalize until' g n v = N at hun r1 r2 cN cN1 hbef
      have ca := after_ok g n a hg hn (by omega)
      have hma := after_le g n a
      have cab := after_ok g (after g n a) b hg (by omega) (by omega)
      rw [after_add hng] at cab
      generalize after g n a = ya at ca hma cab
      have cs := after_ok g n (a + b) hg hn (by omega)
      have hms := after_le g n (a + b)
      generalize after g n (a + b) = ys at cab cs hms
      have cR := after_ok g n (g + 1) hg hn (by omega)
      rw [after_round hng] at cR
      have c1 := after_ok g n 1 hg hn (by omega)
      have cnx := next_ok g n hg hn
      generalize after g n 1 = y1 at c1 cnx
      have c0 := after_ok g n 0 hg hn (by omega)
      rw [after_zero hng] at c0
      obtain ⟨M, hM⟩ : ∃ M, N - 1 = M := ⟨_, rfl⟩
      obtain ⟨S, hS⟩ : ∃ S, a + b = S := ⟨_, rfl⟩
      obtain ⟨G, hG⟩ : ∃ G, g + 1 = G := ⟨_, rfl⟩
      have e1 : IntKind.u64.wrap ((N : Int) - 1) = (M : Int) := by rw [IntWalk.u64_in _ (by omega)]; omega
      have e2 : IntKind.u64.wrap ((a : Int) + (b : Int)) = (S : Int) := by rw [IntWalk.u64_in _ (by omega)]; omega
      have e3 : IntKind.u64.wrap ((g : Int) + 1) = (G : Int) := by rw [IntWalk.u64_in _ (by omega)]; omega
      have e2' : (a : Int) + (b : Int) = (S : Int) := by omega
      have e3' : (g : Int) + 1 = (G : Int) := by omega
      have t2 : decide ((G : Int) < (N : Int)) = false := by simp; omega
      have t1 : decide ((N : Int) < 1) = false := by simp; omega
      have t3 : decide ((ys : Int) ≤ (g : Int)) = true := by simp; omega
      have t4 : decide ((g : Int) < (n : Int)) = false := by simp; omega
      have t5 : decide ((g : Int) < (v : Int)) = false := by simp; omega
      rw [hM] at cN1
      rw [hS] at cs
      rw [hG] at cR
      have HM := Lib.hid hM
      have HS := Lib.hid hS
      have HG := Lib.hid hG
      clear hM hS hG
      by_cases hN1 : 1 < N
      · have e1' : (N : Int) - 1 = (M : Int) := by have := HM.out; omega
        have t6 : decide ((1 : Int) < (N : Int)) = true := by simp; omega
        by_cases hnv : n = v
        · subst hnv
          clear hbef
          go_enter Try.func5, Try.ntmps5
          go_wp2_with fail
          refine (hun _).mono ?_
          rintro e w' ⟨rfl, rfl⟩
          go_wp2_with fail
          refine (cN _).mono ?_
          rintro e w' ⟨rfl, rfl⟩
          go_wp2_with fail
          refine (ca _).mono ?_
          rintro e w' ⟨rfl, rfl⟩
          go_wp2_with fail
          refine (cab _).mono ?_
          rintro e w' ⟨rfl, rfl⟩
          go_wp2_with fail
          refine (cs _).mono ?_
          rintro e w' ⟨rfl, rfl⟩
          go_wp2_with fail
          refine (cR _).mono ?_
          rintro e w' ⟨rfl, rfl⟩
          go_wp2_with fail
          refine (c1 _).mono ?_
          rintro e w' ⟨rfl, rfl⟩
          go_wp2_with fail
          refine (cnx _).mono ?_
          rintro e w' ⟨rfl, rfl⟩
          go_wp2_with fail
          refine (c0 _).mono ?_
          rintro e w' ⟨rfl, rfl⟩
          go_wp2_with fail
          refine (hal _).mono ?_
          rintro e w9 ⟨rfl, k9⟩
          go_wp2
          go_ret
          exact ⟨rfl, k9.below (Nat.le_refl _) (fun _ h => h.elim)⟩
        · have hyv := hbef hnv hN1
          have t7 : ((n : Int) == (v : Int)) = false := by simp; omega
          have t7' : ((n : Int) != (v : Int)) = true := by simp; omega
          have t8 : ((y : Int) == (v : Int)) = false := by simp; omega
          clear hbef
          go_enter Try.func5, Try.ntmps5
          go_wp2_with fail
          refine (hun _).mono ?_
          rintro e w' ⟨rfl, rfl⟩
          go_wp2_with fail
          refine (cN _).mono ?_
          rintro e w' ⟨rfl, rfl⟩
          go_wp2_with fail
          refine (cN1 _).mono ?_
          rintro e w' ⟨rfl, rfl⟩
          go_wp2_with fail
          refine (ca _).mono ?_
          rintro e w' ⟨rfl, rfl⟩
          go_wp2_with fail
          refine (cab _).mono ?_
          rintro e w' ⟨rfl, rfl⟩
          go_wp2_with fail
          refine (cs _).mono ?_
          rintro e w' ⟨rfl, rfl⟩
          go_wp2_with fail
          refine (cR _).mono ?_
          rintro e w' ⟨rfl, rfl⟩
          go_wp2_with fail
          refine (c1 _).mono ?_
          rintro e w' ⟨rfl, rfl⟩
          go_wp2_with fail
          refine (cnx _).mono ?_
          rintro e w' ⟨rfl, rfl⟩
          go_wp2_with fail
          refine (c0 _).mono ?_
          rintro e w' ⟨rfl, rfl⟩
          go_wp2_with fail
          refine (hal _).mono ?_
          rintro e w9 ⟨rfl, k9⟩
          go_wp2
          go_ret
          exact ⟨rfl, k9.below (Nat.le_refl _) (fun _ h => h.elim)⟩
      · have t6 : decide ((1 : Int) < (N : Int)) = false := by simp; omega
        clear hbef
        go_enter Try.func5, Try.ntmps5
        go_wp2_with fail
        refine (hun _).mono ?_
        rintro e w' ⟨rfl, rfl⟩
        go_wp2_with fail
        refine (cN _).mono ?_
        rintro e w' ⟨rfl, rfl⟩
        go_wp2_with fail
        refine (ca _).mono ?_
        rintro e w' ⟨rfl, rfl⟩
        go_wp2_with fail
        refine (cab _).mono ?_
        rintro e w' ⟨rfl, rfl⟩
        go_wp2_with fail
        refine (cs _).mono ?_
        rintro e w' ⟨rfl, rfl⟩
        go_wp2_with fail
        refine (cR _).mono ?_
        rintro e w' ⟨rfl, rfl⟩
        go_wp2_with fail
        refine (c1 _).mono ?_
        rintro e w' ⟨rfl, rfl⟩
        go_wp2_with fail
        refine (cnx _).mono ?_
        rintro e w' ⟨rfl, rfl⟩
        go_wp2_with fail
        refine (c0 _).mono ?_
        rintro e w' ⟨rfl, rfl⟩
        go_wp2_with fail
        refine (hal _).mono ?_
        rintro e w9 ⟨rfl, k9⟩
        go_wp2
        go_ret
        exact ⟨rfl, k9.below (Nat.le_refl _) (fun _ h => h.elim)⟩
    · have t4 : decide ((g : Int) < (n : Int)) = false := by simp; omega
      have t5 : decide ((g : Int) < (v : Int)) = true := by simp; omega
      go_enter Try.func5, Try.ntmps5
      go_wp2_with fail
      refine (hal _).mono ?_
      rintro e w9 ⟨rfl, k9⟩
      go_wp2
      go_ret
      exact ⟨rfl, k9.below (Nat.le_refl _) (fun _ h => h.elim)⟩
  · have t4 : decide ((g : Int) < (n : Int)) = true := by simp; omega
    go_enter Try.func5, Try.ntmps5
    go_wp2_with fail
    refine (hal _).mono ?_
    rintro e w9 ⟨rfl, k9⟩
    go_wp2
    go_ret
    exact ⟨rfl, k9.below (Nat.le_refl _) (fun _ h => h.elim)⟩
end Go.Proofs.Ytialldmepphloaa.clockRoundW
