/- Package ready: one ring of a queue is turned. -/
import Derived.Test.YtdjdnfjfomeldaaRdyQ
import Derived.Test.YtdjdnfjfomeldaaRiT
import Derived.Test.YtdjdnfjfomeldaaRiU
import Derived.Laws.BitsAllLaws
import Derived.StillTailTactics
namespace Go.Proofs.Ytdjdnfjfomeldaa.QD
open Go.RowKit Go.Fr Go.Rq

section
variable {w : World} {b : Nat} {cells : List Value} {R : List Rd} {st : List En} {B : Nat} {mk : Bool}

theorem set_fst {i : Nat} {e e' : En} (he : st[i]? = some e) (h1 : e'.1 = e.1) {p : Nat} (h : ∀ a ∈ st.set i e', a.1 ≠ p) : ∀ a ∈ st, a.1 ≠ p := by
  intro a ha
  obtain ⟨j, hj⟩ := List.getElem?_of_mem ha
  have hi := (List.getElem?_eq_some_iff.1 he).1
  by_cases hij : i = j
  · subst hij
    rw [he] at hj; simp at hj; subst hj
    rw [← h1]
    exact h e' (List.mem_of_getElem? (i := i) (by rw [List.getElem?_set_self hi]))
  · exact h a (List.mem_of_getElem? (i := j) (by rw [List.getElem?_set, if_neg hij, hj]))

structure Stepped (w w' : World) (b : Nat) (cells : List Value) (R R' : List Rd) (st' : List En) (B : Nat) (mk : Bool := true) : Prop where
  q : IsQ w' b cells R' st' B mk
  kept : Kept (qfoot b R) w w'
  grow : ∀ i, qfoot b R' i → qfoot b R i ∨ w.heap.size ≤ i

theorem IsQ.step {w' : World} {i : Nat} {e : En} {r : Rd} {v' : Value} {f' : Nat} {high' : Int} {cs' l' : List Int} (hs : IsQ w b cells R st B mk) (he : st[i]? = some e) (hr : R[i]? = some r) (k : Kept (RI.foot r.1 r.2.1) w w')
    (hring : RI.IsRing w' r.1 v' e.2.1 f' high' cs' l') (hf : ∀ q, RI.foot r.1 v' q → RI.foot r.1 r.2.1 q ∨ w.heap.size ≤ q) : Stepped w w' b cells R (R.set i (r.1, v', f', cs')) (st.set i (e.1, e.2.1, high', l')) B mk := by
  have hi := (List.getElem?_eq_some_iff.1 hr).1
  have hi2 := (List.getElem?_eq_some_iff.1 he).1
  have hm := List.mem_of_getElem? hr
  have hlt := hs.lt
  have hgr : ∀ q, qfoot b (R.set i (r.1, v', f', cs')) q → qfoot b R q ∨ w.heap.size ≤ q := by
    rintro q (h | ⟨s, hsm, h⟩)
    · exact Or.inl (Or.inl h)
    · rcases List.mem_or_eq_of_mem_set hsm with h1 | rfl
      · exact Or.inl (Or.inr ⟨s, h1, h⟩)
      · exact (hf q h).imp (fun h => Or.inr ⟨r, hm, h⟩) id
  have getR : ∀ (j : Nat) (s : Rd), (R.set i (r.1, v', f', cs'))[j]? = some s → (j = i ∧ s = (r.1, v', f', cs')) ∨ (j ≠ i ∧ R[j]? = some s) := by
    intro j s hj
    rw [List.getElem?_set] at hj
    by_cases hij : i = j
    · rw [if_pos hij, if_pos hi] at hj; simp at hj; exact Or.inl ⟨hij.symm, hj.symm⟩
    · rw [if_neg hij] at hj; exact Or.inr ⟨fun e => hij e.symm, hj⟩
  refine ⟨{ blk := hs.blk.kept k (hs.nb r hm), n64 := hs.n64, len := by rw [List.length_set, List.length_set]; exact hs.len, has := ?_, no := fun p hp h => hs.no p hp (set_fst (e' := (e.1, e.2.1, high', l')) he rfl h), apart := ?_, nb := ?_, falls := hs.falls.set he rfl rfl hring.len }, k.mono (fun q _ hq => Or.inr ⟨r, hm, hq⟩), hgr⟩
  · intro j a s ha hsj
    rcases getR j s hsj with ⟨rfl, rfl⟩ | ⟨hne, hsj⟩
    · rw [List.getElem?_set_self hi2] at ha
      simp at ha; subst ha
      exact ⟨(hs.has j e r he hr).1, hring⟩
    · rw [List.getElem?_set, if_neg (fun e => hne e.symm)] at ha
      have h := hs.has j a s ha hsj
      exact ⟨h.1, h.2.kept k (fun q hq h2 => hs.apart j i s r hsj hr hne q hq h2)⟩
  · intro j l s t hj hl hne q hq ht
    rcases getR j s hj with ⟨rfl, rfl⟩ | ⟨hj1, hj⟩
    · rcases getR l t hl with ⟨rfl, rfl⟩ | ⟨hl1, hl⟩
      · exact hne rfl
      · rcases hf q hq with h | h
        · exact hs.apart j l r t hr hl hne q h ht
        · have := hlt q (Or.inr ⟨t, List.mem_of_getElem? hl, ht⟩); omega
    · rcases getR l t hl with ⟨hli, ht2⟩ | ⟨hl1, hl⟩
      · rw [ht2] at ht
        rcases hf q ht with h | h
        · exact hs.apart j i s r hj hr (fun e => hj1 e) q hq h
        · have := hlt q (Or.inr ⟨s, List.mem_of_getElem? hj, hq⟩); omega
      · exact hs.apart j l s t hj hl hne q hq ht
  · intro s hsm h
    rcases List.mem_or_eq_of_mem_set hsm with h1 | rfl
    · exact hs.nb s h1 h
    · rcases hf b h with h2 | h2
      · exact hs.nb r hm h2
      · have := hs.blk.lt; omega

/-- the bits are written -/
theorem IsQ.setBits (hs : IsQ w b cells R st B mk) (B' : Nat) : IsQ (w.setCell ⟨b, 65, none⟩ (.int .u64 B')) b cells R st B' mk := by
  refine { hs with blk := ?_, has := fun i e r he hr => ⟨(hs.has i e r he hr).1, (hs.has i e r he hr).2.kept ((Kept.refl (fun q => q = b) w).setCell (p := ⟨b, 65, none⟩) (Or.inl rfl) _) (fun q hq h => hs.nb r (List.mem_of_getElem? hr) (by rw [← h]; exact hq))⟩ }
  have h := hs.blk.set 65 (.int .u64 B')
  have e : (Value.bool mk :: (cells ++ [Value.int .u64 B])).set 65 (.int .u64 B') = Value.bool mk :: (cells ++ [Value.int .u64 B']) := by
    rw [List.set_cons_succ, List.set_append_right _ _ (by rw [hs.n64]; exact Nat.le_refl _), hs.n64]
    rfl
  rwa [e] at h
theorem Stepped.setBits {w' : World} {R' : List Rd} {st' : List En} (h : Stepped w w' b cells R R' st' B mk) (B' : Nat) : Stepped w (w'.setCell ⟨b, 65, none⟩ (.int .u64 B')) b cells R R' st' B' mk :=
  ⟨h.q.setBits B', h.kept.setCell (p := ⟨b, 65, none⟩) (Or.inl (Or.inl rfl)) _, h.grow⟩
theorem Stepped.same {w' wf : World} {R' : List Rd} {st' : List En} (h : Stepped w w' b cells R R' st' B mk) (k : Kept (fun _ => False) w' wf) : Stepped w wf b cells R R' st' B mk :=
  ⟨h.q.same k, h.kept.then k (fun _ h => False.elim h), h.grow⟩
theorem IsQ.stepped {w' : World} (hs : IsQ w b cells R st B mk) (k : Kept (fun _ => False) w w') : Stepped w w' b cells R R st B mk := ⟨hs.same k, k.mono (fun _ _ h => h.elim), fun _ h => Or.inl h⟩

theorem pow_cast (p : Nat) : ((2 : Int) ^ p) = ((2 ^ p : Nat) : Int) := by push_cast; rfl
theorem shl_one {p : Nat} (h : p < 64) : IntKind.u64.wrap ((2 : Int) ^ p) = (2 : Int) ^ p := by
  have h2 : 2 ^ p < 18446744073709551616 := Nat.pow_lt_pow_right (a := 2) (by decide) h
  rw [pow_cast]
  generalize 2 ^ p = X at h2
  exact IntWalk.u64_in _ (by omega)
theorem or_bits {B p : Nat} (hB : B < 18446744073709551616) (h : p < 64) : bits BinOp.or IntKind.u64 (B : Int) ((2 : Int) ^ p) = ((B ||| 2 ^ p : Nat) : Int) := by
  have h2 : 2 ^ p < 18446744073709551616 := Nat.pow_lt_pow_right (a := 2) (by decide) h
  rw [pow_cast]
  exact u64_or_nat B _ hB h2
theorem andNot_bits {B p : Nat} (hB : B < 18446744073709551616) (h : p < 64) : bits BinOp.andNot IntKind.u64 (B : Int) ((2 : Int) ^ p) = ((B &&& (18446744073709551615 - 2 ^ p) : Nat) : Int) := by
  have h2 : 2 ^ p < 18446744073709551616 := Nat.pow_lt_pow_right (a := 2) (by decide) h
  rw [pow_cast]
  exact u64_andNot_nat B _ hB h2
theorem putQ_none {p x : Int} {hd : Bool} (h : idx st p = none) : putQ st p x hd = (st, 130) := by unfold putQ; rw [h]
theorem putQ_some {p x : Int} {hd : Bool} {i : Nat} {e : En} (h : idx st p = some i) (he : st[i]? = some e) : putQ st p x hd = if e.2.1 ≤ e.2.2.2.length then (st, 131) else
      (st.set i (e.1, e.2.1, mxi e.2.2.1 ((e.2.2.2.length : Int) + 1), if hd then x :: e.2.2.2 else e.2.2.2 ++ [x]), 0) := by
  unfold putQ; rw [h]; simp only [he]

set_option maxRecDepth 100000 in
set_option maxHeartbeats 2000000 in
theorem put_last (p x : Int) (hs : IsQ w b cells R st (bitsN st)) : Calls Try.prog 31 #[.pointer (some ⟨b, 0, none⟩), .int .i64 p, .int .i64 x, .func (.func 32) #[] #[]] w fun e w' =>
    ∃ R', e = .returned (.int .i64 (putQ st p x false).2) ∧ Stepped w w' b cells R R' (putQ st p x false).1 (bitsN (putQ st p x false).1) := by
  have c0 := hs.blk.cell 0 rfl
  have ha := at_ok p hs
  cases h : idx st p with
  | none =>
    rw [putQ_none h]
    rw [ringPtr_none h] at ha
    go_enter Try.func31, Try.ntmps31
    go_wp2_with (go_at_call 35; refine ha.mono ?_; rintro e w' ⟨rfl, rfl⟩)
    go_ret
    exact ⟨R, rfl, hs.stepped (Kept.refl _ _)⟩
  | some i =>
    obtain ⟨e, he, hep, _⟩ := idx_some h
    obtain ⟨r, hr⟩ := hs.rd he
    rw [ringPtr_some h hr] at ha
    have hp1 := hs.falls.lt e (List.mem_of_getElem? he)
    subst hep
    have hp0 : (0 : Int) ≤ (e.1 : Int) := by omega
    have hp2 : (e.1 : Int) < 64 := by omega
    have hrg := (hs.has i e r he hr).2
    rw [putQ_some h he]
    by_cases hfull : e.2.1 ≤ e.2.2.2.length
    · rw [if_pos hfull]
      have hl := RI.last_full x hrg hfull
      go_enter Try.func31, Try.ntmps31
      go_wp2_with (first
        | (go_at_call 35; refine ha.mono ?_; rintro e w' ⟨rfl, rfl⟩)
        | (go_at_call 32; refine hl.mono ?_; rintro e w' ⟨rfl, q, rfl⟩))
      go_ret
      exact ⟨R, rfl, hs.stepped ((Kept.refl _ _).drewN q)⟩
    · rw [if_neg hfull]
      have hl := RI.last_room x hrg (by omega)
      simp only [Bool.false_eq_true, if_false]
      obtain ⟨st', hst⟩ : ∃ st', st.set i (e.1, e.2.1, mxi e.2.2.1 ((e.2.2.2.length : Int) + 1), e.2.2.2 ++ [x]) = st' := ⟨_, rfl⟩
      rw [hst]
      have hB : bitsN st' = bitsN st ||| 2 ^ e.1 := by rw [← hst]; exact bits_put he rfl (by simp [ne])
      have hlt := bits_lt hs.falls.lt
      have hw := shl_one hp1
      have hor := or_bits hlt hp1
      rw [← hB] at hor
      go_enter Try.func31, Try.ntmps31
      go_upto_region 8 with (first
        | (go_at_call 35; refine ha.mono ?_; rintro e w' ⟨rfl, rfl⟩)
        | (go_at_call 32; refine hl.mono ?_; rintro e' w1 ⟨rfl, v', f', cs', hring, hf, k⟩))
      have S1 := hs.step he hr k hring hf
      rw [hst] at S1
      have c65 := S1.q.bits
      have f65 := S1.q.blk.frozen 65
      have S2 := Lib.hid (S1.setBits (bitsN st'))
      clear S1 hring hf k hst hB
      go_still_tail 9, (by kernel_rfl)
      go_wp2
      go_ret
      exact ⟨_, rfl, S2.out.same ((Kept.refl (fun _ => False) _).same rfl rfl rfl rfl)⟩
set_option maxRecDepth 100000 in
set_option maxHeartbeats 2000000 in
theorem put_first (p x : Int) (hs : IsQ w b cells R st (bitsN st)) : Calls Try.prog 31 #[.pointer (some ⟨b, 0, none⟩), .int .i64 p, .int .i64 x, .func (.func 47) #[] #[]] w fun e w' =>
    ∃ R', e = .returned (.int .i64 (putQ st p x true).2) ∧ Stepped w w' b cells R R' (putQ st p x true).1 (bitsN (putQ st p x true).1) := by
  have c0 := hs.blk.cell 0 rfl
  have ha := at_ok p hs
  cases h : idx st p with
  | none =>
    rw [putQ_none h]
    rw [ringPtr_none h] at ha
    go_enter Try.func31, Try.ntmps31
    go_wp2_with (go_at_call 35; refine ha.mono ?_; rintro e w' ⟨rfl, rfl⟩)
    go_ret
    exact ⟨R, rfl, hs.stepped (Kept.refl _ _)⟩
  | some i =>
    obtain ⟨e, he, hep, _⟩ := idx_some h
    obtain ⟨r, hr⟩ := hs.rd he
    rw [ringPtr_some h hr] at ha
    have hp1 := hs.falls.lt e (List.mem_of_getElem? he)
    subst hep
    have hp0 : (0 : Int) ≤ (e.1 : Int) := by omega
    have hp2 : (e.1 : Int) < 64 := by omega
    have hrg := (hs.has i e r he hr).2
    rw [putQ_some h he]
    by_cases hfull : e.2.1 ≤ e.2.2.2.length
    · rw [if_pos hfull]
      have hl := RI.first_full x hrg hfull
      go_enter Try.func31, Try.ntmps31
      go_wp2_with (first
        | (go_at_call 35; refine ha.mono ?_; rintro e w' ⟨rfl, rfl⟩)
        | (go_at_call 47; refine hl.mono ?_; rintro e w' ⟨rfl, q, rfl⟩))
      go_ret
      exact ⟨R, rfl, hs.stepped ((Kept.refl _ _).drewN q)⟩
    · rw [if_neg hfull]
      have hl := RI.first_room x hrg (by omega)
      simp only [if_true]
      obtain ⟨st', hst⟩ : ∃ st', st.set i (e.1, e.2.1, mxi e.2.2.1 ((e.2.2.2.length : Int) + 1), x :: e.2.2.2) = st' := ⟨_, rfl⟩
      rw [hst]
      have hB : bitsN st' = bitsN st ||| 2 ^ e.1 := by rw [← hst]; exact bits_put he rfl (by simp [ne])
      have hlt := bits_lt hs.falls.lt
      have hw := shl_one hp1
      have hor := or_bits hlt hp1
      rw [← hB] at hor
      go_enter Try.func31, Try.ntmps31
      go_upto_region 8 with (first
        | (go_at_call 35; refine ha.mono ?_; rintro e w' ⟨rfl, rfl⟩)
        | (go_at_call 47; refine hl.mono ?_; rintro e' w1 ⟨rfl, v', f', cs', hring, hf, k⟩))
      have S1 := hs.step he hr k hring hf
      rw [hst] at S1
      have c65 := S1.q.bits
      have f65 := S1.q.blk.frozen 65
      have S2 := Lib.hid (S1.setBits (bitsN st'))
      clear S1 hring hf k hst hB
      go_still_tail 9, (by kernel_rfl)
      go_wp2
      go_ret
      exact ⟨_, rfl, S2.out.same ((Kept.refl (fun _ => False) _).same rfl rfl rfl rfl)⟩
theorem tail_ok (p x : Int) (hs : IsQ w b cells R st (bitsN st)) : Calls Try.prog 10 #[.pointer (some ⟨b, 0, none⟩), .int .i64 p, .int .i64 x] w fun e w' =>
    ∃ R', e = .returned (.int .i64 (putQ st p x false).2) ∧ Stepped w w' b cells R R' (putQ st p x false).1 (bitsN (putQ st p x false).1) := by
  have h := put_last p x hs
  go_enter Try.func10, Try.ntmps10
  go_wp2_with (go_at_call 31; refine h.mono ?_; rintro e w' ⟨R', rfl, hS⟩)
  go_ret
  exact ⟨R', rfl, hS⟩
theorem head_ok (p x : Int) (hs : IsQ w b cells R st (bitsN st)) : Calls Try.prog 18 #[.pointer (some ⟨b, 0, none⟩), .int .i64 p, .int .i64 x] w fun e w' =>
    ∃ R', e = .returned (.int .i64 (putQ st p x true).2) ∧ Stepped w w' b cells R R' (putQ st p x true).1 (bitsN (putQ st p x true).1) := by
  have h := put_first p x hs
  go_enter Try.func18, Try.ntmps18
  go_wp2_with (go_at_call 31; refine h.mono ?_; rintro e w' ⟨R', rfl, hS⟩)
  go_ret
  exact ⟨R', rfl, hS⟩
end
end Go.Proofs.Ytdjdnfjfomeldaa.QD
