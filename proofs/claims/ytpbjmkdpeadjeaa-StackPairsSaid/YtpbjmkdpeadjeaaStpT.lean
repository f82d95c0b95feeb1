/- Push of stack.Stack[tappet/tappetlaw14.Pair]. -/
import Derived.Test.YtpbjmkdpeadjeaaStpInt
import Derived.Test.YtpbjmkdpeadjeaaMem
namespace Go.Proofs.Ytpbjmkdpeadjeaa.SP
open Go.RowKit Go.Fr

theorem IsStk.kept {w w' : World} {b : Nat} {v : Value} {d h : Int} {l : List Pr} {S : Nat → Prop} (hs : IsStk w b v d h l) (k : Kept S w w') (hn : ∀ i, foot b v i → ¬ S i) : IsStk w' b v d h l :=
  ⟨hs.1.kept k (hn _ (Or.inl rfl)), row_kept hs.2.1 k (fun g hg => hn _ (Or.inr hg)), hs.2.2⟩

set_option maxRecDepth 100000 in
set_option maxHeartbeats 400000 in
theorem push_deferred {w : World} {b p : Nat} {v : Value} {d h : Int} {l : List Pr} (u : FrameMode) (hs : IsStk w b v d h l) (hp : w.cell? ⟨p, 0, none⟩ = some (.pointer (some ⟨b, 0, none⟩))) :
    CallsD Try.prog 43 #[.pointer (some ⟨p, 0, none⟩)] u w fun e u' w' => u' = u ∧ e = .returned (.tuple #[]) ∧
      IsStk w' b v d (mxi h l.length) l ∧ Kept (fun k => k = b) w w' := by
  obtain ⟨hb, hr, ho, hn⟩ := hs
  have c2 := hb.cell 2 rfl
  have c3 := hb.cell 3 rfl
  have f3 := hb.frozen 3
  obtain ⟨ao, c, rfl, hc⟩ := row_any hr
  go_enter_d Try.func43, Try.ntmps43
  go_wp2
  go_region
  go_end0
  exact ⟨rfl, ⟨(hb.set 3 _).drew, row_setCell_other hr (by simpa using ho) _, ho, hn⟩, ((Kept.refl (fun k => k = b) _).set 3 (Or.inl rfl) _).drew⟩

set_option maxRecDepth 100000 in
set_option maxHeartbeats 1000000 in
theorem push_full {w : World} {b : Nat} {v : Value} {d h : Int} {l : List Pr} (x : Pr) (hs : IsStk w b v d h l) (hd : d ≤ l.length) (hh : l.length ≤ h) :
    Calls Try.prog 15 #[.pointer (some ⟨b, 0, none⟩), valP x] w fun e w' => e = .returned (.int .i64 141) ∧
      IsStk w' b v d h l ∧ Kept (foot b v) w w' := by
  have hs' := hs
  obtain ⟨hb, hr, ho, hn⟩ := hs
  have hlt := hb.lt
  have c0 := hb.cell 0 rfl
  have c1 := hb.cell 1 rfl
  have c2 := hb.cell 2 rfl
  obtain ⟨ao, c, rfl, hc⟩ := row_any hr
  have hmf : ∀ (fn : Fn) (first cap : Array Value) (w : World), (Instr.makeFunc fn first cap).run Try.prog w = .ok (.func fn first cap) w := fun _ _ _ _ => rfl
  go_enter_defers Try.func15, Try.ntmps15
  go_wp2
  go_quiet (fail)
  go_wp2
  refine leaves_cons (f := 43) (args := #[.pointer (some ⟨w.heap.size, 0, none⟩)]) (by simp) (by simp [go_sem]) ?_
  refine (push_deferred .returning (IsStk.kept (S := fun _ => False) hs' ((((Kept.refl _ _).alloc _).alloc _).drewN _) (fun _ _ h => h)) ?hp).mono ?_
  case hp => simp
  rintro e u' w'' ⟨rfl, rfl, h1, h2⟩
  rw [show mxi h l.length = h from if_neg (by omega)] at h1
  exact ⟨_, results_tmp rfl _ _ _, rfl, h1, ((((Kept.refl (foot b _) w).alloc _).alloc _).drewN _).then h2 (fun i hi => Or.inl (Or.inl hi))⟩

set_option maxRecDepth 100000 in
set_option maxHeartbeats 1000000 in
theorem push_room {w : World} {b : Nat} {v : Value} {d h : Int} {l : List Pr} (x : Pr) (hs : IsStk w b v d h l) (hd : l.length < d) (hd2 : d ≤ 1024) :
    Calls Try.prog 15 #[.pointer (some ⟨b, 0, none⟩), valP x] w fun e w' => e = .returned (.int .i64 0) ∧
      ∃ v', IsStk w' b v' d (mxi h (l.length + 1)) (l ++ [x]) ∧ Kept (foot b v) w w' ∧ (∀ i, foot b v' i → foot b v i ∨ w.heap.size ≤ i) := by
  have hs' := hs
  obtain ⟨hb, hr, ho, hn⟩ := hs
  have hlt := hb.lt
  have c0 := hb.cell 0 rfl
  have c1 := hb.cell 1 rfl
  have c2 := hb.cell 2 rfl
  have f2 := hb.frozen 2
  obtain ⟨i0, hi, hz0, hz1, hz2⟩ := info_parts info
  obtain ⟨ao, c, rfl, hc⟩ := row_any hr
  have hmf : ∀ (fn : Fn) (first cap : Array Value) (w : World), (Instr.makeFunc fn first cap).run Try.prog w = .ok (.func fn first cap) w := fun _ _ _ _ => rfl
  go_enter_defers Try.func15, Try.ntmps15
  go_wp2
  go_quiet (fail)
  go_upto_region 6 with (fail)
  have hbs : ¬ b = w.heap.size := by omega
  have hob : (Value.slice ao l.length c).ownBlock ≠ some w.heap.size := fun e => by have := row_lt hr e; omega
  have e2 := ((hb.alloc (.cells #[.pointer (some ⟨b, 0, none⟩)] 27)).alloc (.cells #[.int .i64 x.1, .string x.2] 31)).cell 2 rfl
  have e2' : ∀ n, ((((w.alloc (.cells #[.pointer (some ⟨b, 0, none⟩)] 27)).alloc (.cells #[.int .i64 x.1, .string x.2] 31)).drewN n).cell? ⟨b, 2, none⟩) = some (.slice ao l.length c) := fun n => e2
  have e3 : ∀ n, (((((w.alloc (.cells #[.pointer (some ⟨b, 0, none⟩)] 27)).alloc (.cells #[.int .i64 x.1, .string x.2] 31)).drewN n).alloc (.cells #[.int .i64 x.1, .string x.2] 31)).cell? ⟨b, 2, none⟩) = some (.slice ao l.length c) := fun n => ((((hb.alloc (.cells #[.pointer (some ⟨b, 0, none⟩)] 27)).alloc (.cells #[.int .i64 x.1, .string x.2] 31)).drewN n).alloc (.cells #[.int .i64 x.1, .string x.2] 31)).cell 2 rfl
  go_cut [] from 19 to 28 (fun wx => ∃ g c', Blk wx w.heap.size [.pointer (some ⟨b, 0, none⟩)] 27 ∧ IsStk wx b (.slice (some ⟨g, 0, none⟩) (l.length + 1) c') d h (l ++ [x]) ∧ Kept (foot b (.slice ao l.length c)) w wx ∧ ((Value.slice ao l.length c).ownBlock = some g ∨ w.heap.size ≤ g))
  case first =>
    refine wp_region_noPanic ?_
    go_region_law (refine step_append_row rfl (.tmp 23) (.tmp 25) 25 rfl 31 i0 (.agg #[.int .i64 0, .string ⟨#[]⟩]) 2 24 Try.underlying25 hi hz0 hz1 hz2 rfl (by decide) (.slice ao l.length c) l.length (l.flatMap encP) (by simp [Act.eval, Act.put]) (row_heap (row_alloc (row_alloc (row_alloc hr (.cells #[.pointer (some ⟨b, 0, none⟩)] 27)) (.cells #[.int .i64 x.1, .string x.2] 31)) (.cells #[.int .i64 x.1, .string x.2] 31)) (fun _ _ => rfl)) ⟨w.heap.size + 1 + 1, 0, none⟩ 1 1 (encP x) (by simp [Act.eval, Act.put]) rfl (new_cells _ _ _ (by simp)) (by intro u hu; simp only [encP, List.mem_cons, List.not_mem_nil, or_false] at hu; rcases hu with rfl | rfl <;> rfl) (by decide) (by unfold maxLen; omega) (by omega) ?_; intro g c' w1 r1 r2 r3 r4 r5 r6; have hp1 := blk_after r2 (((Blk.new w [.pointer (some ⟨b, 0, none⟩)] 27).alloc (.cells #[.int .i64 x.1, .string x.2] 31)).alloc (.cells #[.int .i64 x.1, .string x.2] 31)) rfl hob; have hb1 := blk_after r2 (((hb.alloc (.cells #[.pointer (some ⟨b, 0, none⟩)] 27)).alloc (.cells #[.int .i64 x.1, .string x.2] 31)).alloc (.cells #[.int .i64 x.1, .string x.2] 31)) rfl ho; have k1 := hp1.cell 0 rfl; have k2 := hb1.frozen 2; have k3 := hb1.cell 2 rfl)
    all_goals
      refine NoPanic.normal ?_
      go_wp2_with fail
      go_meet
      have hgb : g ≠ b := by rintro rfl; rcases r3 with h3 | h3; exact ho h3; simp at h3; omega
      have hrow := row_setCell_other r1 (a := ⟨b, 2, none⟩) (by simpa [Value.ownBlock] using hgb) (.slice (some ⟨g, 0, none⟩) (l.length + 1) c')
      exact ⟨g, c', hp1.other (p := ⟨b, 2, none⟩) hbs _, ⟨hb1.set 2 _, by simpa using hrow, by simpa [Value.ownBlock] using hgb, by simp; omega⟩,
        ((((((Kept.refl (foot b (.slice ao l.length c)) w).alloc _).alloc _).drewN _).alloc _).grown r2 (fun k hk => Or.inl (Or.inr hk))).set (b := b) 2 (Or.inl (Or.inl rfl)) _, r3.imp id (fun h3 => by simp at h3; omega)⟩
  case rest =>
    obtain ⟨g, c', hpp, hI, hk2, r3⟩ := hcut
    go_wp2
    refine leaves_cons (f := 43) (args := #[.pointer (some ⟨w.heap.size, 0, none⟩)]) (by simp) (by simp [go_sem]) ?_
    refine (push_deferred .returning hI (hpp.cell 0 rfl)).mono ?_
    rintro e u' w'' ⟨rfl, rfl, q1, q2⟩
    refine ⟨_, results_tmp rfl _ _ _, rfl, _, by simpa using q1, hk2.then q2 (fun i hi => Or.inl (Or.inl hi)), ?_⟩
    rintro i (rfl | hi)
    · exact Or.inl (Or.inl rfl)
    · simp [Value.ownBlock] at hi
      subst hi
      exact r3.imp Or.inr id

end Go.Proofs.Ytpbjmkdpeadjeaa.SP
