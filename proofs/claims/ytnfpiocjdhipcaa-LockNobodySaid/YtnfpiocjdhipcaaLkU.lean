/- lock.Lock: Reset. -/
import Derived.Test.YtnfpiocjdhipcaaLkB
namespace Go.Proofs.Ytnfpiocjdhipcaa.LK
open Go.RowKit Go.Fr Go.Tb
attribute [local go_sem] Oper.semAt_some

theorem wpList_make {P : Program} (w : World) {ops : Array Oper} {rest : List Oper} {o : Oper} {a : Act} {Q : Exit → Act → World → Prop} (hg : o.guard = none) (t : TypeId) (hop : o.op = Op.makeMap t none)
    (hK : ∀ w', w.alloc (.map #[] 0) = w' → wpList P ops Q rest (a.put o.dst (.map (some w.heap.size))) w') : wpList P ops Q (o :: rest) a w := by
  refine wpList_plain hg fun K' hK' => ?_
  unfold Oper.wp
  simp only [execOp, hop]
  rw [show (Option.map a.eval none : Option Value) = none from rfl] at *
  simp [run_makeMap, Result.andThen]
  exact hK' _ _ (hK _ rfl)
section
variable {w w' : World} {b : Nat} {M : Lm} {T : Tb} {x3 x4 x5 x6 x7 x8 : Value}
theorem inAt_rep (n : Nat) (i : Int) : inAt (List.replicate n false) i = false := by
  unfold inAt
  rw [List.getElem?_replicate]
  split <;> simp
set_option maxRecDepth 100000 in
set_option maxHeartbeats 400000 in
theorem reset_ok (hb : Blk w b [.map (some M.rb), M.vi, M.vc, x3, x4, x5, x6, x7, x8] 74) (hf : Fx w M T) (hfb : ∀ g, lfix M g → g ≠ b) : Calls Try.prog 23 #[.pointer (some ⟨b, 0, none⟩)] w fun e w' =>
    e = .returned (.int .i64 0) ∧ ∃ M', IsLk w' b M' T [] (List.replicate T.tasks.length false) (false, 0, 0) ∧ (M'.rb = M.rb ∧ M'.vi = M.vi ∧ M'.vc = M.vc ∧ M'.rows = M.rows) ∧ Kept (fun g => g = b) w w' ∧ ∀ g, lmut b M' g → g = b ∨ w.heap.size ≤ g := by
  have c0 := hb.cell 0 rfl
  have c3 := hb.cell 3 rfl
  have c4 := hb.cell 4 rfl
  have c5 := hb.cell 5 rfl
  have c6 := hb.cell 6 rfl
  have c7 := hb.cell 7 rfl
  have c8 := hb.cell 8 rfl
  have f3 := hb.frozen 3
  have f4 := hb.frozen 4
  have f5 := hb.frozen 5
  have f6 := hb.frozen 6
  have f7 := hb.frozen 7
  have f8 := hb.frozen 8
  have hlt := hb.lt
  have hne : ∀ (r : Nat) (w : World), (binOp .neq 68 (.map (some r)) (.map none)).run Try.prog w = .ok (.bool true) w := fun _ _ => by kernel_rfl
  have hma : Calls Try.prog 31 #[.pointer (some ⟨b, 0, none⟩)] w fun e w' => e = .returned (.bool true) ∧ w = w' := by
    go_enter Try.func31, Try.ntmps31
    go_wp2
    go_ret
    exact ⟨rfl, rfl⟩
  have HB := Lib.hid hb
  have HF := Lib.hid hf
  clear hb hf
  go_enter Try.func23, Try.ntmps23
  go_upto_region 3 with (go_at_call 31; refine hma.mono ?_; rintro e w1 ⟨rfl, rfl⟩)
  clear c3 c4 c5 c6 c7 c8 f3 f4 f5 f6 f7 f8 c0
  go_wp2_with (first
    | (refine wpList_make w rfl 70 rfl ?_; intro w1 hw1)
    | (refine wpList_make w1 rfl 71 rfl ?_; intro w2 hw2)
    | (refine wpList_make w2 rfl 72 rfl ?_; intro w3 hw3
       have z1 : w1.heap.size = w.heap.size + 1 := by rw [← hw1]; simp
       have z2 : w2.heap.size = w.heap.size + 2 := by rw [← hw2, World.size_alloc, z1]
       have k3 : Kept (fun _ => False) w w3 := by rw [← hw3, ← hw2, ← hw1]; exact (((Kept.refl _ _).alloc _).alloc _).alloc _
       have hb3 := HB.out.kept k3 (fun x => x)
       have m1 : IsMap w3 ekO evP w.heap.size [] := by rw [← hw3, ← hw2, ← hw1]; exact ((IsMap.made w ekO evP).kept (((Kept.refl (fun _ => False) _).alloc _).alloc _) (fun x => x))
       have m2 : IsMap w3 ekI ekO w1.heap.size [] := by rw [← hw3, ← hw2]; exact ((IsMap.made w1 ekI ekO).kept ((Kept.refl (fun _ => False) _).alloc _) (fun x => x))
       have m3 : IsMap w3 ekI evB w2.heap.size [] := by rw [← hw3]; exact IsMap.made w2 ekI evB
       have c3 := hb3.cell 3 rfl
       have c4 := hb3.cell 4 rfl
       have c5 := hb3.cell 5 rfl
       have c6 := hb3.cell 6 rfl
       have c7 := hb3.cell 7 rfl
       have c8 := hb3.cell 8 rfl
       have f3 := hb3.frozen 3
       have f4 := hb3.frozen 4
       have f5 := hb3.frozen 5
       have f6 := hb3.frozen 6
       have f7 := hb3.frozen 7
       have f8 := hb3.frozen 8
       have HB3 := Lib.hid hb3
       have HM := Lib.hid (And.intro m1 (And.intro m2 m3))
       clear hw1 hw2 hw3 hb3 m1 m2 m3
       go_wp2_with fail
       go_ret
       obtain ⟨m1, m2, m3⟩ := HM.out
       rw [z1] at m2
       rw [z2] at m3
       have kf : Kept (fun g => g = b) w3 ((((((w3.setCell ⟨b, 3, none⟩ (.map (some w.heap.size))).setCell ⟨b, 4, none⟩ (.map (some (w.heap.size + 1)))).setCell ⟨b, 5, none⟩ (.map (some (w.heap.size + 2)))).setCell ⟨b, 6, none⟩ (.bool false)).setCell ⟨b, 7, none⟩ (.int .i64 0)).setCell ⟨b, 8, none⟩ (.int .i64 0)) :=
         ((((((Kept.refl (fun g => g = b) w3).set (b := b) 3 (Or.inl rfl) _).set (b := b) 4 (Or.inl rfl) _).set (b := b) 5 (Or.inl rfl) _).set (b := b) 6 (Or.inl rfl) _).set (b := b) 7 (Or.inl rfl) _).set (b := b) 8 (Or.inl rfl) _
       have hbf := ((((((HB3.out.set 3 (.map (some w.heap.size))).set 4 (.map (some (w.heap.size + 1)))).set 5 (.map (some (w.heap.size + 2)))).set 6 (.bool false)).set 7 (.int .i64 0)).set 8 (.int .i64 0))
       have hfl := HF.out.lt
       have hsep : ∀ g, lfix M g → ¬ lmut b ⟨M.rb, M.vi, M.vc, M.rows, w.heap.size, w.heap.size + 1, w.heap.size + 2, [], [], []⟩ g := fun g hg hm => by
         have h1 := hfl g hg
         rcases hm with e | e | e | e | ⟨p, hp, _⟩
         · exact hfb g hg e
         · dsimp only at e; omega
         · dsimp only at e; omega
         · dsimp only at e; omega
         · cases hp
       refine ⟨rfl, ⟨M.rb, M.vi, M.vc, M.rows, w.heap.size, w.heap.size + 1, w.heap.size + 2, [], [], []⟩, ?_, ⟨rfl, rfl, rfl, rfl⟩, (k3.mono (fun _ _ x => x.elim)).then kf (fun _ x => Or.inl x), ?_⟩
       · exact { blk := hbf, fx := ((HF.out.kept k3 (fun _ _ x => x)).kept kf (fun g hg e => hfb g hg e)).to, hm := m1.kept kf (fun e => by omega), om := m2.kept kf (fun e => by omega), em := m3.kept kf (fun e => by omega), hok := fun p hp => (by cases hp), ook := fun p hp => (by cases hp), eok := fun p hp => (by cases hp), hat := fun o => rfl, oat := fun r => rfl, eat := fun i => (by rw [inAt_rep]; rfl), inv := inv_nil T, li := (by simp), ap := fun o s o' s' h1 => (by cases h1), hd := fun o s h1 => (by cases h1), nb := ⟨by show w.heap.size ≠ w.heap.size + 1; omega, by show w.heap.size ≠ w.heap.size + 2; omega, by show w.heap.size + 1 ≠ w.heap.size + 2; omega⟩, sep := hsep }
       · rintro g (e | e | e | e | ⟨p, hp, _⟩)
         · exact Or.inl e
         · exact Or.inr (by dsimp only at e; omega)
         · exact Or.inr (by dsimp only at e; omega)
         · exact Or.inr (by dsimp only at e; omega)
         · cases hp))
end
end Go.Proofs.Ytnfpiocjdhipcaa.LK
