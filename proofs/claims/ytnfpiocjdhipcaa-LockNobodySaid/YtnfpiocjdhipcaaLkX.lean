/- tappetlaw19: the tables Two. -/
import Derived.Test.YtnfpiocjdhipcaaLkW
import Derived.Test.YtnfpiocjdhipcaaLkN
import Derived.Deep.Light
namespace Go.Proofs.Ytnfpiocjdhipcaa.LK
open Go.RowKit Go.Fr Go.Tb Go.Proofs.Ytnfpiocjdhipcaa.TC

def twoT (o1 o2 ta ra ea : Option Addr) : Tb where
  uses := 0
  modes := 1
  tasks := [⟨1, 1, false, 1, 0, -1, o1, 2, [0, 1], 0⟩, ⟨3, 0, false, 1, 0, -1, o2, 1, [0], 0⟩]
  ta := ta
  tc := 2
  rings := [(3, 1), (1, 1)]
  ra := ra
  rc := 2
  ress := [(false, 3), (false, 1)]
  ea := ea
  ec := 2
  counters := []
  ca := none
  cc := 0
  alarms := []
  aa := none
  ac := 0
  isrs := []
  ia := none
  ic := 0
  msgs := []
  ma := none
  mc := 0
  depth := 2
  frames := 4
  errs := 2
  backs := 0
theorem asize (w : World) (o : Obj) : (w.alloc o).heap.size = w.heap.size + 1 := Array.size_push _
theorem camel_new {α : Type} {w0 w' : World} {b sz : Nat} {enc : α → List Value} {l : List α} {e : TypeId} {cs : Array Value} (he : ∀ x, (enc x).length = sz) (hb : w0.heap.size = b) (hc : cs = (l.flatMap enc).toArray)
    (k : Kept (fun _ => False) (w0.alloc (.cells cs e)) w') : CameL w' sz enc (some ⟨b, 0, none⟩) l := by
  subst hb hc
  have nb : Blk (w0.alloc (.cells (l.flatMap enc).toArray e)) w0.heap.size (l.flatMap enc) e := Blk.new w0 _ e
  have nb' := nb.kept k (fun h => h)
  intro hl
  refine ⟨w0.heap.size, 0, rfl, nb'.lt, fun i x hx j u hu => ?_⟩
  rw [Nat.zero_add]
  exact nb'.cell _ (by rw [flat_get he l i j x hx (by have := (List.getElem?_eq_some_iff.1 hu).1; rw [he] at this; exact this)]; exact hu)
set_option maxRecDepth 100000 in
set_option maxHeartbeats 2000000 in
theorem two_raw {w : World} : Calls Try.prog 24 #[] w fun e w' =>
    ∃ o1 o2 ta ra ea, e = .returned (.agg (twoT o1 o2 ta ra ea).cells.toArray) ∧ TabIn w' (twoT o1 o2 ta ra ea) ∧ Kept (fun _ => False) w w' := by
  go_enter Try.func24, Try.ntmps24
  go_wp2
  refine bodyPost_ret (by rw [results_cell rfl]; go_simp; rfl) rfl ⟨some ⟨w.heap.size + 1, 0, none⟩, some ⟨w.heap.size + 2, 0, none⟩, some ⟨w.heap.size + 3, 0, none⟩, some ⟨w.heap.size + 4, 0, none⟩, some ⟨w.heap.size + 5, 0, none⟩, rfl, ?_, ?_⟩
  · refine ⟨?_, ?_, ?_, ?_, ?_, ?_, ?_, ?_, ?_⟩
    · exact camel_new (fun _ => rfl) (by simp only [asize]) rfl (((Kept.refl _ _).alloc _).alloc _)
    · intro x hx
      simp only [twoT, List.mem_cons, List.not_mem_nil, or_false] at hx
      rcases hx with rfl | rfl
      · exact camel_new (fun _ => rfl) (by simp only [asize]) rfl (((((Kept.refl _ _).alloc _).alloc _).alloc _).alloc _)
      · exact camel_new (fun _ => rfl) (by simp only [asize]) rfl ((((Kept.refl _ _).alloc _).alloc _).alloc _)
    · exact camel_new (fun _ => rfl) (by simp only [asize]) rfl ((Kept.refl _ _).alloc _)
    · exact camel_new (fun _ => rfl) (by simp only [asize]) rfl (Kept.refl _ _)
    · exact fun h => absurd rfl h
    · exact fun h => absurd rfl h
    · exact fun h => absurd rfl h
    · intro x hx
      simp [twoT] at hx
    · exact fun h => absurd rfl h
  · exact ((((((Kept.refl _ _).alloc _).alloc _).alloc _).alloc _).alloc _).alloc _
theorem two_wf (o1 o2 ta ra ea : Option Addr) : (twoT o1 o2 ta ra ea).Wf := by
  refine ⟨?_, ?_, ?_, ?_, ?_, ?_, ?_, ?_, ?_⟩
  · simp [twoT, I64]
  · simp [twoT]
  · intro x hx
    simp only [twoT, List.mem_cons, List.not_mem_nil, or_false] at hx
    rcases hx with rfl | rfl <;> simp [I64, U32]
  · intro x hx
    simp only [twoT, List.mem_cons, List.not_mem_nil, or_false] at hx
    rcases hx with rfl | rfl <;> simp [I64]
  · intro x hx
    simp only [twoT, List.mem_cons, List.not_mem_nil, or_false] at hx
    rcases hx with rfl | rfl <;> simp [I64]
  · intro x hx; simp [twoT] at hx
  · intro x hx; simp [twoT] at hx
  · intro x hx; simp [twoT] at hx
  · intro x hx; simp [twoT] at hx
theorem two_check (o1 o2 ta ra ea : Option Addr) : CheckP (twoT o1 o2 ta ra ea) := by
  refine ⟨?_, ?_, ?_, ⟨⟨?_, ?_⟩, ⟨?_, ?_⟩, ?_, ?_⟩, ⟨?_, ?_, ?_, ?_⟩⟩
  · unfold FewP
    simp [twoT]
  · intro x hx
    simp only [twoT, List.mem_cons, List.not_mem_nil, or_false] at hx
    rcases hx with rfl | rfl <;> simp
  · intro x hx
    simp only [twoT, List.mem_cons, List.not_mem_nil, or_false] at hx
    rcases hx with rfl | rfl <;> simp
  · intro x hx
    simp only [twoT, List.mem_cons, List.not_mem_nil, or_false] at hx
    rcases hx with rfl | rfl
    · refine ⟨⟨by simp, ⟨(1, 1), by simp [twoT], rfl⟩, by simp, by simp, by simp⟩, by simp, ?_, by simp⟩
      intro i hi
      have hi2 : i < 2 := by simpa using hi
      rcases (show i = 0 ∨ i = 1 by omega) with rfl | rfl
      · exact ⟨0, (false, 3), rfl, by simp, by simp [twoT], Or.inl rfl, rfl, by simp⟩
      · exact ⟨1, (false, 1), rfl, by simp, by simp [twoT], Or.inr ⟨0, rfl, by simp⟩, rfl, by simp⟩
    · refine ⟨⟨by simp, ⟨(3, 1), by simp [twoT], rfl⟩, by simp, by simp, by simp⟩, by simp, ?_, by simp⟩
      intro i hi
      have hi2 : i < 1 := by simpa using hi
      obtain rfl : i = 0 := by omega
      exact ⟨0, (false, 3), rfl, by simp, by simp [twoT], Or.inl rfl, rfl, by simp⟩
  · show ringsB [_, _] 64 = [(3, 1), (1, 1)]
    simp [ringsB, sumAt]
  · intro x hx; simp [twoT] at hx
  · intro x hx; simp [twoT] at hx
  · intro k hk x hx; simp [twoT] at hx
  · intro x hx; simp [twoT] at hx
  · simp [twoT]
  · simp [twoT]
  · exact ⟨by simp [twoT], fun c => by simp [twoT, ctrs], fun c => by simp [twoT, srcs], Or.inl rfl⟩
  · simp [twoT, backsA, backsM]
end Go.Proofs.Ytnfpiocjdhipcaa.LK
