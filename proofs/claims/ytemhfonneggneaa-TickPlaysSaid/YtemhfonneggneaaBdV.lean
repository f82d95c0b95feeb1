/- The tables of the law's own making: One. -/
import Derived.Test.YtemhfonneggneaaTbC
import Derived.Test.YtemhfonneggneaaMem
import Derived.Deep.Light
namespace Go.Proofs.Ytemhfonneggneaa.BD
open Go.RowKit Go.Fr Go.Tb

def alR : AlarmR := ⟨0, 1, 0, 0, 0, 0, 0⟩
/-- the tables One gives -/
def oneT (most : Int) (ta ra ca aa ia : Option Addr) : Tb where
  uses := 0
  modes := 1
  tasks := [⟨1, 0, false, 1, 0, -1, none, 0, [], 0⟩]
  ta := ta
  tc := 1
  rings := [(1, 1)]
  ra := ra
  rc := 1
  ress := []
  ea := none
  ec := 0
  counters := [(most, 1, 1)]
  ca := ca
  cc := 1
  alarms := [alR, alR]
  aa := aa
  ac := 2
  isrs := [⟨2, 70, none, 0, []⟩, ⟨1, 90, none, 0, []⟩]
  ia := ia
  ic := 2
  msgs := []
  ma := none
  mc := 0
  depth := 1
  frames := 6
  errs := 2
  backs := 0

theorem results_cell {fn : Func} {p : Tmp} {ty : TypeId} (h : fn.results = #[.cell p ty]) (tmps : Array Value) (P : Program) (w : World) :
    (results fn tmps).run P w = ((asAddr (tmps.getD p undef)).run P w).andThen fun a w₁ => (loadVar ty a).run P w₁ := by
  simp only [results, h]
  simp [Sem.run_bind, Result.andThen]

theorem asize (w : World) (o : Obj) : (w.alloc o).heap.size = w.heap.size + 1 := Array.size_push _
theorem camel_new {α : Type} {w0 w' : World} {b sz : Nat} {enc : α → List Value} {l : List α} {e : TypeId} {cs : Array Value} (he : ∀ x, (enc x).length = sz) (hb : w0.heap.size = b) (hc : cs = (l.flatMap enc).toArray)
    (k : Kept (fun _ => False) (w0.alloc (.cells cs e)) w') : CameL w' sz enc (some ⟨b, 0, none⟩) l := by
  subst hb hc
  have nb : Blk (w0.alloc (.cells (l.flatMap enc).toArray e)) w0.heap.size (l.flatMap enc) e := Blk.new w0 _ e
  have nb' := nb.kept k (fun h => h)
  intro hl
  refine ⟨w0.heap.size, 0, rfl, nb'.lt, fun i x hx j u hu => ?_⟩
  rw [Nat.zero_add]
  exact nb'.cell _ (by rw [flat_get he l i j x hx (by have := (List.getElem?_eq_some_iff.1 hu).1; rw [he] at this; exact this)]; exact hu)

set_option maxRecDepth 100000 in
set_option maxHeartbeats 2000000 in
theorem one_raw {w : World} (most : Int) : Calls Try.prog 8 #[.int .u32 most] w fun e w' =>
    ∃ ta ra ca aa ia, e = .returned (.agg (oneT most ta ra ca aa ia).cells.toArray) ∧ TabIn w' (oneT most ta ra ca aa ia) ∧ Kept (fun _ => False) w w' := by
  go_enter Try.func8, Try.ntmps8
  go_wp2
  refine bodyPost_ret (by rw [results_cell rfl]; go_simp; rfl) rfl ⟨some ⟨w.heap.size + 2, 0, none⟩, some ⟨w.heap.size + 3, 0, none⟩, some ⟨w.heap.size + 4, 0, none⟩, some ⟨w.heap.size + 5, 0, none⟩, some ⟨w.heap.size + 6, 0, none⟩, rfl, ?_, ?_⟩
  · refine ⟨?_, ?_, ?_, ?_, ?_, ?_, ?_, ?_, ?_⟩
    · exact camel_new (fun _ => rfl) (by simp only [asize]) rfl (((((Kept.refl _ _).alloc _).alloc _).alloc _).alloc _)
    · intro x hx
      simp only [oneT, List.mem_singleton] at hx
      subst hx
      exact fun h => absurd rfl h
    · exact camel_new (fun _ => rfl) (by simp only [asize]) rfl ((((Kept.refl _ _).alloc _).alloc _).alloc _)
    · exact fun h => absurd rfl h
    · exact camel_new (fun _ => rfl) (by simp only [asize]) rfl (((Kept.refl _ _).alloc _).alloc _)
    · exact camel_new (fun _ => rfl) (by simp only [asize]) rfl ((Kept.refl _ _).alloc _)
    · exact camel_new (fun _ => rfl) (by simp only [asize]) rfl (Kept.refl _ _)
    · intro x hx
      simp only [oneT, List.mem_cons, List.not_mem_nil, or_false] at hx
      rcases hx with rfl | rfl
      · exact fun h => absurd rfl h
      · exact fun h => absurd rfl h
    · exact fun h => absurd rfl h
  · exact (((((((Kept.refl _ _).alloc _).alloc _).alloc _).alloc _).alloc _).alloc _).alloc _
end Go.Proofs.Ytemhfonneggneaa.BD
