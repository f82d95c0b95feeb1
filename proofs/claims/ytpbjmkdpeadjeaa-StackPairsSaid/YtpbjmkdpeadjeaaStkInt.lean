/- Contracts of the methods of stack.Stack[int] (made by New), the stack said as a list of numbers, the lowest first. -/
import Derived.Test.YtpbjmkdpeadjeaaFrame
import Derived.Test.YtpbjmkdpeadjeaaRows
namespace Go.Proofs.Ytpbjmkdpeadjeaa.SI
open Go.RowKit Go.Fr

/-- block b is a stack of depth d, high h, its things l (lowest first) in the row of the slice v -/
def IsStk (w : World) (b : Nat) (v : Value) (d h : Int) (l : List Int) : Prop :=
  Blk w b [.bool true, .int .i64 d, v, .int .i64 h] 73 ∧ Row w 3 1 v l.length (l.map (Value.int .i64)) ∧ v.ownBlock ≠ some b ∧ l.length ≤ 2147483647

def foot (b : Nat) (v : Value) : Nat → Prop := fun k => k = b ∨ v.ownBlock = some k

theorem info : (Try.prog.info? 3).map (fun i => (i.zero, i.size, i.bytes)) = some (some (.int .i64 0), 1, 8) := by kernel_rfl

theorem new_ok (d : Int) (w : World) (h0 : 0 ≤ d) (h1 : d ≤ 1024) : Calls Try.prog 21 #[.int .i64 d] w fun e w' =>
   e = .returned (.tuple #[.pointer (some ⟨w.heap.size, 0, none⟩), .int .i64 0]) ∧ IsStk w' w.heap.size (.slice none 0 0) d 0 [] ∧ Kept (fun _ => False) w w' ∧ w.heap.size < w'.heap.size := by
  go_enter Try.func21, Try.ntmps21
  go_wp2
  go_ret2
  refine ⟨rfl, ⟨Blk.new _ _ _, World.ownsRow_nil _ _ _ _, by simp [Value.ownBlock], by simp⟩, (Kept.refl _ _).alloc _, by simp⟩

theorem new_no (d : Int) (w : World) (h : d < 0 ∨ 1024 < d) : Calls Try.prog 21 #[.int .i64 d] w fun e w' =>
   e = .returned (.tuple #[.pointer none, .int .i64 140]) ∧ w = w' := by
  rcases h with h | h
  · go_enter Try.func21, Try.ntmps21
    go_wp2
    go_ret2
    exact ⟨rfl, rfl⟩
  · have h' : ¬ d < 0 := by omega
    go_enter Try.func21, Try.ntmps21
    go_wp2
    go_ret2
    exact ⟨rfl, rfl⟩

section
variable {w : World} {b : Nat} {v : Value} {d h : Int} {l : List Int}

theorem alive_ok (hs : IsStk w b v d h l) : Calls Try.prog 44 #[.pointer (some ⟨b, 0, none⟩)] w fun e w' =>
    e = .returned (.bool true) ∧ w = w' := by
  have c0 := hs.1.cell 0 rfl
  go_enter Try.func44, Try.ntmps44
  go_wp2
  go_ret
  exact ⟨rfl, rfl⟩

theorem len_ok (hs : IsStk w b v d h l) : Calls Try.prog 24 #[.pointer (some ⟨b, 0, none⟩)] w fun e w' =>
    e = .returned (.int .i64 l.length) ∧ w = w' := by
  obtain ⟨hb, hr, ho, hn⟩ := hs
  have c0 := hb.cell 0 rfl
  have c2 := hb.cell 2 rfl
  rcases row_forms hr with ⟨rfl, hz⟩ | ⟨g, c, rfl, _⟩
  · rw [hz]
    go_enter Try.func24, Try.ntmps24
    go_wp2
    go_ret
    exact ⟨rfl, rfl⟩
  · go_enter Try.func24, Try.ntmps24
    go_wp2
    go_ret
    exact ⟨rfl, rfl⟩

theorem depth_ok (hs : IsStk w b v d h l) : Calls Try.prog 34 #[.pointer (some ⟨b, 0, none⟩)] w fun e w' =>
    e = .returned (.int .i64 d) ∧ w = w' := by
  obtain ⟨hb, hr, ho, hn⟩ := hs
  have c0 := hb.cell 0 rfl
  have c1 := hb.cell 1 rfl
  go_enter Try.func34, Try.ntmps34
  go_wp2
  go_ret
  exact ⟨rfl, rfl⟩

theorem high_ok (hs : IsStk w b v d h l) : Calls Try.prog 26 #[.pointer (some ⟨b, 0, none⟩)] w fun e w' =>
    e = .returned (.int .i64 h) ∧ w = w' := by
  obtain ⟨hb, hr, ho, hn⟩ := hs
  have c0 := hb.cell 0 rfl
  have c3 := hb.cell 3 rfl
  go_enter Try.func26, Try.ntmps26
  go_wp2
  go_ret
  exact ⟨rfl, rfl⟩
end
end Go.Proofs.Ytpbjmkdpeadjeaa.SI
