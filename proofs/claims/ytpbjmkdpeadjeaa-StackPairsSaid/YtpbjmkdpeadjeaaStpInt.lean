/- Contracts of the methods of stack.Stack[tappet/tappetlaw14.Pair] (made by New), the stack said as a list of numbers, the lowest first. -/
import Derived.Test.YtpbjmkdpeadjeaaFrame
import Derived.Test.YtpbjmkdpeadjeaaRows
import Derived.Test.YtpbjmkdpeadjeaaTri
namespace Go.Proofs.Ytpbjmkdpeadjeaa.SP
open Go.RowKit Go.Fr

/-- a Pair -/
abbrev Pr := Int × ByteArray
def encP (x : Pr) : List Value := [.int .i64 x.1, .string x.2]
theorem encP_len (x : Pr) : (encP x).length = 2 := rfl
abbrev valP (x : Pr) : Value := .agg #[.int .i64 x.1, .string x.2]

/-- block b is a stack of depth d, high h, its things l (lowest first) in the row of the slice v -/
def IsStk (w : World) (b : Nat) (v : Value) (d h : Int) (l : List Pr) : Prop :=
  Blk w b [.bool true, .int .i64 d, v, .int .i64 h] 77 ∧ Row w 31 2 v l.length (l.flatMap encP) ∧ v.ownBlock ≠ some b ∧ l.length ≤ 2147483647

def foot (b : Nat) (v : Value) : Nat → Prop := fun k => k = b ∨ v.ownBlock = some k

theorem info : (Try.prog.info? 31).map (fun i => (i.zero, i.size, i.bytes)) = some (some (.agg #[.int .i64 0, .string ⟨#[]⟩]), 2, 24) := by kernel_rfl

theorem new_ok (d : Int) (w : World) (h0 : 0 ≤ d) (h1 : d ≤ 1024) : Calls Try.prog 11 #[.int .i64 d] w fun e w' =>
   e = .returned (.tuple #[.pointer (some ⟨w.heap.size, 0, none⟩), .int .i64 0]) ∧ IsStk w' w.heap.size (.slice none 0 0) d 0 [] ∧ Kept (fun _ => False) w w' ∧ w.heap.size < w'.heap.size := by
  go_enter Try.func11, Try.ntmps11
  go_wp2
  go_ret2
  refine ⟨rfl, ⟨Blk.new _ _ _, World.ownsRow_nil _ _ _ _, by simp [Value.ownBlock], by simp⟩, (Kept.refl _ _).alloc _, by simp⟩

theorem new_no (d : Int) (w : World) (h : d < 0 ∨ 1024 < d) : Calls Try.prog 11 #[.int .i64 d] w fun e w' =>
   e = .returned (.tuple #[.pointer none, .int .i64 140]) ∧ w = w' := by
  rcases h with h | h
  · go_enter Try.func11, Try.ntmps11
    go_wp2
    go_ret2
    exact ⟨rfl, rfl⟩
  · have h' : ¬ d < 0 := by omega
    go_enter Try.func11, Try.ntmps11
    go_wp2
    go_ret2
    exact ⟨rfl, rfl⟩

section
variable {w : World} {b : Nat} {v : Value} {d h : Int} {l : List Pr}

theorem alive_ok (hs : IsStk w b v d h l) : Calls Try.prog 42 #[.pointer (some ⟨b, 0, none⟩)] w fun e w' =>
    e = .returned (.bool true) ∧ w = w' := by
  have c0 := hs.1.cell 0 rfl
  go_enter Try.func42, Try.ntmps42
  go_wp2
  go_ret
  exact ⟨rfl, rfl⟩
end
end Go.Proofs.Ytpbjmkdpeadjeaa.SP
