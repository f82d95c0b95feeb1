/-
  No cell of these rows narrows 'for every input' (looked for: loops, veiled, ifaces, maps, wideKeys, modest, calm, conditions, laid).
  DERIVED. THE GIVEN ROWS OF THIS SEAT. 7 by the template 'for every input the law returns true; each argument reads behind the call as it read before'; 0 by the template 'total and deterministic' (their statements: YtpbjmkdpeadjeaaTotals.lean).
  GIVEN WITH THE SEED: the statements are not yours to turn. If you find one false, say at which input.
  Laid BY PROGRAM, IN A SANDBOX (cutbox-rows.mjs): the forced cells as the released guide's own fill.sh prints them over the translation 0d150ea18676d2dd… (all of the seat's roots in one cut). By AI agents, Wed Nov 11 2026. No macro, syntax, notation, axiom, sorry.
-/
import Derived.Test.YtpbjmkdpeadjeaaChecked
import GoSem.Claim
import GoSem.ClaimJoined
import GoSem.ClaimMapViews
import Derived.JoinedTies
import Derived.KernelRfl
namespace Go.Proofs.Ytpbjmkdpeadjeaa
/- THE CELL 'sum', in the pinned program and in every row, IS THE sha256 OF THE DUMP (.gsa) THAT YtpbjmkdpeadjeaaProg.lean LOADS. Nothing in Lean hashes anything: it is a label: what it is worth is what the hold of that sum in a sandbox is worth. -/
noncomputable def Try.pinned : Pinned := { name := "ytpbjmkdpeadjeaa", sum := "0d150ea18676d2dda9e7810a72f58eafdfb75bb96e1e8e0c08a0fe834fadfec5", checked := Try.checked }
namespace Rows
def none {H : Type} : Left H := { results := [], args := [] }

/-- 'tappetlaw14.StackNames': WHATEVER THE INPUT: true; the input reads as it did. -/
def stackNamesSpec : ChangeSpec := { name := "stackNames", fn := fun _ => fun
  | [] => { results := [.lit (.bool true)], args := [] }
  | _ => none }
def stackNamesRow : OpenClaim := { program := "ytpbjmkdpeadjeaa", sum := "0d150ea18676d2dda9e7810a72f58eafdfb75bb96e1e8e0c08a0fe834fadfec5", func := "tappet/tappetlaw14.StackNames", spec := "stackNames", apart := false }
def StackNamesSaid : Prop := stackNamesRow.holds Try.pinned (OpenSpec.ofChange stackNamesSpec)

/-- ITS FALSE NEIGHBOUR: 'it returns false'. Refute it at one input. -/
def stackNamesWrong : ChangeSpec := { name := "stackNames", fn := fun _ => fun
  | [] => { results := [.lit (.bool false)], args := [] }
  | _ => none }
def StackNamesWrongFalsely : Prop := stackNamesRow.holds Try.pinned (OpenSpec.ofChange stackNamesWrong)

/-- 'tappetlaw14.StackPairs': WHATEVER THE INPUT: true; the input reads as it did. -/
def stackPairsSpec : ChangeSpec := { name := "stackPairs", fn := fun _ => fun
  | [d1, d2, d3] => { results := [.lit (.bool true)], args := [d1, d2, d3] }
  | _ => none }
def stackPairsRow : OpenClaim := { program := "ytpbjmkdpeadjeaa", sum := "0d150ea18676d2dda9e7810a72f58eafdfb75bb96e1e8e0c08a0fe834fadfec5", func := "tappet/tappetlaw14.StackPairs", spec := "stackPairs", unfollowed := true, recurses := true, apart := false }
def StackPairsSaid : Prop := stackPairsRow.holds Try.pinned (OpenSpec.ofChange stackPairsSpec)

/-- ITS FALSE NEIGHBOUR: 'it returns false'. Refute it at one input. -/
def stackPairsWrong : ChangeSpec := { name := "stackPairs", fn := fun _ => fun
  | [d1, d2, d3] => { results := [.lit (.bool false)], args := [d1, d2, d3] }
  | _ => none }
def StackPairsWrongFalsely : Prop := stackPairsRow.holds Try.pinned (OpenSpec.ofChange stackPairsWrong)

/-- 'tappetlaw14.StackTurned': WHATEVER THE INPUT: true; the input reads as it did. -/
def stackTurnedSpec : ChangeSpec := { name := "stackTurned", fn := fun _ => fun
  | [d1, d2, d3] => { results := [.lit (.bool true)], args := [d1, d2, d3] }
  | _ => none }
def stackTurnedRow : OpenClaim := { program := "ytpbjmkdpeadjeaa", sum := "0d150ea18676d2dda9e7810a72f58eafdfb75bb96e1e8e0c08a0fe834fadfec5", func := "tappet/tappetlaw14.StackTurned", spec := "stackTurned", unfollowed := true, recurses := true, apart := false }
def StackTurnedSaid : Prop := stackTurnedRow.holds Try.pinned (OpenSpec.ofChange stackTurnedSpec)

/-- ITS FALSE NEIGHBOUR: 'it returns false'. Refute it at one input. -/
def stackTurnedWrong : ChangeSpec := { name := "stackTurned", fn := fun _ => fun
  | [d1, d2, d3] => { results := [.lit (.bool false)], args := [d1, d2, d3] }
  | _ => none }
def StackTurnedWrongFalsely : Prop := stackTurnedRow.holds Try.pinned (OpenSpec.ofChange stackTurnedWrong)

/-- 'tappetlaw14.StackSeen': WHATEVER THE INPUT: true; the input reads as it did. -/
def stackSeenSpec : ChangeSpec := { name := "stackSeen", fn := fun _ => fun
  | [d1, d2, d3, d4] => { results := [.lit (.bool true)], args := [d1, d2, d3, d4] }
  | _ => none }
def stackSeenRow : OpenClaim := { program := "ytpbjmkdpeadjeaa", sum := "0d150ea18676d2dda9e7810a72f58eafdfb75bb96e1e8e0c08a0fe834fadfec5", func := "tappet/tappetlaw14.StackSeen", spec := "stackSeen", unfollowed := true, recurses := true, apart := false }
def StackSeenSaid : Prop := stackSeenRow.holds Try.pinned (OpenSpec.ofChange stackSeenSpec)

/-- ITS FALSE NEIGHBOUR: 'it returns false'. Refute it at one input. -/
def stackSeenWrong : ChangeSpec := { name := "stackSeen", fn := fun _ => fun
  | [d1, d2, d3, d4] => { results := [.lit (.bool false)], args := [d1, d2, d3, d4] }
  | _ => none }
def StackSeenWrongFalsely : Prop := stackSeenRow.holds Try.pinned (OpenSpec.ofChange stackSeenWrong)

/-- 'tappetlaw14.StackPlays': WHATEVER THE INPUT: true; the input reads as it did. -/
def stackPlaysSpec : ChangeSpec := { name := "stackPlays", fn := fun _ => fun
  | [d1, d2] => { results := [.lit (.bool true)], args := [d1, d2] }
  | _ => none }
def stackPlaysRow : OpenClaim := { program := "ytpbjmkdpeadjeaa", sum := "0d150ea18676d2dda9e7810a72f58eafdfb75bb96e1e8e0c08a0fe834fadfec5", func := "tappet/tappetlaw14.StackPlays", spec := "stackPlays", unfollowed := true, recurses := true, apart := false }
def StackPlaysSaid : Prop := stackPlaysRow.holds Try.pinned (OpenSpec.ofChange stackPlaysSpec)

/-- ITS FALSE NEIGHBOUR: 'it returns false'. Refute it at one input. -/
def stackPlaysWrong : ChangeSpec := { name := "stackPlays", fn := fun _ => fun
  | [d1, d2] => { results := [.lit (.bool false)], args := [d1, d2] }
  | _ => none }
def StackPlaysWrongFalsely : Prop := stackPlaysRow.holds Try.pinned (OpenSpec.ofChange stackPlaysWrong)

/-- 'tappetlaw14.StackApart': WHATEVER THE INPUT: true; the input reads as it did. -/
def stackApartSpec : ChangeSpec := { name := "stackApart", fn := fun _ => fun
  | [d1, d2, d3] => { results := [.lit (.bool true)], args := [d1, d2, d3] }
  | _ => none }
def stackApartRow : OpenClaim := { program := "ytpbjmkdpeadjeaa", sum := "0d150ea18676d2dda9e7810a72f58eafdfb75bb96e1e8e0c08a0fe834fadfec5", func := "tappet/tappetlaw14.StackApart", spec := "stackApart", unfollowed := true, recurses := true, apart := false }
def StackApartSaid : Prop := stackApartRow.holds Try.pinned (OpenSpec.ofChange stackApartSpec)

/-- ITS FALSE NEIGHBOUR: 'it returns false'. Refute it at one input. -/
def stackApartWrong : ChangeSpec := { name := "stackApart", fn := fun _ => fun
  | [d1, d2, d3] => { results := [.lit (.bool false)], args := [d1, d2, d3] }
  | _ => none }
def StackApartWrongFalsely : Prop := stackApartRow.holds Try.pinned (OpenSpec.ofChange stackApartWrong)

/-- 'tappetlaw14.StackNobody': WHATEVER THE INPUT: true; the input reads as it did. -/
def stackNobodySpec : ChangeSpec := { name := "stackNobody", fn := fun _ => fun
  | [d1, d2] => { results := [.lit (.bool true)], args := [d1, d2] }
  | _ => none }
def stackNobodyRow : OpenClaim := { program := "ytpbjmkdpeadjeaa", sum := "0d150ea18676d2dda9e7810a72f58eafdfb75bb96e1e8e0c08a0fe834fadfec5", func := "tappet/tappetlaw14.StackNobody", spec := "stackNobody", unfollowed := true, recurses := true, apart := false }
def StackNobodySaid : Prop := stackNobodyRow.holds Try.pinned (OpenSpec.ofChange stackNobodySpec)

/-- ITS FALSE NEIGHBOUR: 'it returns false'. Refute it at one input. -/
def stackNobodyWrong : ChangeSpec := { name := "stackNobody", fn := fun _ => fun
  | [d1, d2] => { results := [.lit (.bool false)], args := [d1, d2] }
  | _ => none }
def StackNobodyWrongFalsely : Prop := stackNobodyRow.holds Try.pinned (OpenSpec.ofChange stackNobodyWrong)

/- THE SECOND FORM. 'bulk': how many values and letters a reading holds, each counted each time it is reached (what is shared counts as often as it is met; a slice's spare places count too). A statement '..UptoSaid' is the law's where the arguments, and the package variables that the reading takes, are together of bulk at most 1048576: NARROWER than '..Said'. Prove '..Said' where nothing that the law and all that it calls make is longer than what came in: it says more and counts as full. Else prove '..UptoSaid'. A law counts once. -/
mutual
def uptoBulk {H : Type} : DataW H → Nat
  | .lit (.string bytes) => bytes.length + 1
  | .lit _ => 1
  | .nil => 1
  | .ptr d => uptoBulk d + 1
  | .slice elems spare => uptoBulkAll elems + uptoBulkAll spare + 1
  | .agg parts => uptoBulkAll parts + 1
  | .iface _ d => uptoBulk d + 1
  | .map entries => uptoBulkEntries entries + 1
  | .held _ => 1
def uptoBulkAll {H : Type} : List (DataW H) → Nat
  | [] => 0
  | d :: r => uptoBulk d + uptoBulkAll r
def uptoBulkEntries {H : Type} : List (Lit × DataW H) → Nat
  | [] => 0
  | x :: r => uptoBulkEntry x + uptoBulkEntries r
def uptoBulkEntry {H : Type} : Lit × DataW H → Nat
  | (.string bytes, d) => bytes.length + uptoBulk d + 1
  | (_, d) => uptoBulk d + 1
 end
def uptoSmall : (H : Type) → List (DataW H) → Bool := fun _ ds => decide (uptoBulkAll ds ≤ 1048576)
def OpenSpec.upto (s : _root_.Go.ChangeSpec) : _root_.Go.OpenSpec := { _root_.Go.OpenSpec.ofChange s with cond := some uptoSmall }

/-- 'tappetlaw14.StackNames', WHERE WHAT IT READS IS OF BULK AT MOST 1048576: true; the input reads as it did. -/
def stackNamesUptoRow : OpenClaim := { program := "ytpbjmkdpeadjeaa", sum := "0d150ea18676d2dda9e7810a72f58eafdfb75bb96e1e8e0c08a0fe834fadfec5", func := "tappet/tappetlaw14.StackNames", spec := "stackNames", apart := false, narrowed := true }
def StackNamesUptoSaid : Prop := stackNamesUptoRow.holds Try.pinned (OpenSpec.upto stackNamesSpec)

/-- 'tappetlaw14.StackPairs', WHERE WHAT IT READS IS OF BULK AT MOST 1048576: true; the input reads as it did. -/
def stackPairsUptoRow : OpenClaim := { program := "ytpbjmkdpeadjeaa", sum := "0d150ea18676d2dda9e7810a72f58eafdfb75bb96e1e8e0c08a0fe834fadfec5", func := "tappet/tappetlaw14.StackPairs", spec := "stackPairs", unfollowed := true, recurses := true, apart := false, narrowed := true }
def StackPairsUptoSaid : Prop := stackPairsUptoRow.holds Try.pinned (OpenSpec.upto stackPairsSpec)

/-- 'tappetlaw14.StackTurned', WHERE WHAT IT READS IS OF BULK AT MOST 1048576: true; the input reads as it did. -/
def stackTurnedUptoRow : OpenClaim := { program := "ytpbjmkdpeadjeaa", sum := "0d150ea18676d2dda9e7810a72f58eafdfb75bb96e1e8e0c08a0fe834fadfec5", func := "tappet/tappetlaw14.StackTurned", spec := "stackTurned", unfollowed := true, recurses := true, apart := false, narrowed := true }
def StackTurnedUptoSaid : Prop := stackTurnedUptoRow.holds Try.pinned (OpenSpec.upto stackTurnedSpec)

/-- 'tappetlaw14.StackSeen', WHERE WHAT IT READS IS OF BULK AT MOST 1048576: true; the input reads as it did. -/
def stackSeenUptoRow : OpenClaim := { program := "ytpbjmkdpeadjeaa", sum := "0d150ea18676d2dda9e7810a72f58eafdfb75bb96e1e8e0c08a0fe834fadfec5", func := "tappet/tappetlaw14.StackSeen", spec := "stackSeen", unfollowed := true, recurses := true, apart := false, narrowed := true }
def StackSeenUptoSaid : Prop := stackSeenUptoRow.holds Try.pinned (OpenSpec.upto stackSeenSpec)

/-- 'tappetlaw14.StackPlays', WHERE WHAT IT READS IS OF BULK AT MOST 1048576: true; the input reads as it did. -/
def stackPlaysUptoRow : OpenClaim := { program := "ytpbjmkdpeadjeaa", sum := "0d150ea18676d2dda9e7810a72f58eafdfb75bb96e1e8e0c08a0fe834fadfec5", func := "tappet/tappetlaw14.StackPlays", spec := "stackPlays", unfollowed := true, recurses := true, apart := false, narrowed := true }
def StackPlaysUptoSaid : Prop := stackPlaysUptoRow.holds Try.pinned (OpenSpec.upto stackPlaysSpec)

/-- 'tappetlaw14.StackApart', WHERE WHAT IT READS IS OF BULK AT MOST 1048576: true; the input reads as it did. -/
def stackApartUptoRow : OpenClaim := { program := "ytpbjmkdpeadjeaa", sum := "0d150ea18676d2dda9e7810a72f58eafdfb75bb96e1e8e0c08a0fe834fadfec5", func := "tappet/tappetlaw14.StackApart", spec := "stackApart", unfollowed := true, recurses := true, apart := false, narrowed := true }
def StackApartUptoSaid : Prop := stackApartUptoRow.holds Try.pinned (OpenSpec.upto stackApartSpec)

/-- 'tappetlaw14.StackNobody', WHERE WHAT IT READS IS OF BULK AT MOST 1048576: true; the input reads as it did. -/
def stackNobodyUptoRow : OpenClaim := { program := "ytpbjmkdpeadjeaa", sum := "0d150ea18676d2dda9e7810a72f58eafdfb75bb96e1e8e0c08a0fe834fadfec5", func := "tappet/tappetlaw14.StackNobody", spec := "stackNobody", unfollowed := true, recurses := true, apart := false, narrowed := true }
def StackNobodyUptoSaid : Prop := stackNobodyUptoRow.holds Try.pinned (OpenSpec.upto stackNobodySpec)

end Rows
end Go.Proofs.Ytpbjmkdpeadjeaa
