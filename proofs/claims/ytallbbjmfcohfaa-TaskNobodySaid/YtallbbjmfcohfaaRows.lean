/-
  No cell of these rows narrows 'for every input' (looked for: loops, veiled, ifaces, maps, wideKeys, modest, calm, conditions, laid).
  DERIVED. THE GIVEN ROWS OF THIS SEAT. 6 by the template 'for every input the law returns true; each argument reads behind the call as it read before'; 0 by the template 'total and deterministic' (their statements: YtallbbjmfcohfaaTotals.lean).
  GIVEN WITH THE SEED: the statements are not yours to turn. If you find one false, say at which input.
  Laid BY PROGRAM, IN A SANDBOX (cutbox-rows.mjs): the forced cells as the released guide's own fill.sh prints them over the translation 565b9c31ac0a41b6… (all of the seat's roots in one cut). By AI agents, Wed Nov 11 2026. No macro, syntax, notation, axiom, sorry.
-/
import Derived.Test.YtallbbjmfcohfaaChecked
import GoSem.Claim
import GoSem.ClaimJoined
import GoSem.ClaimMapViews
import Derived.JoinedTies
import Derived.KernelRfl
namespace Go.Proofs.Ytallbbjmfcohfaa
/- THE CELL 'sum', in the pinned program and in every row, IS THE sha256 OF THE DUMP (.gsa) THAT YtallbbjmfcohfaaProg.lean LOADS. Nothing in Lean hashes anything: it is a label: what it is worth is what the hold of that sum in a sandbox is worth. -/
noncomputable def Try.pinned : Pinned := { name := "ytallbbjmfcohfaa", sum := "565b9c31ac0a41b6fcbfc50b57ba1d3105a693a7401ccab747a327264af1411d", checked := Try.checked }
namespace Rows
def none {H : Type} : Left H := { results := [], args := [] }

/-- 'tappetlaw18.TaskNames': WHATEVER THE INPUT: true; the input reads as it did. -/
def taskNamesSpec : ChangeSpec := { name := "taskNames", fn := fun _ => fun
  | [] => { results := [.lit (.bool true)], args := [] }
  | _ => none }
def taskNamesRow : OpenClaim := { program := "ytallbbjmfcohfaa", sum := "565b9c31ac0a41b6fcbfc50b57ba1d3105a693a7401ccab747a327264af1411d", func := "tappet/tappetlaw18.TaskNames", spec := "taskNames", apart := false }
def TaskNamesSaid : Prop := taskNamesRow.holds Try.pinned (OpenSpec.ofChange taskNamesSpec)

/-- ITS FALSE NEIGHBOUR: 'it returns false'. Refute it at one input. -/
def taskNamesWrong : ChangeSpec := { name := "taskNames", fn := fun _ => fun
  | [] => { results := [.lit (.bool false)], args := [] }
  | _ => none }
def TaskNamesWrongFalsely : Prop := taskNamesRow.holds Try.pinned (OpenSpec.ofChange taskNamesWrong)

/-- 'tappetlaw18.TaskRound': WHATEVER THE INPUT: true; the input reads as it did. -/
def taskRoundSpec : ChangeSpec := { name := "taskRound", fn := fun _ => fun
  | [d1, d2] => { results := [.lit (.bool true)], args := [d1, d2] }
  | _ => none }
def taskRoundRow : OpenClaim := { program := "ytallbbjmfcohfaa", sum := "565b9c31ac0a41b6fcbfc50b57ba1d3105a693a7401ccab747a327264af1411d", func := "tappet/tappetlaw18.TaskRound", spec := "taskRound", apart := false }
def TaskRoundSaid : Prop := taskRoundRow.holds Try.pinned (OpenSpec.ofChange taskRoundSpec)

/-- ITS FALSE NEIGHBOUR: 'it returns false'. Refute it at one input. -/
def taskRoundWrong : ChangeSpec := { name := "taskRound", fn := fun _ => fun
  | [d1, d2] => { results := [.lit (.bool false)], args := [d1, d2] }
  | _ => none }
def TaskRoundWrongFalsely : Prop := taskRoundRow.holds Try.pinned (OpenSpec.ofChange taskRoundWrong)

/-- 'tappetlaw18.TaskCounts': WHATEVER THE INPUT: true; the input reads as it did. -/
def taskCountsSpec : ChangeSpec := { name := "taskCounts", fn := fun _ => fun
  | [d1, d2] => { results := [.lit (.bool true)], args := [d1, d2] }
  | _ => none }
def taskCountsRow : OpenClaim := { program := "ytallbbjmfcohfaa", sum := "565b9c31ac0a41b6fcbfc50b57ba1d3105a693a7401ccab747a327264af1411d", func := "tappet/tappetlaw18.TaskCounts", spec := "taskCounts", apart := false }
def TaskCountsSaid : Prop := taskCountsRow.holds Try.pinned (OpenSpec.ofChange taskCountsSpec)

/-- ITS FALSE NEIGHBOUR: 'it returns false'. Refute it at one input. -/
def taskCountsWrong : ChangeSpec := { name := "taskCounts", fn := fun _ => fun
  | [d1, d2] => { results := [.lit (.bool false)], args := [d1, d2] }
  | _ => none }
def TaskCountsWrongFalsely : Prop := taskCountsRow.holds Try.pinned (OpenSpec.ofChange taskCountsWrong)

/-- 'tappetlaw18.TaskPlays': WHATEVER THE INPUT: true; the input reads as it did. -/
def taskPlaysSpec : ChangeSpec := { name := "taskPlays", fn := fun _ => fun
  | [d1, d2] => { results := [.lit (.bool true)], args := [d1, d2] }
  | _ => none }
def taskPlaysRow : OpenClaim := { program := "ytallbbjmfcohfaa", sum := "565b9c31ac0a41b6fcbfc50b57ba1d3105a693a7401ccab747a327264af1411d", func := "tappet/tappetlaw18.TaskPlays", spec := "taskPlays", apart := false }
def TaskPlaysSaid : Prop := taskPlaysRow.holds Try.pinned (OpenSpec.ofChange taskPlaysSpec)

/-- ITS FALSE NEIGHBOUR: 'it returns false'. Refute it at one input. -/
def taskPlaysWrong : ChangeSpec := { name := "taskPlays", fn := fun _ => fun
  | [d1, d2] => { results := [.lit (.bool false)], args := [d1, d2] }
  | _ => none }
def TaskPlaysWrongFalsely : Prop := taskPlaysRow.holds Try.pinned (OpenSpec.ofChange taskPlaysWrong)

/-- 'tappetlaw18.TaskApart': WHATEVER THE INPUT: true; the input reads as it did. -/
def taskApartSpec : ChangeSpec := { name := "taskApart", fn := fun _ => fun
  | [d1, d2, d3] => { results := [.lit (.bool true)], args := [d1, d2, d3] }
  | _ => none }
def taskApartRow : OpenClaim := { program := "ytallbbjmfcohfaa", sum := "565b9c31ac0a41b6fcbfc50b57ba1d3105a693a7401ccab747a327264af1411d", func := "tappet/tappetlaw18.TaskApart", spec := "taskApart", apart := false }
def TaskApartSaid : Prop := taskApartRow.holds Try.pinned (OpenSpec.ofChange taskApartSpec)

/-- ITS FALSE NEIGHBOUR: 'it returns false'. Refute it at one input. -/
def taskApartWrong : ChangeSpec := { name := "taskApart", fn := fun _ => fun
  | [d1, d2, d3] => { results := [.lit (.bool false)], args := [d1, d2, d3] }
  | _ => none }
def TaskApartWrongFalsely : Prop := taskApartRow.holds Try.pinned (OpenSpec.ofChange taskApartWrong)

/-- 'tappetlaw18.TaskNobody': WHATEVER THE INPUT: true; the input reads as it did. -/
def taskNobodySpec : ChangeSpec := { name := "taskNobody", fn := fun _ => fun
  | [d1, d2] => { results := [.lit (.bool true)], args := [d1, d2] }
  | _ => none }
def taskNobodyRow : OpenClaim := { program := "ytallbbjmfcohfaa", sum := "565b9c31ac0a41b6fcbfc50b57ba1d3105a693a7401ccab747a327264af1411d", func := "tappet/tappetlaw18.TaskNobody", spec := "taskNobody", apart := false }
def TaskNobodySaid : Prop := taskNobodyRow.holds Try.pinned (OpenSpec.ofChange taskNobodySpec)

/-- ITS FALSE NEIGHBOUR: 'it returns false'. Refute it at one input. -/
def taskNobodyWrong : ChangeSpec := { name := "taskNobody", fn := fun _ => fun
  | [d1, d2] => { results := [.lit (.bool false)], args := [d1, d2] }
  | _ => none }
def TaskNobodyWrongFalsely : Prop := taskNobodyRow.holds Try.pinned (OpenSpec.ofChange taskNobodyWrong)

/- THE SECOND FORM. 'bulk': how many values and letters a reading holds, each counted each time it is reached (what is shared counts as often as it is met; a slice's spare places count too). A statement '..UptoSaid' is the law's where the arguments, and the package variables that the reading takes, are together of bulk at most 1048576: NARROWER than '..Said'. Prove '..Said' where nothing that the law and all that it calls make is longer than what came in: it says more and counts as full. Else prove '..UptoSaid'. A law counts once. -/
mutual
def uptoBulk {H : Type} : DataW H → Nat
  | .lit (.string bytes) => bytes.length + 1
  | .lit _ => 1
  | .nil => 1
  | .ptr d => uptoBulk d + 1
  | .slice elems spare => uptoBulkAll elems + uptoBulkAll spare + 1
  | .agg parts => uptoBulkAll parts + 1
  | .iface _ d => uptoBulk d + 1
  | .map entries => uptoBulkEntries entries + 1
  | .held _ => 1
def uptoBulkAll {H : Type} : List (DataW H) → Nat
  | [] => 0
  | d :: r => uptoBulk d + uptoBulkAll r
def uptoBulkEntries {H : Type} : List (Lit × DataW H) → Nat
  | [] => 0
  | x :: r => uptoBulkEntry x + uptoBulkEntries r
def uptoBulkEntry {H : Type} : Lit × DataW H → Nat
  | (.string bytes, d) => bytes.length + uptoBulk d + 1
  | (_, d) => uptoBulk d + 1
 end
def uptoSmall : (H : Type) → List (DataW H) → Bool := fun _ ds => decide (uptoBulkAll ds ≤ 1048576)
def OpenSpec.upto (s : _root_.Go.ChangeSpec) : _root_.Go.OpenSpec := { _root_.Go.OpenSpec.ofChange s with cond := some uptoSmall }

/-- 'tappetlaw18.TaskNames', WHERE WHAT IT READS IS OF BULK AT MOST 1048576: true; the input reads as it did. -/
def taskNamesUptoRow : OpenClaim := { program := "ytallbbjmfcohfaa", sum := "565b9c31ac0a41b6fcbfc50b57ba1d3105a693a7401ccab747a327264af1411d", func := "tappet/tappetlaw18.TaskNames", spec := "taskNames", apart := false, narrowed := true }
def TaskNamesUptoSaid : Prop := taskNamesUptoRow.holds Try.pinned (OpenSpec.upto taskNamesSpec)

/-- 'tappetlaw18.TaskRound', WHERE WHAT IT READS IS OF BULK AT MOST 1048576: true; the input reads as it did. -/
def taskRoundUptoRow : OpenClaim := { program := "ytallbbjmfcohfaa", sum := "565b9c31ac0a41b6fcbfc50b57ba1d3105a693a7401ccab747a327264af1411d", func := "tappet/tappetlaw18.TaskRound", spec := "taskRound", apart := false, narrowed := true }
def TaskRoundUptoSaid : Prop := taskRoundUptoRow.holds Try.pinned (OpenSpec.upto taskRoundSpec)

/-- 'tappetlaw18.TaskCounts', WHERE WHAT IT READS IS OF BULK AT MOST 1048576: true; the input reads as it did. -/
def taskCountsUptoRow : OpenClaim := { program := "ytallbbjmfcohfaa", sum := "565b9c31ac0a41b6fcbfc50b57ba1d3105a693a7401ccab747a327264af1411d", func := "tappet/tappetlaw18.TaskCounts", spec := "taskCounts", apart := false, narrowed := true }
def TaskCountsUptoSaid : Prop := taskCountsUptoRow.holds Try.pinned (OpenSpec.upto taskCountsSpec)

/-- 'tappetlaw18.TaskPlays', WHERE WHAT IT READS IS OF BULK AT MOST 1048576: true; the input reads as it did. -/
def taskPlaysUptoRow : OpenClaim := { program := "ytallbbjmfcohfaa", sum := "565b9c31ac0a41b6fcbfc50b57ba1d3105a693a7401ccab747a327264af1411d", func := "tappet/tappetlaw18.TaskPlays", spec := "taskPlays", apart := false, narrowed := true }
def TaskPlaysUptoSaid : Prop := taskPlaysUptoRow.holds Try.pinned (OpenSpec.upto taskPlaysSpec)

/-- 'tappetlaw18.TaskApart', WHERE WHAT IT READS IS OF BULK AT MOST 1048576: true; the input reads as it did. -/
def taskApartUptoRow : OpenClaim := { program := "ytallbbjmfcohfaa", sum := "565b9c31ac0a41b6fcbfc50b57ba1d3105a693a7401ccab747a327264af1411d", func := "tappet/tappetlaw18.TaskApart", spec := "taskApart", apart := false, narrowed := true }
def TaskApartUptoSaid : Prop := taskApartUptoRow.holds Try.pinned (OpenSpec.upto taskApartSpec)

/-- 'tappetlaw18.TaskNobody', WHERE WHAT IT READS IS OF BULK AT MOST 1048576: true; the input reads as it did. -/
def taskNobodyUptoRow : OpenClaim := { program := "ytallbbjmfcohfaa", sum := "565b9c31ac0a41b6fcbfc50b57ba1d3105a693a7401ccab747a327264af1411d", func := "tappet/tappetlaw18.TaskNobody", spec := "taskNobody", apart := false, narrowed := true }
def TaskNobodyUptoSaid : Prop := taskNobodyUptoRow.holds Try.pinned (OpenSpec.upto taskNobodySpec)

end Rows
end Go.Proofs.Ytallbbjmfcohfaa
