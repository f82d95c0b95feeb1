/-
  No cell of these rows narrows 'for every input' (looked for: loops, veiled, ifaces, maps, wideKeys, modest, calm, conditions, laid).
  DERIVED. THE GIVEN ROWS OF THIS SEAT. 3 by the template 'for every input the law returns true; each argument reads behind the call as it read before'; 0 by the template 'total and deterministic' (their statements: YtmljnhhjjaibbaaTotals.lean).
  GIVEN WITH THE SEED: the statements are not yours to turn. If you find one false, say at which input.
  Laid BY PROGRAM, IN A SANDBOX (cutbox-rows.mjs): the forced cells as the released guide's own fill.sh prints them over the translation 8c0faef0ad56846f… (all of the seat's roots in one cut). By AI agents, Wed Nov 11 2026. No macro, syntax, notation, axiom, sorry.
-/
import Derived.Test.YtmljnhhjjaibbaaChecked
import GoSem.Claim
import GoSem.ClaimJoined
import GoSem.ClaimMapViews
import Derived.JoinedTies
import Derived.KernelRfl
namespace Go.Proofs.Ytmljnhhjjaibbaa
/- THE CELL 'sum', in the pinned program and in every row, IS THE sha256 OF THE DUMP (.gsa) THAT YtmljnhhjjaibbaaProg.lean LOADS. Nothing in Lean hashes anything: it is a label: what it is worth is what the hold of that sum in a sandbox is worth. -/
noncomputable def Try.pinned : Pinned := { name := "ytmljnhhjjaibbaa", sum := "8c0faef0ad56846fd898c4df091f6cacecebf0799e33b4126dec4bdd860a8198", checked := Try.checked }
namespace Rows
def none {H : Type} : Left H := { results := [], args := [] }

/-- 'tappetlaw15.EventHistory': WHATEVER THE INPUT: true; the input reads as it did. -/
def eventHistorySpec : ChangeSpec := { name := "eventHistory", fn := fun _ => fun
  | [d1, d2] => { results := [.lit (.bool true)], args := [d1, d2] }
  | _ => none }
def eventHistoryRow : OpenClaim := { program := "ytmljnhhjjaibbaa", sum := "8c0faef0ad56846fd898c4df091f6cacecebf0799e33b4126dec4bdd860a8198", func := "tappet/tappetlaw15.EventHistory", spec := "eventHistory", apart := false }
def EventHistorySaid : Prop := eventHistoryRow.holds Try.pinned (OpenSpec.ofChange eventHistorySpec)

/-- ITS FALSE NEIGHBOUR: 'it returns false'. Refute it at one input. -/
def eventHistoryWrong : ChangeSpec := { name := "eventHistory", fn := fun _ => fun
  | [d1, d2] => { results := [.lit (.bool false)], args := [d1, d2] }
  | _ => none }
def EventHistoryWrongFalsely : Prop := eventHistoryRow.holds Try.pinned (OpenSpec.ofChange eventHistoryWrong)

/-- 'tappetlaw15.EventPlays': WHATEVER THE INPUT: true; the input reads as it did. -/
def eventPlaysSpec : ChangeSpec := { name := "eventPlays", fn := fun _ => fun
  | [d1, d2] => { results := [.lit (.bool true)], args := [d1, d2] }
  | _ => none }
def eventPlaysRow : OpenClaim := { program := "ytmljnhhjjaibbaa", sum := "8c0faef0ad56846fd898c4df091f6cacecebf0799e33b4126dec4bdd860a8198", func := "tappet/tappetlaw15.EventPlays", spec := "eventPlays", apart := false }
def EventPlaysSaid : Prop := eventPlaysRow.holds Try.pinned (OpenSpec.ofChange eventPlaysSpec)

/-- ITS FALSE NEIGHBOUR: 'it returns false'. Refute it at one input. -/
def eventPlaysWrong : ChangeSpec := { name := "eventPlays", fn := fun _ => fun
  | [d1, d2] => { results := [.lit (.bool false)], args := [d1, d2] }
  | _ => none }
def EventPlaysWrongFalsely : Prop := eventPlaysRow.holds Try.pinned (OpenSpec.ofChange eventPlaysWrong)

/-- 'tappetlaw15.EventNobody': WHATEVER THE INPUT: true; the input reads as it did. -/
def eventNobodySpec : ChangeSpec := { name := "eventNobody", fn := fun _ => fun
  | [d1, d2] => { results := [.lit (.bool true)], args := [d1, d2] }
  | _ => none }
def eventNobodyRow : OpenClaim := { program := "ytmljnhhjjaibbaa", sum := "8c0faef0ad56846fd898c4df091f6cacecebf0799e33b4126dec4bdd860a8198", func := "tappet/tappetlaw15.EventNobody", spec := "eventNobody", apart := false }
def EventNobodySaid : Prop := eventNobodyRow.holds Try.pinned (OpenSpec.ofChange eventNobodySpec)

/-- ITS FALSE NEIGHBOUR: 'it returns false'. Refute it at one input. -/
def eventNobodyWrong : ChangeSpec := { name := "eventNobody", fn := fun _ => fun
  | [d1, d2] => { results := [.lit (.bool false)], args := [d1, d2] }
  | _ => none }
def EventNobodyWrongFalsely : Prop := eventNobodyRow.holds Try.pinned (OpenSpec.ofChange eventNobodyWrong)

/- THE SECOND FORM. 'bulk': how many values and letters a reading holds, each counted each time it is reached (what is shared counts as often as it is met; a slice's spare places count too). A statement '..UptoSaid' is the law's where the arguments, and the package variables that the reading takes, are together of bulk at most 1048576: NARROWER than '..Said'. Prove '..Said' where nothing that the law and all that it calls make is longer than what came in: it says more and counts as full. Else prove '..UptoSaid'. A law counts once. -/
mutual
def uptoBulk {H : Type} : DataW H → Nat
  | .lit (.string bytes) => bytes.length + 1
  | .lit _ => 1
  | .nil => 1
  | .ptr d => uptoBulk d + 1
  | .slice elems spare => uptoBulkAll elems + uptoBulkAll spare + 1
  | .agg parts => uptoBulkAll parts + 1
  | .iface _ d => uptoBulk d + 1
  | .map entries => uptoBulkEntries entries + 1
  | .held _ => 1
def uptoBulkAll {H : Type} : List (DataW H) → Nat
  | [] => 0
  | d :: r => uptoBulk d + uptoBulkAll r
def uptoBulkEntries {H : Type} : List (Lit × DataW H) → Nat
  | [] => 0
  | x :: r => uptoBulkEntry x + uptoBulkEntries r
def uptoBulkEntry {H : Type} : Lit × DataW H → Nat
  | (.string bytes, d) => bytes.length + uptoBulk d + 1
  | (_, d) => uptoBulk d + 1
 end
def uptoSmall : (H : Type) → List (DataW H) → Bool := fun _ ds => decide (uptoBulkAll ds ≤ 1048576)
def OpenSpec.upto (s : _root_.Go.ChangeSpec) : _root_.Go.OpenSpec := { _root_.Go.OpenSpec.ofChange s with cond := some uptoSmall }

/-- 'tappetlaw15.EventHistory', WHERE WHAT IT READS IS OF BULK AT MOST 1048576: true; the input reads as it did. -/
def eventHistoryUptoRow : OpenClaim := { program := "ytmljnhhjjaibbaa", sum := "8c0faef0ad56846fd898c4df091f6cacecebf0799e33b4126dec4bdd860a8198", func := "tappet/tappetlaw15.EventHistory", spec := "eventHistory", apart := false, narrowed := true }
def EventHistoryUptoSaid : Prop := eventHistoryUptoRow.holds Try.pinned (OpenSpec.upto eventHistorySpec)

/-- 'tappetlaw15.EventPlays', WHERE WHAT IT READS IS OF BULK AT MOST 1048576: true; the input reads as it did. -/
def eventPlaysUptoRow : OpenClaim := { program := "ytmljnhhjjaibbaa", sum := "8c0faef0ad56846fd898c4df091f6cacecebf0799e33b4126dec4bdd860a8198", func := "tappet/tappetlaw15.EventPlays", spec := "eventPlays", apart := false, narrowed := true }
def EventPlaysUptoSaid : Prop := eventPlaysUptoRow.holds Try.pinned (OpenSpec.upto eventPlaysSpec)

/-- 'tappetlaw15.EventNobody', WHERE WHAT IT READS IS OF BULK AT MOST 1048576: true; the input reads as it did. -/
def eventNobodyUptoRow : OpenClaim := { program := "ytmljnhhjjaibbaa", sum := "8c0faef0ad56846fd898c4df091f6cacecebf0799e33b4126dec4bdd860a8198", func := "tappet/tappetlaw15.EventNobody", spec := "eventNobody", apart := false, narrowed := true }
def EventNobodyUptoSaid : Prop := eventNobodyUptoRow.holds Try.pinned (OpenSpec.upto eventNobodySpec)

end Rows
end Go.Proofs.Ytmljnhhjjaibbaa
