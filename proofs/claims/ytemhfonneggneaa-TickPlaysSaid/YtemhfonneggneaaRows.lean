/-
  No cell of these rows narrows 'for every input' (looked for: loops, veiled, ifaces, maps, wideKeys, modest, calm, conditions, laid).
  DERIVED. THE GIVEN ROWS OF THIS SEAT. 3 by the template 'for every input the law returns true; each argument reads behind the call as it read before'; 0 by the template 'total and deterministic' (their statements: YtemhfonneggneaaTotals.lean).
  GIVEN WITH THE SEED: the statements are not yours to turn. If you find one false, say at which input.
  Laid BY PROGRAM, IN A SANDBOX (cutbox-rows.mjs): the forced cells as the released guide's own fill.sh prints them over the translation e23a8c2df91c77a8… (all of the seat's roots in one cut). By AI agents, Wed Nov 11 2026. No macro, syntax, notation, axiom, sorry.
-/
import Derived.Test.YtemhfonneggneaaChecked
import GoSem.Claim
import GoSem.ClaimJoined
import GoSem.ClaimMapViews
import Derived.JoinedTies
import Derived.KernelRfl
namespace Go.Proofs.Ytemhfonneggneaa
/- THE CELL 'sum', in the pinned program and in every row, IS THE sha256 OF THE DUMP (.gsa) THAT YtemhfonneggneaaProg.lean LOADS. Nothing in Lean hashes anything: it is a label: what it is worth is what the hold of that sum in a sandbox is worth. -/
noncomputable def Try.pinned : Pinned := { name := "ytemhfonneggneaa", sum := "e23a8c2df91c77a86b30bc215cc25320b605849896562caf5837b6e13420dfe8", checked := Try.checked }
namespace Rows
def none {H : Type} : Left H := { results := [], args := [] }

/-- 'tappetlaw21.TickExact': WHATEVER THE INPUT: true; the input reads as it did. -/
def tickExactSpec : ChangeSpec := { name := "tickExact", fn := fun _ => fun
  | [d1, d2, d3, d4, d5, d6] => { results := [.lit (.bool true)], args := [d1, d2, d3, d4, d5, d6] }
  | _ => none }
def tickExactRow : OpenClaim := { program := "ytemhfonneggneaa", sum := "e23a8c2df91c77a86b30bc215cc25320b605849896562caf5837b6e13420dfe8", func := "tappet/tappetlaw21.TickExact", spec := "tickExact", unfollowed := true, recurses := true, apart := false }
def TickExactSaid : Prop := tickExactRow.holds Try.pinned (OpenSpec.ofChange tickExactSpec)

/-- ITS FALSE NEIGHBOUR: 'it returns false'. Refute it at one input. -/
def tickExactWrong : ChangeSpec := { name := "tickExact", fn := fun _ => fun
  | [d1, d2, d3, d4, d5, d6] => { results := [.lit (.bool false)], args := [d1, d2, d3, d4, d5, d6] }
  | _ => none }
def TickExactWrongFalsely : Prop := tickExactRow.holds Try.pinned (OpenSpec.ofChange tickExactWrong)

/-- 'tappetlaw21.TickPlays': WHATEVER THE INPUT: true; the input reads as it did. -/
def tickPlaysSpec : ChangeSpec := { name := "tickPlays", fn := fun _ => fun
  | [d1, d2] => { results := [.lit (.bool true)], args := [d1, d2] }
  | _ => none }
def tickPlaysRow : OpenClaim := { program := "ytemhfonneggneaa", sum := "e23a8c2df91c77a86b30bc215cc25320b605849896562caf5837b6e13420dfe8", func := "tappet/tappetlaw21.TickPlays", spec := "tickPlays", unfollowed := true, recurses := true, apart := false }
def TickPlaysSaid : Prop := tickPlaysRow.holds Try.pinned (OpenSpec.ofChange tickPlaysSpec)

/-- ITS FALSE NEIGHBOUR: 'it returns false'. Refute it at one input. -/
def tickPlaysWrong : ChangeSpec := { name := "tickPlays", fn := fun _ => fun
  | [d1, d2] => { results := [.lit (.bool false)], args := [d1, d2] }
  | _ => none }
def TickPlaysWrongFalsely : Prop := tickPlaysRow.holds Try.pinned (OpenSpec.ofChange tickPlaysWrong)

/-- 'tappetlaw21.TickNobody': WHATEVER THE INPUT: true; the input reads as it did. -/
def tickNobodySpec : ChangeSpec := { name := "tickNobody", fn := fun _ => fun
  | [d1, d2, d3] => { results := [.lit (.bool true)], args := [d1, d2, d3] }
  | _ => none }
def tickNobodyRow : OpenClaim := { program := "ytemhfonneggneaa", sum := "e23a8c2df91c77a86b30bc215cc25320b605849896562caf5837b6e13420dfe8", func := "tappet/tappetlaw21.TickNobody", spec := "tickNobody", unfollowed := true, recurses := true, apart := false }
def TickNobodySaid : Prop := tickNobodyRow.holds Try.pinned (OpenSpec.ofChange tickNobodySpec)

/-- ITS FALSE NEIGHBOUR: 'it returns false'. Refute it at one input. -/
def tickNobodyWrong : ChangeSpec := { name := "tickNobody", fn := fun _ => fun
  | [d1, d2, d3] => { results := [.lit (.bool false)], args := [d1, d2, d3] }
  | _ => none }
def TickNobodyWrongFalsely : Prop := tickNobodyRow.holds Try.pinned (OpenSpec.ofChange tickNobodyWrong)

/- THE SECOND FORM. 'bulk': how many values and letters a reading holds, each counted each time it is reached (what is shared counts as often as it is met; a slice's spare places count too). A statement '..UptoSaid' is the law's where the arguments, and the package variables that the reading takes, are together of bulk at most 1048576: NARROWER than '..Said'. Prove '..Said' where nothing that the law and all that it calls make is longer than what came in: it says more and counts as full. Else prove '..UptoSaid'. A law counts once. -/
mutual
def uptoBulk {H : Type} : DataW H → Nat
  | .lit (.string bytes) => bytes.length + 1
  | .lit _ => 1
  | .nil => 1
  | .ptr d => uptoBulk d + 1
  | .slice elems spare => uptoBulkAll elems + uptoBulkAll spare + 1
  | .agg parts => uptoBulkAll parts + 1
  | .iface _ d => uptoBulk d + 1
  | .map entries => uptoBulkEntries entries + 1
  | .held _ => 1
def uptoBulkAll {H : Type} : List (DataW H) → Nat
  | [] => 0
  | d :: r => uptoBulk d + uptoBulkAll r
def uptoBulkEntries {H : Type} : List (Lit × DataW H) → Nat
  | [] => 0
  | x :: r => uptoBulkEntry x + uptoBulkEntries r
def uptoBulkEntry {H : Type} : Lit × DataW H → Nat
  | (.string bytes, d) => bytes.length + uptoBulk d + 1
  | (_, d) => uptoBulk d + 1
 end
def uptoSmall : (H : Type) → List (DataW H) → Bool := fun _ ds => decide (uptoBulkAll ds ≤ 1048576)
def OpenSpec.upto (s : _root_.Go.ChangeSpec) : _root_.Go.OpenSpec := { _root_.Go.OpenSpec.ofChange s with cond := some uptoSmall }

/-- 'tappetlaw21.TickExact', WHERE WHAT IT READS IS OF BULK AT MOST 1048576: true; the input reads as it did. -/
def tickExactUptoRow : OpenClaim := { program := "ytemhfonneggneaa", sum := "e23a8c2df91c77a86b30bc215cc25320b605849896562caf5837b6e13420dfe8", func := "tappet/tappetlaw21.TickExact", spec := "tickExact", unfollowed := true, recurses := true, apart := false, narrowed := true }
def TickExactUptoSaid : Prop := tickExactUptoRow.holds Try.pinned (OpenSpec.upto tickExactSpec)

/-- 'tappetlaw21.TickPlays', WHERE WHAT IT READS IS OF BULK AT MOST 1048576: true; the input reads as it did. -/
def tickPlaysUptoRow : OpenClaim := { program := "ytemhfonneggneaa", sum := "e23a8c2df91c77a86b30bc215cc25320b605849896562caf5837b6e13420dfe8", func := "tappet/tappetlaw21.TickPlays", spec := "tickPlays", unfollowed := true, recurses := true, apart := false, narrowed := true }
def TickPlaysUptoSaid : Prop := tickPlaysUptoRow.holds Try.pinned (OpenSpec.upto tickPlaysSpec)

/-- 'tappetlaw21.TickNobody', WHERE WHAT IT READS IS OF BULK AT MOST 1048576: true; the input reads as it did. -/
def tickNobodyUptoRow : OpenClaim := { program := "ytemhfonneggneaa", sum := "e23a8c2df91c77a86b30bc215cc25320b605849896562caf5837b6e13420dfe8", func := "tappet/tappetlaw21.TickNobody", spec := "tickNobody", unfollowed := true, recurses := true, apart := false, narrowed := true }
def TickNobodyUptoSaid : Prop := tickNobodyUptoRow.holds Try.pinned (OpenSpec.upto tickNobodySpec)

end Rows
end Go.Proofs.Ytemhfonneggneaa
