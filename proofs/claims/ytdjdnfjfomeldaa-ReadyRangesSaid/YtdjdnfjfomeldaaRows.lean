/-
  No cell of these rows narrows 'for every input' (looked for: loops, veiled, ifaces, maps, wideKeys, modest, calm, conditions, laid).
  DERIVED. THE GIVEN ROWS OF THIS SEAT. 5 by the template 'for every input the law returns true; each argument reads behind the call as it read before'; 0 by the template 'total and deterministic' (their statements: YtdjdnfjfomeldaaTotals.lean).
  GIVEN WITH THE SEED: the statements are not yours to turn. If you find one false, say at which input.
  Laid BY PROGRAM, IN A SANDBOX (cutbox-rows.mjs): the forced cells as the released guide's own fill.sh prints them over the translation 6d725001f0e15067… (all of the seat's roots in one cut). By AI agents, Wed Nov 11 2026. No macro, syntax, notation, axiom, sorry.
-/
import Derived.Test.YtdjdnfjfomeldaaChecked
import GoSem.Claim
import GoSem.ClaimJoined
import GoSem.ClaimMapViews
import Derived.JoinedTies
import Derived.KernelRfl
namespace Go.Proofs.Ytdjdnfjfomeldaa
/- THE CELL 'sum', in the pinned program and in every row, IS THE sha256 OF THE DUMP (.gsa) THAT YtdjdnfjfomeldaaProg.lean LOADS. Nothing in Lean hashes anything: it is a label: what it is worth is what the hold of that sum in a sandbox is worth. -/
noncomputable def Try.pinned : Pinned := { name := "ytdjdnfjfomeldaa", sum := "6d725001f0e15067e8003f4285f43b4f24bd4ab24f810b7e15cd07455556998c", checked := Try.checked }
namespace Rows
def none {H : Type} : Left H := { results := [], args := [] }

/-- 'tappetlaw13.ReadyRanges': WHATEVER THE INPUT: true; the input reads as it did. -/
def readyRangesSpec : ChangeSpec := { name := "readyRanges", fn := fun _ => fun
  | [d1, d2, d3] => { results := [.lit (.bool true)], args := [d1, d2, d3] }
  | _ => none }
def readyRangesRow : OpenClaim := { program := "ytdjdnfjfomeldaa", sum := "6d725001f0e15067e8003f4285f43b4f24bd4ab24f810b7e15cd07455556998c", func := "tappet/tappetlaw13.ReadyRanges", spec := "readyRanges", unfollowed := true, recurses := true, apart := false }
def ReadyRangesSaid : Prop := readyRangesRow.holds Try.pinned (OpenSpec.ofChange readyRangesSpec)

/-- ITS FALSE NEIGHBOUR: 'it returns false'. Refute it at one input. -/
def readyRangesWrong : ChangeSpec := { name := "readyRanges", fn := fun _ => fun
  | [d1, d2, d3] => { results := [.lit (.bool false)], args := [d1, d2, d3] }
  | _ => none }
def ReadyRangesWrongFalsely : Prop := readyRangesRow.holds Try.pinned (OpenSpec.ofChange readyRangesWrong)

/-- 'tappetlaw13.ReadyMakes': WHATEVER THE INPUT: true; the input reads as it did. -/
def readyMakesSpec : ChangeSpec := { name := "readyMakes", fn := fun _ => fun
  | [d] => { results := [.lit (.bool true)], args := [d] }
  | _ => none }
def readyMakesRow : OpenClaim := { program := "ytdjdnfjfomeldaa", sum := "6d725001f0e15067e8003f4285f43b4f24bd4ab24f810b7e15cd07455556998c", func := "tappet/tappetlaw13.ReadyMakes", spec := "readyMakes", unfollowed := true, recurses := true, apart := false }
def ReadyMakesSaid : Prop := readyMakesRow.holds Try.pinned (OpenSpec.ofChange readyMakesSpec)

/-- ITS FALSE NEIGHBOUR: 'it returns false'. Refute it at one input. -/
def readyMakesWrong : ChangeSpec := { name := "readyMakes", fn := fun _ => fun
  | [d] => { results := [.lit (.bool false)], args := [d] }
  | _ => none }
def ReadyMakesWrongFalsely : Prop := readyMakesRow.holds Try.pinned (OpenSpec.ofChange readyMakesWrong)

/-- 'tappetlaw13.ReadyFirst': WHATEVER THE INPUT: true; the input reads as it did. -/
def readyFirstSpec : ChangeSpec := { name := "readyFirst", fn := fun _ => fun
  | [d1, d2] => { results := [.lit (.bool true)], args := [d1, d2] }
  | _ => none }
def readyFirstRow : OpenClaim := { program := "ytdjdnfjfomeldaa", sum := "6d725001f0e15067e8003f4285f43b4f24bd4ab24f810b7e15cd07455556998c", func := "tappet/tappetlaw13.ReadyFirst", spec := "readyFirst", unfollowed := true, recurses := true, apart := false }
def ReadyFirstSaid : Prop := readyFirstRow.holds Try.pinned (OpenSpec.ofChange readyFirstSpec)

/-- ITS FALSE NEIGHBOUR: 'it returns false'. Refute it at one input. -/
def readyFirstWrong : ChangeSpec := { name := "readyFirst", fn := fun _ => fun
  | [d1, d2] => { results := [.lit (.bool false)], args := [d1, d2] }
  | _ => none }
def ReadyFirstWrongFalsely : Prop := readyFirstRow.holds Try.pinned (OpenSpec.ofChange readyFirstWrong)

/-- 'tappetlaw13.ReadyPlays': WHATEVER THE INPUT: true; the input reads as it did. -/
def readyPlaysSpec : ChangeSpec := { name := "readyPlays", fn := fun _ => fun
  | [d1, d2] => { results := [.lit (.bool true)], args := [d1, d2] }
  | _ => none }
def readyPlaysRow : OpenClaim := { program := "ytdjdnfjfomeldaa", sum := "6d725001f0e15067e8003f4285f43b4f24bd4ab24f810b7e15cd07455556998c", func := "tappet/tappetlaw13.ReadyPlays", spec := "readyPlays", unfollowed := true, recurses := true, apart := false }
def ReadyPlaysSaid : Prop := readyPlaysRow.holds Try.pinned (OpenSpec.ofChange readyPlaysSpec)

/-- ITS FALSE NEIGHBOUR: 'it returns false'. Refute it at one input. -/
def readyPlaysWrong : ChangeSpec := { name := "readyPlays", fn := fun _ => fun
  | [d1, d2] => { results := [.lit (.bool false)], args := [d1, d2] }
  | _ => none }
def ReadyPlaysWrongFalsely : Prop := readyPlaysRow.holds Try.pinned (OpenSpec.ofChange readyPlaysWrong)

/-- 'tappetlaw13.ReadyNobody': WHATEVER THE INPUT: true; the input reads as it did. -/
def readyNobodySpec : ChangeSpec := { name := "readyNobody", fn := fun _ => fun
  | [d1, d2] => { results := [.lit (.bool true)], args := [d1, d2] }
  | _ => none }
def readyNobodyRow : OpenClaim := { program := "ytdjdnfjfomeldaa", sum := "6d725001f0e15067e8003f4285f43b4f24bd4ab24f810b7e15cd07455556998c", func := "tappet/tappetlaw13.ReadyNobody", spec := "readyNobody", unfollowed := true, recurses := true, apart := false }
def ReadyNobodySaid : Prop := readyNobodyRow.holds Try.pinned (OpenSpec.ofChange readyNobodySpec)

/-- ITS FALSE NEIGHBOUR: 'it returns false'. Refute it at one input. -/
def readyNobodyWrong : ChangeSpec := { name := "readyNobody", fn := fun _ => fun
  | [d1, d2] => { results := [.lit (.bool false)], args := [d1, d2] }
  | _ => none }
def ReadyNobodyWrongFalsely : Prop := readyNobodyRow.holds Try.pinned (OpenSpec.ofChange readyNobodyWrong)

/- THE SECOND FORM. 'bulk': how many values and letters a reading holds, each counted each time it is reached (what is shared counts as often as it is met; a slice's spare places count too). A statement '..UptoSaid' is the law's where the arguments, and the package variables that the reading takes, are together of bulk at most 1048576: NARROWER than '..Said'. Prove '..Said' where nothing that the law and all that it calls make is longer than what came in: it says more and counts as full. Else prove '..UptoSaid'. A law counts once. -/
mutual
def uptoBulk {H : Type} : DataW H → Nat
  | .lit (.string bytes) => bytes.length + 1
  | .lit _ => 1
  | .nil => 1
  | .ptr d => uptoBulk d + 1
  | .slice elems spare => uptoBulkAll elems + uptoBulkAll spare + 1
  | .agg parts => uptoBulkAll parts + 1
  | .iface _ d => uptoBulk d + 1
  | .map entries => uptoBulkEntries entries + 1
  | .held _ => 1
def uptoBulkAll {H : Type} : List (DataW H) → Nat
  | [] => 0
  | d :: r => uptoBulk d + uptoBulkAll r
def uptoBulkEntries {H : Type} : List (Lit × DataW H) → Nat
  | [] => 0
  | x :: r => uptoBulkEntry x + uptoBulkEntries r
def uptoBulkEntry {H : Type} : Lit × DataW H → Nat
  | (.string bytes, d) => bytes.length + uptoBulk d + 1
  | (_, d) => uptoBulk d + 1
 end
def uptoSmall : (H : Type) → List (DataW H) → Bool := fun _ ds => decide (uptoBulkAll ds ≤ 1048576)
def OpenSpec.upto (s : _root_.Go.ChangeSpec) : _root_.Go.OpenSpec := { _root_.Go.OpenSpec.ofChange s with cond := some uptoSmall }

/-- 'tappetlaw13.ReadyRanges', WHERE WHAT IT READS IS OF BULK AT MOST 1048576: true; the input reads as it did. -/
def readyRangesUptoRow : OpenClaim := { program := "ytdjdnfjfomeldaa", sum := "6d725001f0e15067e8003f4285f43b4f24bd4ab24f810b7e15cd07455556998c", func := "tappet/tappetlaw13.ReadyRanges", spec := "readyRanges", unfollowed := true, recurses := true, apart := false, narrowed := true }
def ReadyRangesUptoSaid : Prop := readyRangesUptoRow.holds Try.pinned (OpenSpec.upto readyRangesSpec)

/-- 'tappetlaw13.ReadyMakes', WHERE WHAT IT READS IS OF BULK AT MOST 1048576: true; the input reads as it did. -/
def readyMakesUptoRow : OpenClaim := { program := "ytdjdnfjfomeldaa", sum := "6d725001f0e15067e8003f4285f43b4f24bd4ab24f810b7e15cd07455556998c", func := "tappet/tappetlaw13.ReadyMakes", spec := "readyMakes", unfollowed := true, recurses := true, apart := false, narrowed := true }
def ReadyMakesUptoSaid : Prop := readyMakesUptoRow.holds Try.pinned (OpenSpec.upto readyMakesSpec)

/-- 'tappetlaw13.ReadyFirst', WHERE WHAT IT READS IS OF BULK AT MOST 1048576: true; the input reads as it did. -/
def readyFirstUptoRow : OpenClaim := { program := "ytdjdnfjfomeldaa", sum := "6d725001f0e15067e8003f4285f43b4f24bd4ab24f810b7e15cd07455556998c", func := "tappet/tappetlaw13.ReadyFirst", spec := "readyFirst", unfollowed := true, recurses := true, apart := false, narrowed := true }
def ReadyFirstUptoSaid : Prop := readyFirstUptoRow.holds Try.pinned (OpenSpec.upto readyFirstSpec)

/-- 'tappetlaw13.ReadyPlays', WHERE WHAT IT READS IS OF BULK AT MOST 1048576: true; the input reads as it did. -/
def readyPlaysUptoRow : OpenClaim := { program := "ytdjdnfjfomeldaa", sum := "6d725001f0e15067e8003f4285f43b4f24bd4ab24f810b7e15cd07455556998c", func := "tappet/tappetlaw13.ReadyPlays", spec := "readyPlays", unfollowed := true, recurses := true, apart := false, narrowed := true }
def ReadyPlaysUptoSaid : Prop := readyPlaysUptoRow.holds Try.pinned (OpenSpec.upto readyPlaysSpec)

/-- 'tappetlaw13.ReadyNobody', WHERE WHAT IT READS IS OF BULK AT MOST 1048576: true; the input reads as it did. -/
def readyNobodyUptoRow : OpenClaim := { program := "ytdjdnfjfomeldaa", sum := "6d725001f0e15067e8003f4285f43b4f24bd4ab24f810b7e15cd07455556998c", func := "tappet/tappetlaw13.ReadyNobody", spec := "readyNobody", unfollowed := true, recurses := true, apart := false, narrowed := true }
def ReadyNobodyUptoSaid : Prop := readyNobodyUptoRow.holds Try.pinned (OpenSpec.upto readyNobodySpec)

end Rows
end Go.Proofs.Ytdjdnfjfomeldaa
