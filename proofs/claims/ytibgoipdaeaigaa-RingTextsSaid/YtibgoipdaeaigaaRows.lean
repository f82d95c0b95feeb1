/-
  No cell of these rows narrows 'for every input' (looked for: loops, veiled, ifaces, maps, wideKeys, modest, calm, conditions, laid).
  DERIVED. THE GIVEN ROWS OF THIS SEAT. 8 by the template 'for every input the law returns true; each argument reads behind the call as it read before'; 0 by the template 'total and deterministic' (their statements: YtibgoipdaeaigaaTotals.lean).
  GIVEN WITH THE SEED: the statements are not yours to turn. If you find one false, say at which input.
  Laid BY PROGRAM, IN A SANDBOX (cutbox-rows.mjs): the forced cells as the released guide's own fill.sh prints them over the translation 1a442c62bdb1fc8a… (all of the seat's roots in one cut). By AI agents, Wed Nov 11 2026. No macro, syntax, notation, axiom, sorry.
-/
import Derived.Test.YtibgoipdaeaigaaChecked
import GoSem.Claim
import GoSem.ClaimJoined
import GoSem.ClaimMapViews
import Derived.JoinedTies
import Derived.KernelRfl
namespace Go.Proofs.Ytibgoipdaeaigaa
/- THE CELL 'sum', in the pinned program and in every row, IS THE sha256 OF THE DUMP (.gsa) THAT YtibgoipdaeaigaaProg.lean LOADS. Nothing in Lean hashes anything: it is a label: what it is worth is what the hold of that sum in a sandbox is worth. -/
noncomputable def Try.pinned : Pinned := { name := "ytibgoipdaeaigaa", sum := "1a442c62bdb1fc8ab5389e92f3a25e9b9dd1e1ba2378faa9d1262505547ae612", checked := Try.checked }
namespace Rows
def none {H : Type} : Left H := { results := [], args := [] }

/-- 'tappetlaw12.RingNames': WHATEVER THE INPUT: true; the input reads as it did. -/
def ringNamesSpec : ChangeSpec := { name := "ringNames", fn := fun _ => fun
  | [] => { results := [.lit (.bool true)], args := [] }
  | _ => none }
def ringNamesRow : OpenClaim := { program := "ytibgoipdaeaigaa", sum := "1a442c62bdb1fc8ab5389e92f3a25e9b9dd1e1ba2378faa9d1262505547ae612", func := "tappet/tappetlaw12.RingNames", spec := "ringNames", apart := false }
def RingNamesSaid : Prop := ringNamesRow.holds Try.pinned (OpenSpec.ofChange ringNamesSpec)

/-- ITS FALSE NEIGHBOUR: 'it returns false'. Refute it at one input. -/
def ringNamesWrong : ChangeSpec := { name := "ringNames", fn := fun _ => fun
  | [] => { results := [.lit (.bool false)], args := [] }
  | _ => none }
def RingNamesWrongFalsely : Prop := ringNamesRow.holds Try.pinned (OpenSpec.ofChange ringNamesWrong)

/-- 'tappetlaw12.RingTexts': WHATEVER THE INPUT: true; the input reads as it did. -/
def ringTextsSpec : ChangeSpec := { name := "ringTexts", fn := fun _ => fun
  | [d1, d2, d3] => { results := [.lit (.bool true)], args := [d1, d2, d3] }
  | _ => none }
def ringTextsRow : OpenClaim := { program := "ytibgoipdaeaigaa", sum := "1a442c62bdb1fc8ab5389e92f3a25e9b9dd1e1ba2378faa9d1262505547ae612", func := "tappet/tappetlaw12.RingTexts", spec := "ringTexts", apart := false }
def RingTextsSaid : Prop := ringTextsRow.holds Try.pinned (OpenSpec.ofChange ringTextsSpec)

/-- ITS FALSE NEIGHBOUR: 'it returns false'. Refute it at one input. -/
def ringTextsWrong : ChangeSpec := { name := "ringTexts", fn := fun _ => fun
  | [d1, d2, d3] => { results := [.lit (.bool false)], args := [d1, d2, d3] }
  | _ => none }
def RingTextsWrongFalsely : Prop := ringTextsRow.holds Try.pinned (OpenSpec.ofChange ringTextsWrong)

/-- 'tappetlaw12.RingRow': WHATEVER THE INPUT: true; the input reads as it did. -/
def ringRowSpec : ChangeSpec := { name := "ringRow", fn := fun _ => fun
  | [d1, d2, d3] => { results := [.lit (.bool true)], args := [d1, d2, d3] }
  | _ => none }
def ringRowRow : OpenClaim := { program := "ytibgoipdaeaigaa", sum := "1a442c62bdb1fc8ab5389e92f3a25e9b9dd1e1ba2378faa9d1262505547ae612", func := "tappet/tappetlaw12.RingRow", spec := "ringRow", apart := false }
def RingRowSaid : Prop := ringRowRow.holds Try.pinned (OpenSpec.ofChange ringRowSpec)

/-- ITS FALSE NEIGHBOUR: 'it returns false'. Refute it at one input. -/
def ringRowWrong : ChangeSpec := { name := "ringRow", fn := fun _ => fun
  | [d1, d2, d3] => { results := [.lit (.bool false)], args := [d1, d2, d3] }
  | _ => none }
def RingRowWrongFalsely : Prop := ringRowRow.holds Try.pinned (OpenSpec.ofChange ringRowWrong)

/-- 'tappetlaw12.RingFirst': WHATEVER THE INPUT: true; the input reads as it did. -/
def ringFirstSpec : ChangeSpec := { name := "ringFirst", fn := fun _ => fun
  | [d1, d2, d3] => { results := [.lit (.bool true)], args := [d1, d2, d3] }
  | _ => none }
def ringFirstRow : OpenClaim := { program := "ytibgoipdaeaigaa", sum := "1a442c62bdb1fc8ab5389e92f3a25e9b9dd1e1ba2378faa9d1262505547ae612", func := "tappet/tappetlaw12.RingFirst", spec := "ringFirst", apart := false }
def RingFirstSaid : Prop := ringFirstRow.holds Try.pinned (OpenSpec.ofChange ringFirstSpec)

/-- ITS FALSE NEIGHBOUR: 'it returns false'. Refute it at one input. -/
def ringFirstWrong : ChangeSpec := { name := "ringFirst", fn := fun _ => fun
  | [d1, d2, d3] => { results := [.lit (.bool false)], args := [d1, d2, d3] }
  | _ => none }
def RingFirstWrongFalsely : Prop := ringFirstRow.holds Try.pinned (OpenSpec.ofChange ringFirstWrong)

/-- 'tappetlaw12.RingSeen': WHATEVER THE INPUT: true; the input reads as it did. -/
def ringSeenSpec : ChangeSpec := { name := "ringSeen", fn := fun _ => fun
  | [d1, d2, d3, d4] => { results := [.lit (.bool true)], args := [d1, d2, d3, d4] }
  | _ => none }
def ringSeenRow : OpenClaim := { program := "ytibgoipdaeaigaa", sum := "1a442c62bdb1fc8ab5389e92f3a25e9b9dd1e1ba2378faa9d1262505547ae612", func := "tappet/tappetlaw12.RingSeen", spec := "ringSeen", unfollowed := true, recurses := true, apart := false }
def RingSeenSaid : Prop := ringSeenRow.holds Try.pinned (OpenSpec.ofChange ringSeenSpec)

/-- ITS FALSE NEIGHBOUR: 'it returns false'. Refute it at one input. -/
def ringSeenWrong : ChangeSpec := { name := "ringSeen", fn := fun _ => fun
  | [d1, d2, d3, d4] => { results := [.lit (.bool false)], args := [d1, d2, d3, d4] }
  | _ => none }
def RingSeenWrongFalsely : Prop := ringSeenRow.holds Try.pinned (OpenSpec.ofChange ringSeenWrong)

/-- 'tappetlaw12.RingPlays': WHATEVER THE INPUT: true; the input reads as it did. -/
def ringPlaysSpec : ChangeSpec := { name := "ringPlays", fn := fun _ => fun
  | [d1, d2] => { results := [.lit (.bool true)], args := [d1, d2] }
  | _ => none }
def ringPlaysRow : OpenClaim := { program := "ytibgoipdaeaigaa", sum := "1a442c62bdb1fc8ab5389e92f3a25e9b9dd1e1ba2378faa9d1262505547ae612", func := "tappet/tappetlaw12.RingPlays", spec := "ringPlays", unfollowed := true, recurses := true, apart := false }
def RingPlaysSaid : Prop := ringPlaysRow.holds Try.pinned (OpenSpec.ofChange ringPlaysSpec)

/-- ITS FALSE NEIGHBOUR: 'it returns false'. Refute it at one input. -/
def ringPlaysWrong : ChangeSpec := { name := "ringPlays", fn := fun _ => fun
  | [d1, d2] => { results := [.lit (.bool false)], args := [d1, d2] }
  | _ => none }
def RingPlaysWrongFalsely : Prop := ringPlaysRow.holds Try.pinned (OpenSpec.ofChange ringPlaysWrong)

/-- 'tappetlaw12.RingApart': WHATEVER THE INPUT: true; the input reads as it did. -/
def ringApartSpec : ChangeSpec := { name := "ringApart", fn := fun _ => fun
  | [d1, d2, d3] => { results := [.lit (.bool true)], args := [d1, d2, d3] }
  | _ => none }
def ringApartRow : OpenClaim := { program := "ytibgoipdaeaigaa", sum := "1a442c62bdb1fc8ab5389e92f3a25e9b9dd1e1ba2378faa9d1262505547ae612", func := "tappet/tappetlaw12.RingApart", spec := "ringApart", unfollowed := true, recurses := true, apart := false }
def RingApartSaid : Prop := ringApartRow.holds Try.pinned (OpenSpec.ofChange ringApartSpec)

/-- ITS FALSE NEIGHBOUR: 'it returns false'. Refute it at one input. -/
def ringApartWrong : ChangeSpec := { name := "ringApart", fn := fun _ => fun
  | [d1, d2, d3] => { results := [.lit (.bool false)], args := [d1, d2, d3] }
  | _ => none }
def RingApartWrongFalsely : Prop := ringApartRow.holds Try.pinned (OpenSpec.ofChange ringApartWrong)

/-- 'tappetlaw12.RingNobody': WHATEVER THE INPUT: true; the input reads as it did. -/
def ringNobodySpec : ChangeSpec := { name := "ringNobody", fn := fun _ => fun
  | [d1, d2] => { results := [.lit (.bool true)], args := [d1, d2] }
  | _ => none }
def ringNobodyRow : OpenClaim := { program := "ytibgoipdaeaigaa", sum := "1a442c62bdb1fc8ab5389e92f3a25e9b9dd1e1ba2378faa9d1262505547ae612", func := "tappet/tappetlaw12.RingNobody", spec := "ringNobody", unfollowed := true, recurses := true, apart := false }
def RingNobodySaid : Prop := ringNobodyRow.holds Try.pinned (OpenSpec.ofChange ringNobodySpec)

/-- ITS FALSE NEIGHBOUR: 'it returns false'. Refute it at one input. -/
def ringNobodyWrong : ChangeSpec := { name := "ringNobody", fn := fun _ => fun
  | [d1, d2] => { results := [.lit (.bool false)], args := [d1, d2] }
  | _ => none }
def RingNobodyWrongFalsely : Prop := ringNobodyRow.holds Try.pinned (OpenSpec.ofChange ringNobodyWrong)

/- THE SECOND FORM. 'bulk': how many values and letters a reading holds, each counted each time it is reached (what is shared counts as often as it is met; a slice's spare places count too). A statement '..UptoSaid' is the law's where the arguments, and the package variables that the reading takes, are together of bulk at most 1048576: NARROWER than '..Said'. Prove '..Said' where nothing that the law and all that it calls make is longer than what came in: it says more and counts as full. Else prove '..UptoSaid'. A law counts once. -/
mutual
def uptoBulk {H : Type} : DataW H → Nat
  | .lit (.string bytes) => bytes.length + 1
  | .lit _ => 1
  | .nil => 1
  | .ptr d => uptoBulk d + 1
  | .slice elems spare => uptoBulkAll elems + uptoBulkAll spare + 1
  | .agg parts => uptoBulkAll parts + 1
  | .iface _ d => uptoBulk d + 1
  | .map entries => uptoBulkEntries entries + 1
  | .held _ => 1
def uptoBulkAll {H : Type} : List (DataW H) → Nat
  | [] => 0
  | d :: r => uptoBulk d + uptoBulkAll r
def uptoBulkEntries {H : Type} : List (Lit × DataW H) → Nat
  | [] => 0
  | x :: r => uptoBulkEntry x + uptoBulkEntries r
def uptoBulkEntry {H : Type} : Lit × DataW H → Nat
  | (.string bytes, d) => bytes.length + uptoBulk d + 1
  | (_, d) => uptoBulk d + 1
 end
def uptoSmall : (H : Type) → List (DataW H) → Bool := fun _ ds => decide (uptoBulkAll ds ≤ 1048576)
def OpenSpec.upto (s : _root_.Go.ChangeSpec) : _root_.Go.OpenSpec := { _root_.Go.OpenSpec.ofChange s with cond := some uptoSmall }

/-- 'tappetlaw12.RingNames', WHERE WHAT IT READS IS OF BULK AT MOST 1048576: true; the input reads as it did. -/
def ringNamesUptoRow : OpenClaim := { program := "ytibgoipdaeaigaa", sum := "1a442c62bdb1fc8ab5389e92f3a25e9b9dd1e1ba2378faa9d1262505547ae612", func := "tappet/tappetlaw12.RingNames", spec := "ringNames", apart := false, narrowed := true }
def RingNamesUptoSaid : Prop := ringNamesUptoRow.holds Try.pinned (OpenSpec.upto ringNamesSpec)

/-- 'tappetlaw12.RingTexts', WHERE WHAT IT READS IS OF BULK AT MOST 1048576: true; the input reads as it did. -/
def ringTextsUptoRow : OpenClaim := { program := "ytibgoipdaeaigaa", sum := "1a442c62bdb1fc8ab5389e92f3a25e9b9dd1e1ba2378faa9d1262505547ae612", func := "tappet/tappetlaw12.RingTexts", spec := "ringTexts", apart := false, narrowed := true }
def RingTextsUptoSaid : Prop := ringTextsUptoRow.holds Try.pinned (OpenSpec.upto ringTextsSpec)

/-- 'tappetlaw12.RingRow', WHERE WHAT IT READS IS OF BULK AT MOST 1048576: true; the input reads as it did. -/
def ringRowUptoRow : OpenClaim := { program := "ytibgoipdaeaigaa", sum := "1a442c62bdb1fc8ab5389e92f3a25e9b9dd1e1ba2378faa9d1262505547ae612", func := "tappet/tappetlaw12.RingRow", spec := "ringRow", apart := false, narrowed := true }
def RingRowUptoSaid : Prop := ringRowUptoRow.holds Try.pinned (OpenSpec.upto ringRowSpec)

/-- 'tappetlaw12.RingFirst', WHERE WHAT IT READS IS OF BULK AT MOST 1048576: true; the input reads as it did. -/
def ringFirstUptoRow : OpenClaim := { program := "ytibgoipdaeaigaa", sum := "1a442c62bdb1fc8ab5389e92f3a25e9b9dd1e1ba2378faa9d1262505547ae612", func := "tappet/tappetlaw12.RingFirst", spec := "ringFirst", apart := false, narrowed := true }
def RingFirstUptoSaid : Prop := ringFirstUptoRow.holds Try.pinned (OpenSpec.upto ringFirstSpec)

/-- 'tappetlaw12.RingSeen', WHERE WHAT IT READS IS OF BULK AT MOST 1048576: true; the input reads as it did. -/
def ringSeenUptoRow : OpenClaim := { program := "ytibgoipdaeaigaa", sum := "1a442c62bdb1fc8ab5389e92f3a25e9b9dd1e1ba2378faa9d1262505547ae612", func := "tappet/tappetlaw12.RingSeen", spec := "ringSeen", unfollowed := true, recurses := true, apart := false, narrowed := true }
def RingSeenUptoSaid : Prop := ringSeenUptoRow.holds Try.pinned (OpenSpec.upto ringSeenSpec)

/-- 'tappetlaw12.RingPlays', WHERE WHAT IT READS IS OF BULK AT MOST 1048576: true; the input reads as it did. -/
def ringPlaysUptoRow : OpenClaim := { program := "ytibgoipdaeaigaa", sum := "1a442c62bdb1fc8ab5389e92f3a25e9b9dd1e1ba2378faa9d1262505547ae612", func := "tappet/tappetlaw12.RingPlays", spec := "ringPlays", unfollowed := true, recurses := true, apart := false, narrowed := true }
def RingPlaysUptoSaid : Prop := ringPlaysUptoRow.holds Try.pinned (OpenSpec.upto ringPlaysSpec)

/-- 'tappetlaw12.RingApart', WHERE WHAT IT READS IS OF BULK AT MOST 1048576: true; the input reads as it did. -/
def ringApartUptoRow : OpenClaim := { program := "ytibgoipdaeaigaa", sum := "1a442c62bdb1fc8ab5389e92f3a25e9b9dd1e1ba2378faa9d1262505547ae612", func := "tappet/tappetlaw12.RingApart", spec := "ringApart", unfollowed := true, recurses := true, apart := false, narrowed := true }
def RingApartUptoSaid : Prop := ringApartUptoRow.holds Try.pinned (OpenSpec.upto ringApartSpec)

/-- 'tappetlaw12.RingNobody', WHERE WHAT IT READS IS OF BULK AT MOST 1048576: true; the input reads as it did. -/
def ringNobodyUptoRow : OpenClaim := { program := "ytibgoipdaeaigaa", sum := "1a442c62bdb1fc8ab5389e92f3a25e9b9dd1e1ba2378faa9d1262505547ae612", func := "tappet/tappetlaw12.RingNobody", spec := "ringNobody", unfollowed := true, recurses := true, apart := false, narrowed := true }
def RingNobodyUptoSaid : Prop := ringNobodyUptoRow.holds Try.pinned (OpenSpec.upto ringNobodySpec)

end Rows
end Go.Proofs.Ytibgoipdaeaigaa
