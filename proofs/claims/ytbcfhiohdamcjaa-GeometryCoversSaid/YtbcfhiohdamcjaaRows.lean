/-
  No cell of these rows narrows 'for every input' (looked for: loops, veiled, ifaces, maps, wideKeys, modest, calm, conditions, laid).
  DERIVED. THE GIVEN ROWS OF THIS SEAT. 4 by the template 'for every input the law returns true; each argument reads behind the call as it read before'; 0 by the template 'total and deterministic' (their statements: YtbcfhiohdamcjaaTotals.lean).
  GIVEN WITH THE SEED: the statements are not yours to turn. If you find one false, say at which input.
  Laid BY PROGRAM, IN A SANDBOX (cutbox-rows.mjs): the forced cells as the released guide's own fill.sh prints them over the translation 7c8f850e017e1710… (all of the seat's roots in one cut). By AI agents, Wed Nov 11 2026. No macro, syntax, notation, axiom, sorry.
-/
import Derived.Test.YtbcfhiohdamcjaaChecked
import GoSem.Claim
import GoSem.ClaimJoined
import GoSem.ClaimMapViews
import Derived.JoinedTies
import Derived.KernelRfl
namespace Go.Proofs.Ytbcfhiohdamcjaa
/- THE CELL 'sum', in the pinned program and in every row, IS THE sha256 OF THE DUMP (.gsa) THAT YtbcfhiohdamcjaaProg.lean LOADS. Nothing in Lean hashes anything: it is a label: what it is worth is what the hold of that sum in a sandbox is worth. -/
noncomputable def Try.pinned : Pinned := { name := "ytbcfhiohdamcjaa", sum := "7c8f850e017e171029937a93f2e52a803da041c5ebae7907bbb9e1d54635d5d6", checked := Try.checked }
namespace Rows
def none {H : Type} : Left H := { results := [], args := [] }

/-- 'jalousielaw20.GeometryKnown': WHATEVER THE INPUT: true; the input reads as it did. -/
def geometryKnownSpec : ChangeSpec := { name := "geometryKnown", fn := fun _ => fun
  | [] => { results := [.lit (.bool true)], args := [] }
  | _ => none }
def geometryKnownRow : OpenClaim := { program := "ytbcfhiohdamcjaa", sum := "7c8f850e017e171029937a93f2e52a803da041c5ebae7907bbb9e1d54635d5d6", func := "jalousie/jalousielaw20.GeometryKnown", spec := "geometryKnown", inPlace := ["slices.overlaps[jalousie/tree.Node]"], unfollowed := true, recurses := true, apart := false }
def GeometryKnownSaid : Prop := geometryKnownRow.holds Try.pinned (OpenSpec.ofChange geometryKnownSpec)

/-- ITS FALSE NEIGHBOUR: 'it returns false'. Refute it at one input. -/
def geometryKnownWrong : ChangeSpec := { name := "geometryKnown", fn := fun _ => fun
  | [] => { results := [.lit (.bool false)], args := [] }
  | _ => none }
def GeometryKnownWrongFalsely : Prop := geometryKnownRow.holds Try.pinned (OpenSpec.ofChange geometryKnownWrong)

/-- 'jalousielaw20.GeometryIn': WHATEVER THE INPUT: true; the input reads as it did. -/
def geometryInSpec : ChangeSpec := { name := "geometryIn", fn := fun _ => fun
  | [d1, d2, d3] => { results := [.lit (.bool true)], args := [d1, d2, d3] }
  | _ => none }
def geometryInRow : OpenClaim := { program := "ytbcfhiohdamcjaa", sum := "7c8f850e017e171029937a93f2e52a803da041c5ebae7907bbb9e1d54635d5d6", func := "jalousie/jalousielaw20.GeometryIn", spec := "geometryIn", inPlace := ["slices.overlaps[jalousie/tree.Node]"], unfollowed := true, recurses := true, apart := false }
def GeometryInSaid : Prop := geometryInRow.holds Try.pinned (OpenSpec.ofChange geometryInSpec)

/-- ITS FALSE NEIGHBOUR: 'it returns false'. Refute it at one input. -/
def geometryInWrong : ChangeSpec := { name := "geometryIn", fn := fun _ => fun
  | [d1, d2, d3] => { results := [.lit (.bool false)], args := [d1, d2, d3] }
  | _ => none }
def GeometryInWrongFalsely : Prop := geometryInRow.holds Try.pinned (OpenSpec.ofChange geometryInWrong)

/-- 'jalousielaw20.GeometryCrops': WHATEVER THE INPUT: true; the input reads as it did. -/
def geometryCropsSpec : ChangeSpec := { name := "geometryCrops", fn := fun _ => fun
  | [d1, d2, d3, d4] => { results := [.lit (.bool true)], args := [d1, d2, d3, d4] }
  | _ => none }
def geometryCropsRow : OpenClaim := { program := "ytbcfhiohdamcjaa", sum := "7c8f850e017e171029937a93f2e52a803da041c5ebae7907bbb9e1d54635d5d6", func := "jalousie/jalousielaw20.GeometryCrops", spec := "geometryCrops", inPlace := ["slices.overlaps[jalousie/tree.Node]"], unfollowed := true, recurses := true, apart := false }
def GeometryCropsSaid : Prop := geometryCropsRow.holds Try.pinned (OpenSpec.ofChange geometryCropsSpec)

/-- ITS FALSE NEIGHBOUR: 'it returns false'. Refute it at one input. -/
def geometryCropsWrong : ChangeSpec := { name := "geometryCrops", fn := fun _ => fun
  | [d1, d2, d3, d4] => { results := [.lit (.bool false)], args := [d1, d2, d3, d4] }
  | _ => none }
def GeometryCropsWrongFalsely : Prop := geometryCropsRow.holds Try.pinned (OpenSpec.ofChange geometryCropsWrong)

/-- 'jalousielaw20.GeometryCovers': WHATEVER THE INPUT: true; the input reads as it did. -/
def geometryCoversSpec : ChangeSpec := { name := "geometryCovers", fn := fun _ => fun
  | [d1, d2, d3] => { results := [.lit (.bool true)], args := [d1, d2, d3] }
  | _ => none }
def geometryCoversRow : OpenClaim := { program := "ytbcfhiohdamcjaa", sum := "7c8f850e017e171029937a93f2e52a803da041c5ebae7907bbb9e1d54635d5d6", func := "jalousie/jalousielaw20.GeometryCovers", spec := "geometryCovers", inPlace := ["slices.overlaps[jalousie/tree.Node]"], unfollowed := true, recurses := true, apart := false }
def GeometryCoversSaid : Prop := geometryCoversRow.holds Try.pinned (OpenSpec.ofChange geometryCoversSpec)

/-- ITS FALSE NEIGHBOUR: 'it returns false'. Refute it at one input. -/
def geometryCoversWrong : ChangeSpec := { name := "geometryCovers", fn := fun _ => fun
  | [d1, d2, d3] => { results := [.lit (.bool false)], args := [d1, d2, d3] }
  | _ => none }
def GeometryCoversWrongFalsely : Prop := geometryCoversRow.holds Try.pinned (OpenSpec.ofChange geometryCoversWrong)

/- THE SECOND FORM. 'bulk': how many values and letters a reading holds, each counted each time it is reached (what is shared counts as often as it is met; a slice's spare places count too). A statement '..UptoSaid' is the law's where the arguments, and the package variables that the reading takes, are together of bulk at most 1048576: NARROWER than '..Said'. Prove '..Said' where nothing that the law and all that it calls make is longer than what came in: it says more and counts as full. Else prove '..UptoSaid'. A law counts once. -/
mutual
def uptoBulk {H : Type} : DataW H → Nat
  | .lit (.string bytes) => bytes.length + 1
  | .lit _ => 1
  | .nil => 1
  | .ptr d => uptoBulk d + 1
  | .slice elems spare => uptoBulkAll elems + uptoBulkAll spare + 1
  | .agg parts => uptoBulkAll parts + 1
  | .iface _ d => uptoBulk d + 1
  | .map entries => uptoBulkEntries entries + 1
  | .held _ => 1
def uptoBulkAll {H : Type} : List (DataW H) → Nat
  | [] => 0
  | d :: r => uptoBulk d + uptoBulkAll r
def uptoBulkEntries {H : Type} : List (Lit × DataW H) → Nat
  | [] => 0
  | x :: r => uptoBulkEntry x + uptoBulkEntries r
def uptoBulkEntry {H : Type} : Lit × DataW H → Nat
  | (.string bytes, d) => bytes.length + uptoBulk d + 1
  | (_, d) => uptoBulk d + 1
 end
def uptoSmall : (H : Type) → List (DataW H) → Bool := fun _ ds => decide (uptoBulkAll ds ≤ 1048576)
def OpenSpec.upto (s : _root_.Go.ChangeSpec) : _root_.Go.OpenSpec := { _root_.Go.OpenSpec.ofChange s with cond := some uptoSmall }

/-- 'jalousielaw20.GeometryKnown', WHERE WHAT IT READS IS OF BULK AT MOST 1048576: true; the input reads as it did. -/
def geometryKnownUptoRow : OpenClaim := { program := "ytbcfhiohdamcjaa", sum := "7c8f850e017e171029937a93f2e52a803da041c5ebae7907bbb9e1d54635d5d6", func := "jalousie/jalousielaw20.GeometryKnown", spec := "geometryKnown", inPlace := ["slices.overlaps[jalousie/tree.Node]"], unfollowed := true, recurses := true, apart := false, narrowed := true }
def GeometryKnownUptoSaid : Prop := geometryKnownUptoRow.holds Try.pinned (OpenSpec.upto geometryKnownSpec)

/-- 'jalousielaw20.GeometryIn', WHERE WHAT IT READS IS OF BULK AT MOST 1048576: true; the input reads as it did. -/
def geometryInUptoRow : OpenClaim := { program := "ytbcfhiohdamcjaa", sum := "7c8f850e017e171029937a93f2e52a803da041c5ebae7907bbb9e1d54635d5d6", func := "jalousie/jalousielaw20.GeometryIn", spec := "geometryIn", inPlace := ["slices.overlaps[jalousie/tree.Node]"], unfollowed := true, recurses := true, apart := false, narrowed := true }
def GeometryInUptoSaid : Prop := geometryInUptoRow.holds Try.pinned (OpenSpec.upto geometryInSpec)

/-- 'jalousielaw20.GeometryCrops', WHERE WHAT IT READS IS OF BULK AT MOST 1048576: true; the input reads as it did. -/
def geometryCropsUptoRow : OpenClaim := { program := "ytbcfhiohdamcjaa", sum := "7c8f850e017e171029937a93f2e52a803da041c5ebae7907bbb9e1d54635d5d6", func := "jalousie/jalousielaw20.GeometryCrops", spec := "geometryCrops", inPlace := ["slices.overlaps[jalousie/tree.Node]"], unfollowed := true, recurses := true, apart := false, narrowed := true }
def GeometryCropsUptoSaid : Prop := geometryCropsUptoRow.holds Try.pinned (OpenSpec.upto geometryCropsSpec)

/-- 'jalousielaw20.GeometryCovers', WHERE WHAT IT READS IS OF BULK AT MOST 1048576: true; the input reads as it did. -/
def geometryCoversUptoRow : OpenClaim := { program := "ytbcfhiohdamcjaa", sum := "7c8f850e017e171029937a93f2e52a803da041c5ebae7907bbb9e1d54635d5d6", func := "jalousie/jalousielaw20.GeometryCovers", spec := "geometryCovers", inPlace := ["slices.overlaps[jalousie/tree.Node]"], unfollowed := true, recurses := true, apart := false, narrowed := true }
def GeometryCoversUptoSaid : Prop := geometryCoversUptoRow.holds Try.pinned (OpenSpec.upto geometryCoversSpec)

end Rows
end Go.Proofs.Ytbcfhiohdamcjaa
