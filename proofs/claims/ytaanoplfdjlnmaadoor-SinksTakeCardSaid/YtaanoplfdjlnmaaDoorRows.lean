/-
  NARROWER THAN 'FOR EVERY INPUT', by the rows' own cells (each row's printed sentence says how): SinksTake: laid · SinksNobody: laid · SinksApart: laid · SinksBelow: laid · SinksKnown: laid.
  DERIVED. THE GIVEN ROWS OF THIS SEAT. 5 by the template 'for every input the law returns true; each argument reads behind the call as it read before'; 0 by the template 'total and deterministic' (their statements: YtaanoplfdjlnmaaDoorTotals.lean).
  GIVEN WITH THE SEED: the statements are not yours to turn. If you find one false, say at which input.
  Laid BY PROGRAM, IN A SANDBOX (cutbox-rows.mjs): the forced cells as the released guide's own fill.sh prints them over the translation 1d01179ddbb51137… (all of the seat's roots in one cut). By AI agents, Wed Nov 11 2026. No macro, syntax, notation, axiom, sorry.
-/
import Derived.Test.YtaanoplfdjlnmaaDoorChecked
import GoSem.Claim
import GoSem.ClaimJoined
import GoSem.ClaimMapViews
import Derived.JoinedTies
import Derived.KernelRfl
namespace Go.Proofs.YtaanoplfdjlnmaaDoor
/- THE CELL 'sum', in the pinned program and in every row, IS THE sha256 OF THE DUMP (.gsa) THAT YtaanoplfdjlnmaaDoorProg.lean LOADS. Nothing in Lean hashes anything: it is a label: what it is worth is what the hold of that sum in a sandbox is worth. -/
noncomputable def Tryd.pinned : Pinned := { name := "ytaanoplfdjlnmaadoor", sum := "1d01179ddbb51137a4cf8c8f6d0c86331eab119d45ecc34e3899e92fe0b9ff09", checked := Tryd.checked }
namespace Rows
def none {H : Type} : Left H := { results := [], args := [] }

/- WHAT THE LISTED PACKAGE-LEVEL VARIABLES READ AS WHEN THE CALL BEGINS. Each datum BY PROGRAM (the guide's laid-datum.mjs) off the statement by which the dump's own 'gosem.cut.vars' lays the variable. In a bare row this is a premise. The card (YtaanoplfdjlnmaaDoorCards.lean) ties it to the program's text. -/
def laid_math_bits_deBruijn64tab {H : Type} : DataW H := .agg [.lit (.int .u8 0), .lit (.int .u8 1), .lit (.int .u8 56), .lit (.int .u8 2), .lit (.int .u8 57), .lit (.int .u8 49), .lit (.int .u8 28), .lit (.int .u8 3), .lit (.int .u8 61), .lit (.int .u8 58), .lit (.int .u8 42), .lit (.int .u8 50), .lit (.int .u8 38), .lit (.int .u8 29), .lit (.int .u8 17), .lit (.int .u8 4), .lit (.int .u8 62), .lit (.int .u8 47), .lit (.int .u8 59), .lit (.int .u8 36), .lit (.int .u8 45), .lit (.int .u8 43), .lit (.int .u8 51), .lit (.int .u8 22), .lit (.int .u8 53), .lit (.int .u8 39), .lit (.int .u8 33), .lit (.int .u8 30), .lit (.int .u8 24), .lit (.int .u8 18), .lit (.int .u8 12), .lit (.int .u8 5), .lit (.int .u8 63), .lit (.int .u8 55), .lit (.int .u8 48), .lit (.int .u8 27), .lit (.int .u8 60), .lit (.int .u8 41), .lit (.int .u8 37), .lit (.int .u8 16), .lit (.int .u8 46), .lit (.int .u8 35), .lit (.int .u8 44), .lit (.int .u8 21), .lit (.int .u8 52), .lit (.int .u8 32), .lit (.int .u8 23), .lit (.int .u8 11), .lit (.int .u8 54), .lit (.int .u8 26), .lit (.int .u8 40), .lit (.int .u8 15), .lit (.int .u8 34), .lit (.int .u8 20), .lit (.int .u8 31), .lit (.int .u8 10), .lit (.int .u8 25), .lit (.int .u8 14), .lit (.int .u8 19), .lit (.int .u8 9), .lit (.int .u8 13), .lit (.int .u8 8), .lit (.int .u8 7), .lit (.int .u8 6)]

/-- 'jalousielaw24.SinksTake': WHATEVER THE INPUT: true; the input reads as it did. -/
def sinksTakeSpec : ChangeSpec := { name := "sinksTake", fn := fun _ => fun
  | [d1, d2, d3, d4] => { results := [.lit (.bool true)], args := [d1, d2, d3, d4] }
  | _ => none }
def sinksTakeRow : OpenClaim := { program := "ytaanoplfdjlnmaadoor", sum := "1d01179ddbb51137a4cf8c8f6d0c86331eab119d45ecc34e3899e92fe0b9ff09", func := "jalousie/jalousielaw24.SinksTake", spec := "sinksTake", named := ["math/bits.deBruijn64tab"], plainKeys := false, apart := false, laid := [("math/bits.deBruijn64tab", laid_math_bits_deBruijn64tab)] }
def SinksTakeSaid : Prop := sinksTakeRow.holds Tryd.pinned (OpenSpec.ofChange sinksTakeSpec)

/-- ITS FALSE NEIGHBOUR: 'it returns false'. Refute it at one input. -/
def sinksTakeWrong : ChangeSpec := { name := "sinksTake", fn := fun _ => fun
  | [d1, d2, d3, d4] => { results := [.lit (.bool false)], args := [d1, d2, d3, d4] }
  | _ => none }
def SinksTakeWrongFalsely : Prop := sinksTakeRow.holds Tryd.pinned (OpenSpec.ofChange sinksTakeWrong)

/-- 'jalousielaw24.SinksNobody': WHATEVER THE INPUT: true; the input reads as it did. -/
def sinksNobodySpec : ChangeSpec := { name := "sinksNobody", fn := fun _ => fun
  | [d1, d2, d3] => { results := [.lit (.bool true)], args := [d1, d2, d3] }
  | _ => none }
def sinksNobodyRow : OpenClaim := { program := "ytaanoplfdjlnmaadoor", sum := "1d01179ddbb51137a4cf8c8f6d0c86331eab119d45ecc34e3899e92fe0b9ff09", func := "jalousie/jalousielaw24.SinksNobody", spec := "sinksNobody", named := ["math/bits.deBruijn64tab"], plainKeys := false, apart := false, laid := [("math/bits.deBruijn64tab", laid_math_bits_deBruijn64tab)] }
def SinksNobodySaid : Prop := sinksNobodyRow.holds Tryd.pinned (OpenSpec.ofChange sinksNobodySpec)

/-- ITS FALSE NEIGHBOUR: 'it returns false'. Refute it at one input. -/
def sinksNobodyWrong : ChangeSpec := { name := "sinksNobody", fn := fun _ => fun
  | [d1, d2, d3] => { results := [.lit (.bool false)], args := [d1, d2, d3] }
  | _ => none }
def SinksNobodyWrongFalsely : Prop := sinksNobodyRow.holds Tryd.pinned (OpenSpec.ofChange sinksNobodyWrong)

/-- 'jalousielaw24.SinksApart': WHATEVER THE INPUT: true; the input reads as it did. -/
def sinksApartSpec : ChangeSpec := { name := "sinksApart", fn := fun _ => fun
  | [d1, d2, d3, d4, d5] => { results := [.lit (.bool true)], args := [d1, d2, d3, d4, d5] }
  | _ => none }
def sinksApartRow : OpenClaim := { program := "ytaanoplfdjlnmaadoor", sum := "1d01179ddbb51137a4cf8c8f6d0c86331eab119d45ecc34e3899e92fe0b9ff09", func := "jalousie/jalousielaw24.SinksApart", spec := "sinksApart", named := ["math/bits.deBruijn64tab"], plainKeys := false, apart := false, laid := [("math/bits.deBruijn64tab", laid_math_bits_deBruijn64tab)] }
def SinksApartSaid : Prop := sinksApartRow.holds Tryd.pinned (OpenSpec.ofChange sinksApartSpec)

/-- ITS FALSE NEIGHBOUR: 'it returns false'. Refute it at one input. -/
def sinksApartWrong : ChangeSpec := { name := "sinksApart", fn := fun _ => fun
  | [d1, d2, d3, d4, d5] => { results := [.lit (.bool false)], args := [d1, d2, d3, d4, d5] }
  | _ => none }
def SinksApartWrongFalsely : Prop := sinksApartRow.holds Tryd.pinned (OpenSpec.ofChange sinksApartWrong)

/-- 'jalousielaw24.SinksBelow': WHATEVER THE INPUT: true; the input reads as it did. -/
def sinksBelowSpec : ChangeSpec := { name := "sinksBelow", fn := fun _ => fun
  | [d1, d2, d3, d4, d5] => { results := [.lit (.bool true)], args := [d1, d2, d3, d4, d5] }
  | _ => none }
def sinksBelowRow : OpenClaim := { program := "ytaanoplfdjlnmaadoor", sum := "1d01179ddbb51137a4cf8c8f6d0c86331eab119d45ecc34e3899e92fe0b9ff09", func := "jalousie/jalousielaw24.SinksBelow", spec := "sinksBelow", named := ["math/bits.deBruijn64tab"], plainKeys := false, apart := false, laid := [("math/bits.deBruijn64tab", laid_math_bits_deBruijn64tab)] }
def SinksBelowSaid : Prop := sinksBelowRow.holds Tryd.pinned (OpenSpec.ofChange sinksBelowSpec)

/-- ITS FALSE NEIGHBOUR: 'it returns false'. Refute it at one input. -/
def sinksBelowWrong : ChangeSpec := { name := "sinksBelow", fn := fun _ => fun
  | [d1, d2, d3, d4, d5] => { results := [.lit (.bool false)], args := [d1, d2, d3, d4, d5] }
  | _ => none }
def SinksBelowWrongFalsely : Prop := sinksBelowRow.holds Tryd.pinned (OpenSpec.ofChange sinksBelowWrong)

/-- 'jalousielaw24.SinksKnown': WHATEVER THE INPUT: true; the input reads as it did. -/
def sinksKnownSpec : ChangeSpec := { name := "sinksKnown", fn := fun _ => fun
  | [] => { results := [.lit (.bool true)], args := [] }
  | _ => none }
def sinksKnownRow : OpenClaim := { program := "ytaanoplfdjlnmaadoor", sum := "1d01179ddbb51137a4cf8c8f6d0c86331eab119d45ecc34e3899e92fe0b9ff09", func := "jalousie/jalousielaw24.SinksKnown", spec := "sinksKnown", named := ["math/bits.deBruijn64tab"], plainKeys := false, apart := false, laid := [("math/bits.deBruijn64tab", laid_math_bits_deBruijn64tab)] }
def SinksKnownSaid : Prop := sinksKnownRow.holds Tryd.pinned (OpenSpec.ofChange sinksKnownSpec)

/-- ITS FALSE NEIGHBOUR: 'it returns false'. Refute it at one input. -/
def sinksKnownWrong : ChangeSpec := { name := "sinksKnown", fn := fun _ => fun
  | [] => { results := [.lit (.bool false)], args := [] }
  | _ => none }
def SinksKnownWrongFalsely : Prop := sinksKnownRow.holds Tryd.pinned (OpenSpec.ofChange sinksKnownWrong)

/- THE SECOND FORM. 'bulk': how many values and letters a reading holds, each counted each time it is reached (what is shared counts as often as it is met; a slice's spare places count too). A statement '..UptoSaid' is the law's where the arguments, and the package variables that the reading takes, are together of bulk at most 1048576: NARROWER than '..Said'. Prove '..Said' where nothing that the law and all that it calls make is longer than what came in: it says more and counts as full. Else prove '..UptoSaid'. A law counts once. -/
mutual
def uptoBulk {H : Type} : DataW H → Nat
  | .lit (.string bytes) => bytes.length + 1
  | .lit _ => 1
  | .nil => 1
  | .ptr d => uptoBulk d + 1
  | .slice elems spare => uptoBulkAll elems + uptoBulkAll spare + 1
  | .agg parts => uptoBulkAll parts + 1
  | .iface _ d => uptoBulk d + 1
  | .map entries => uptoBulkEntries entries + 1
  | .held _ => 1
def uptoBulkAll {H : Type} : List (DataW H) → Nat
  | [] => 0
  | d :: r => uptoBulk d + uptoBulkAll r
def uptoBulkEntries {H : Type} : List (Lit × DataW H) → Nat
  | [] => 0
  | x :: r => uptoBulkEntry x + uptoBulkEntries r
def uptoBulkEntry {H : Type} : Lit × DataW H → Nat
  | (.string bytes, d) => bytes.length + uptoBulk d + 1
  | (_, d) => uptoBulk d + 1
 end
def uptoSmall : (H : Type) → List (DataW H) → Bool := fun _ ds => decide (uptoBulkAll ds ≤ 1048576)
def OpenSpec.upto (s : _root_.Go.ChangeSpec) : _root_.Go.OpenSpec := { _root_.Go.OpenSpec.ofChange s with cond := some uptoSmall }

/-- 'jalousielaw24.SinksTake', WHERE WHAT IT READS IS OF BULK AT MOST 1048576: true; the input reads as it did. -/
def sinksTakeUptoRow : OpenClaim := { program := "ytaanoplfdjlnmaadoor", sum := "1d01179ddbb51137a4cf8c8f6d0c86331eab119d45ecc34e3899e92fe0b9ff09", func := "jalousie/jalousielaw24.SinksTake", spec := "sinksTake", named := ["math/bits.deBruijn64tab"], plainKeys := false, apart := false, laid := [("math/bits.deBruijn64tab", laid_math_bits_deBruijn64tab)], narrowed := true }
def SinksTakeUptoSaid : Prop := sinksTakeUptoRow.holds Tryd.pinned (OpenSpec.upto sinksTakeSpec)

/-- 'jalousielaw24.SinksNobody', WHERE WHAT IT READS IS OF BULK AT MOST 1048576: true; the input reads as it did. -/
def sinksNobodyUptoRow : OpenClaim := { program := "ytaanoplfdjlnmaadoor", sum := "1d01179ddbb51137a4cf8c8f6d0c86331eab119d45ecc34e3899e92fe0b9ff09", func := "jalousie/jalousielaw24.SinksNobody", spec := "sinksNobody", named := ["math/bits.deBruijn64tab"], plainKeys := false, apart := false, laid := [("math/bits.deBruijn64tab", laid_math_bits_deBruijn64tab)], narrowed := true }
def SinksNobodyUptoSaid : Prop := sinksNobodyUptoRow.holds Tryd.pinned (OpenSpec.upto sinksNobodySpec)

/-- 'jalousielaw24.SinksApart', WHERE WHAT IT READS IS OF BULK AT MOST 1048576: true; the input reads as it did. -/
def sinksApartUptoRow : OpenClaim := { program := "ytaanoplfdjlnmaadoor", sum := "1d01179ddbb51137a4cf8c8f6d0c86331eab119d45ecc34e3899e92fe0b9ff09", func := "jalousie/jalousielaw24.SinksApart", spec := "sinksApart", named := ["math/bits.deBruijn64tab"], plainKeys := false, apart := false, laid := [("math/bits.deBruijn64tab", laid_math_bits_deBruijn64tab)], narrowed := true }
def SinksApartUptoSaid : Prop := sinksApartUptoRow.holds Tryd.pinned (OpenSpec.upto sinksApartSpec)

/-- 'jalousielaw24.SinksBelow', WHERE WHAT IT READS IS OF BULK AT MOST 1048576: true; the input reads as it did. -/
def sinksBelowUptoRow : OpenClaim := { program := "ytaanoplfdjlnmaadoor", sum := "1d01179ddbb51137a4cf8c8f6d0c86331eab119d45ecc34e3899e92fe0b9ff09", func := "jalousie/jalousielaw24.SinksBelow", spec := "sinksBelow", named := ["math/bits.deBruijn64tab"], plainKeys := false, apart := false, laid := [("math/bits.deBruijn64tab", laid_math_bits_deBruijn64tab)], narrowed := true }
def SinksBelowUptoSaid : Prop := sinksBelowUptoRow.holds Tryd.pinned (OpenSpec.upto sinksBelowSpec)

/-- 'jalousielaw24.SinksKnown', WHERE WHAT IT READS IS OF BULK AT MOST 1048576: true; the input reads as it did. -/
def sinksKnownUptoRow : OpenClaim := { program := "ytaanoplfdjlnmaadoor", sum := "1d01179ddbb51137a4cf8c8f6d0c86331eab119d45ecc34e3899e92fe0b9ff09", func := "jalousie/jalousielaw24.SinksKnown", spec := "sinksKnown", named := ["math/bits.deBruijn64tab"], plainKeys := false, apart := false, laid := [("math/bits.deBruijn64tab", laid_math_bits_deBruijn64tab)], narrowed := true }
def SinksKnownUptoSaid : Prop := sinksKnownUptoRow.holds Tryd.pinned (OpenSpec.upto sinksKnownSpec)

end Rows
end Go.Proofs.YtaanoplfdjlnmaaDoor
