/-
  DERIVED. GIVEN WITH THE SEED: THE CARDS: each row of YtaanoplfdjlnmaaDoorRows.lean that lists a variable, with what it lists TIED to the program's text (the seventh form; the later family's looks); each row that meets fmt, with fmt's text TOLD by the authors' own Lean function (tested against real Go, not proved from fmt's source: count such statements apart). THE CARD IS WHAT COUNTS. Prove the row's statement (the work); the ties are given (YtaanoplfdjlnmaaDoorTie.lean); close each card by the builder's one call (the guide's Derived/Test/ToyasCard.lean, 'card_holds'). Laid BY PROGRAM, IN A SANDBOX (cutbox-door.mjs). By AI agents, Wed Nov 11 2026. No macro, syntax, notation, axiom, sorry.
-/
import Derived.Test.YtaanoplfdjlnmaaDoorRows
import GoSem.ClaimSeven
namespace Go.Proofs.YtaanoplfdjlnmaaDoor
namespace Rows

/-- THE TIED CARD OF 'jalousielaw24.SinksTake'. -/
def sinksTakeCard : Claim7 := { stood := { row := sinksTakeRow, standIns := [], harness := (true, "134f17a01834169e5d448200146fbc0c96d9493336a68a36b258f145e32591e0"), looks := false }, kinds := [], alts := [], laidByText := true, laidKinds := [.data], laidTests := true, laidLooks := .later }
def SinksTakeCardSaid : Prop := Claim7.holds Tryd.pinned (.plain (OpenSpec.ofChange sinksTakeSpec)) sinksTakeCard

/-- THE TIED CARD OF 'jalousielaw24.SinksNobody'. -/
def sinksNobodyCard : Claim7 := { stood := { row := sinksNobodyRow, standIns := [], harness := (true, "134f17a01834169e5d448200146fbc0c96d9493336a68a36b258f145e32591e0"), looks := false }, kinds := [], alts := [], laidByText := true, laidKinds := [.data], laidTests := true, laidLooks := .later }
def SinksNobodyCardSaid : Prop := Claim7.holds Tryd.pinned (.plain (OpenSpec.ofChange sinksNobodySpec)) sinksNobodyCard

/-- THE TIED CARD OF 'jalousielaw24.SinksApart'. -/
def sinksApartCard : Claim7 := { stood := { row := sinksApartRow, standIns := [], harness := (true, "134f17a01834169e5d448200146fbc0c96d9493336a68a36b258f145e32591e0"), looks := false }, kinds := [], alts := [], laidByText := true, laidKinds := [.data], laidTests := true, laidLooks := .later }
def SinksApartCardSaid : Prop := Claim7.holds Tryd.pinned (.plain (OpenSpec.ofChange sinksApartSpec)) sinksApartCard

/-- THE TIED CARD OF 'jalousielaw24.SinksBelow'. -/
def sinksBelowCard : Claim7 := { stood := { row := sinksBelowRow, standIns := [], harness := (true, "134f17a01834169e5d448200146fbc0c96d9493336a68a36b258f145e32591e0"), looks := false }, kinds := [], alts := [], laidByText := true, laidKinds := [.data], laidTests := true, laidLooks := .later }
def SinksBelowCardSaid : Prop := Claim7.holds Tryd.pinned (.plain (OpenSpec.ofChange sinksBelowSpec)) sinksBelowCard

/-- THE TIED CARD OF 'jalousielaw24.SinksKnown'. -/
def sinksKnownCard : Claim7 := { stood := { row := sinksKnownRow, standIns := [], harness := (true, "134f17a01834169e5d448200146fbc0c96d9493336a68a36b258f145e32591e0"), looks := false }, kinds := [], alts := [], laidByText := true, laidKinds := [.data], laidTests := true, laidLooks := .later }
def SinksKnownCardSaid : Prop := Claim7.holds Tryd.pinned (.plain (OpenSpec.ofChange sinksKnownSpec)) sinksKnownCard

/-- THE SECOND FORM's CARD OF 'jalousielaw24.SinksTake'. -/
def sinksTakeUptoCard : Claim7 := { stood := { row := sinksTakeUptoRow, standIns := [], harness := (true, "134f17a01834169e5d448200146fbc0c96d9493336a68a36b258f145e32591e0"), looks := false }, kinds := [], alts := [], laidByText := true, laidKinds := [.data], laidTests := true, laidLooks := .later }
def SinksTakeUptoCardSaid : Prop := Claim7.holds Tryd.pinned (.plain (OpenSpec.upto sinksTakeSpec)) sinksTakeUptoCard

/-- THE SECOND FORM's CARD OF 'jalousielaw24.SinksNobody'. -/
def sinksNobodyUptoCard : Claim7 := { stood := { row := sinksNobodyUptoRow, standIns := [], harness := (true, "134f17a01834169e5d448200146fbc0c96d9493336a68a36b258f145e32591e0"), looks := false }, kinds := [], alts := [], laidByText := true, laidKinds := [.data], laidTests := true, laidLooks := .later }
def SinksNobodyUptoCardSaid : Prop := Claim7.holds Tryd.pinned (.plain (OpenSpec.upto sinksNobodySpec)) sinksNobodyUptoCard

/-- THE SECOND FORM's CARD OF 'jalousielaw24.SinksApart'. -/
def sinksApartUptoCard : Claim7 := { stood := { row := sinksApartUptoRow, standIns := [], harness := (true, "134f17a01834169e5d448200146fbc0c96d9493336a68a36b258f145e32591e0"), looks := false }, kinds := [], alts := [], laidByText := true, laidKinds := [.data], laidTests := true, laidLooks := .later }
def SinksApartUptoCardSaid : Prop := Claim7.holds Tryd.pinned (.plain (OpenSpec.upto sinksApartSpec)) sinksApartUptoCard

/-- THE SECOND FORM's CARD OF 'jalousielaw24.SinksBelow'. -/
def sinksBelowUptoCard : Claim7 := { stood := { row := sinksBelowUptoRow, standIns := [], harness := (true, "134f17a01834169e5d448200146fbc0c96d9493336a68a36b258f145e32591e0"), looks := false }, kinds := [], alts := [], laidByText := true, laidKinds := [.data], laidTests := true, laidLooks := .later }
def SinksBelowUptoCardSaid : Prop := Claim7.holds Tryd.pinned (.plain (OpenSpec.upto sinksBelowSpec)) sinksBelowUptoCard

/-- THE SECOND FORM's CARD OF 'jalousielaw24.SinksKnown'. -/
def sinksKnownUptoCard : Claim7 := { stood := { row := sinksKnownUptoRow, standIns := [], harness := (true, "134f17a01834169e5d448200146fbc0c96d9493336a68a36b258f145e32591e0"), looks := false }, kinds := [], alts := [], laidByText := true, laidKinds := [.data], laidTests := true, laidLooks := .later }
def SinksKnownUptoCardSaid : Prop := Claim7.holds Tryd.pinned (.plain (OpenSpec.upto sinksKnownSpec)) sinksKnownUptoCard
end Rows
end Go.Proofs.YtaanoplfdjlnmaaDoor
