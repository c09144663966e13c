/-
  DERIVED. GIVEN WITH THE SEED: THE CARDS: each row of YthcpfmibcoeleaaDoorRows.lean that lists a variable, with what it lists TIED to the program's text (the seventh form; the later family's looks); each row that meets fmt, with fmt's text TOLD by the authors' own Lean function (tested against real Go, not proved from fmt's source: count such statements apart). THE CARD IS WHAT COUNTS. Prove the row's statement (the work); the ties are given (YthcpfmibcoeleaaDoorTie.lean); close each card by the builder's one call (the guide's Derived/Test/ToyasCard.lean, 'card_holds'). Laid BY PROGRAM, IN A SANDBOX (cutbox-door.mjs). By AI agents, Wed Nov 11 2026. No macro, syntax, notation, axiom, sorry.
-/
import Derived.Test.YthcpfmibcoeleaaDoorRows
import GoSem.ClaimSeven
namespace Go.Proofs.YthcpfmibcoeleaaDoor
namespace Rows

/-- THE TIED CARD OF 'jalousielaw29.CommandReads'. -/
def commandReadsCard : Claim7 := { stood := { row := commandReadsRow, standIns := [], harness := (true, "87a9bc823b2a1956da2c004620c609ab15d10daacb2ce584ffc9840ee58a7e04"), looks := true }, kinds := [], alts := [], laidByText := true, laidKinds := [.data, .data, .data, .data, .sentinel, .sentinel, .pinned], laidTests := true, laidLooks := .later }
def CommandReadsCardSaid : Prop := Claim7.holds Tryd.pinned (.plain (OpenSpec.ofChange commandReadsSpec)) commandReadsCard

/-- THE TIED CARD OF 'jalousielaw29.CommandWrites'. -/
def commandWritesCard : Claim7 := { stood := { row := commandWritesRow, standIns := [], harness := (true, "87a9bc823b2a1956da2c004620c609ab15d10daacb2ce584ffc9840ee58a7e04"), looks := true }, kinds := [], alts := [], laidByText := true, laidKinds := [.data, .data, .data, .data, .sentinel, .sentinel, .pinned], laidTests := true, laidLooks := .later }
def CommandWritesCardSaid : Prop := Claim7.holds Tryd.pinned (.plain (OpenSpec.ofChange commandWritesSpec)) commandWritesCard

/-- THE TIED CARD OF 'jalousielaw29.CommandBack'. -/
def commandBackCard : Claim7 := { stood := { row := commandBackRow, standIns := [], harness := (true, "87a9bc823b2a1956da2c004620c609ab15d10daacb2ce584ffc9840ee58a7e04"), looks := true }, kinds := [], alts := [], laidByText := true, laidKinds := [.data, .data, .data, .data, .sentinel, .sentinel, .pinned], laidTests := true, laidLooks := .later }
def CommandBackCardSaid : Prop := Claim7.holds Tryd.pinned (.plain (OpenSpec.ofChange commandBackSpec)) commandBackCard

/-- THE TIED CARD OF 'jalousielaw29.CommandOrder'. -/
def commandOrderCard : Claim7 := { stood := { row := commandOrderRow, standIns := [], harness := (true, "87a9bc823b2a1956da2c004620c609ab15d10daacb2ce584ffc9840ee58a7e04"), looks := true }, kinds := [], alts := [], laidByText := true, laidKinds := [.data, .data, .data, .data, .sentinel, .sentinel, .pinned], laidTests := true, laidLooks := .later }
def CommandOrderCardSaid : Prop := Claim7.holds Tryd.pinned (.plain (OpenSpec.ofChange commandOrderSpec)) commandOrderCard

/-- THE TIED CARD OF 'jalousielaw29.CommandNames'. -/
def commandNamesCard : Claim7 := { stood := { row := commandNamesRow, standIns := [], harness := (true, "87a9bc823b2a1956da2c004620c609ab15d10daacb2ce584ffc9840ee58a7e04"), looks := true }, kinds := [], alts := [], laidByText := true, laidKinds := [.data, .data, .data, .data, .sentinel, .sentinel, .pinned], laidTests := true, laidLooks := .later }
def CommandNamesCardSaid : Prop := Claim7.holds Tryd.pinned (.plain (OpenSpec.ofChange commandNamesSpec)) commandNamesCard

/-- THE TIED CARD OF 'jalousielaw29.CommandKnown'. -/
def commandKnownCard : Claim7 := { stood := { row := commandKnownRow, standIns := [], harness := (true, "87a9bc823b2a1956da2c004620c609ab15d10daacb2ce584ffc9840ee58a7e04"), looks := true }, kinds := [], alts := [], laidByText := true, laidKinds := [.data, .data, .data, .data, .sentinel, .sentinel, .pinned], laidTests := true, laidLooks := .later }
def CommandKnownCardSaid : Prop := Claim7.holds Tryd.pinned (.plain (OpenSpec.ofChange commandKnownSpec)) commandKnownCard

/-- THE SECOND FORM's CARD OF 'jalousielaw29.CommandReads'. -/
def commandReadsUptoCard : Claim7 := { stood := { row := commandReadsUptoRow, standIns := [], harness := (true, "87a9bc823b2a1956da2c004620c609ab15d10daacb2ce584ffc9840ee58a7e04"), looks := true }, kinds := [], alts := [], laidByText := true, laidKinds := [.data, .data, .data, .data, .sentinel, .sentinel, .pinned], laidTests := true, laidLooks := .later }
def CommandReadsUptoCardSaid : Prop := Claim7.holds Tryd.pinned (.plain (OpenSpec.upto commandReadsSpec)) commandReadsUptoCard

/-- THE SECOND FORM's CARD OF 'jalousielaw29.CommandWrites'. -/
def commandWritesUptoCard : Claim7 := { stood := { row := commandWritesUptoRow, standIns := [], harness := (true, "87a9bc823b2a1956da2c004620c609ab15d10daacb2ce584ffc9840ee58a7e04"), looks := true }, kinds := [], alts := [], laidByText := true, laidKinds := [.data, .data, .data, .data, .sentinel, .sentinel, .pinned], laidTests := true, laidLooks := .later }
def CommandWritesUptoCardSaid : Prop := Claim7.holds Tryd.pinned (.plain (OpenSpec.upto commandWritesSpec)) commandWritesUptoCard

/-- THE SECOND FORM's CARD OF 'jalousielaw29.CommandBack'. -/
def commandBackUptoCard : Claim7 := { stood := { row := commandBackUptoRow, standIns := [], harness := (true, "87a9bc823b2a1956da2c004620c609ab15d10daacb2ce584ffc9840ee58a7e04"), looks := true }, kinds := [], alts := [], laidByText := true, laidKinds := [.data, .data, .data, .data, .sentinel, .sentinel, .pinned], laidTests := true, laidLooks := .later }
def CommandBackUptoCardSaid : Prop := Claim7.holds Tryd.pinned (.plain (OpenSpec.upto commandBackSpec)) commandBackUptoCard

/-- THE SECOND FORM's CARD OF 'jalousielaw29.CommandOrder'. -/
def commandOrderUptoCard : Claim7 := { stood := { row := commandOrderUptoRow, standIns := [], harness := (true, "87a9bc823b2a1956da2c004620c609ab15d10daacb2ce584ffc9840ee58a7e04"), looks := true }, kinds := [], alts := [], laidByText := true, laidKinds := [.data, .data, .data, .data, .sentinel, .sentinel, .pinned], laidTests := true, laidLooks := .later }
def CommandOrderUptoCardSaid : Prop := Claim7.holds Tryd.pinned (.plain (OpenSpec.upto commandOrderSpec)) commandOrderUptoCard

/-- THE SECOND FORM's CARD OF 'jalousielaw29.CommandNames'. -/
def commandNamesUptoCard : Claim7 := { stood := { row := commandNamesUptoRow, standIns := [], harness := (true, "87a9bc823b2a1956da2c004620c609ab15d10daacb2ce584ffc9840ee58a7e04"), looks := true }, kinds := [], alts := [], laidByText := true, laidKinds := [.data, .data, .data, .data, .sentinel, .sentinel, .pinned], laidTests := true, laidLooks := .later }
def CommandNamesUptoCardSaid : Prop := Claim7.holds Tryd.pinned (.plain (OpenSpec.upto commandNamesSpec)) commandNamesUptoCard

/-- THE SECOND FORM's CARD OF 'jalousielaw29.CommandKnown'. -/
def commandKnownUptoCard : Claim7 := { stood := { row := commandKnownUptoRow, standIns := [], harness := (true, "87a9bc823b2a1956da2c004620c609ab15d10daacb2ce584ffc9840ee58a7e04"), looks := true }, kinds := [], alts := [], laidByText := true, laidKinds := [.data, .data, .data, .data, .sentinel, .sentinel, .pinned], laidTests := true, laidLooks := .later }
def CommandKnownUptoCardSaid : Prop := Claim7.holds Tryd.pinned (.plain (OpenSpec.upto commandKnownSpec)) commandKnownUptoCard
end Rows
end Go.Proofs.YthcpfmibcoeleaaDoor
