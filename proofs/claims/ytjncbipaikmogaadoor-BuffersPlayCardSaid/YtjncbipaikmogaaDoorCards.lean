/-
  DERIVED. GIVEN WITH THE SEED: THE CARDS: each row of YtjncbipaikmogaaDoorRows.lean that lists a variable, with what it lists TIED to the program's text (the seventh form; the later family's looks); each row that meets fmt, with fmt's text TOLD by the authors' own Lean function (tested against real Go, not proved from fmt's source: count such statements apart). THE CARD IS WHAT COUNTS. Prove the row's statement (the work); the ties are given (YtjncbipaikmogaaDoorTie.lean); close each card by the builder's one call (the guide's Derived/Test/ToyasCard.lean, 'card_holds'). Laid BY PROGRAM, IN A SANDBOX (cutbox-door.mjs). By AI agents, Wed Nov 11 2026. No macro, syntax, notation, axiom, sorry.
-/
import Derived.Test.YtjncbipaikmogaaDoorRows
import GoSem.ClaimSeven
namespace Go.Proofs.YtjncbipaikmogaaDoor
namespace Rows

/-- THE TIED CARD OF 'jalousielaw22.BuffersPlay'. -/
def buffersPlayCard : Claim7 := { stood := { row := buffersPlayRow, standIns := [], harness := (true, "488799cb637a9a2e88b38395a2ce860b151ff459a69e00db57b4c334213e20fb"), looks := false }, kinds := [], alts := [], laidByText := true, laidKinds := [.data], laidTests := true, laidLooks := .later }
def BuffersPlayCardSaid : Prop := Claim7.holds Tryd.pinned (.plain (OpenSpec.ofChange buffersPlaySpec)) buffersPlayCard

/-- THE TIED CARD OF 'jalousielaw22.BuffersApart'. -/
def buffersApartCard : Claim7 := { stood := { row := buffersApartRow, standIns := [], harness := (true, "488799cb637a9a2e88b38395a2ce860b151ff459a69e00db57b4c334213e20fb"), looks := false }, kinds := [], alts := [], laidByText := true, laidKinds := [.data], laidTests := true, laidLooks := .later }
def BuffersApartCardSaid : Prop := Claim7.holds Tryd.pinned (.plain (OpenSpec.ofChange buffersApartSpec)) buffersApartCard

/-- THE TIED CARD OF 'jalousielaw22.BuffersKnown'. -/
def buffersKnownCard : Claim7 := { stood := { row := buffersKnownRow, standIns := [], harness := (true, "488799cb637a9a2e88b38395a2ce860b151ff459a69e00db57b4c334213e20fb"), looks := false }, kinds := [], alts := [], laidByText := true, laidKinds := [.data], laidTests := true, laidLooks := .later }
def BuffersKnownCardSaid : Prop := Claim7.holds Tryd.pinned (.plain (OpenSpec.ofChange buffersKnownSpec)) buffersKnownCard

/-- THE SECOND FORM's CARD OF 'jalousielaw22.BuffersPlay'. -/
def buffersPlayUptoCard : Claim7 := { stood := { row := buffersPlayUptoRow, standIns := [], harness := (true, "488799cb637a9a2e88b38395a2ce860b151ff459a69e00db57b4c334213e20fb"), looks := false }, kinds := [], alts := [], laidByText := true, laidKinds := [.data], laidTests := true, laidLooks := .later }
def BuffersPlayUptoCardSaid : Prop := Claim7.holds Tryd.pinned (.plain (OpenSpec.upto buffersPlaySpec)) buffersPlayUptoCard

/-- THE SECOND FORM's CARD OF 'jalousielaw22.BuffersApart'. -/
def buffersApartUptoCard : Claim7 := { stood := { row := buffersApartUptoRow, standIns := [], harness := (true, "488799cb637a9a2e88b38395a2ce860b151ff459a69e00db57b4c334213e20fb"), looks := false }, kinds := [], alts := [], laidByText := true, laidKinds := [.data], laidTests := true, laidLooks := .later }
def BuffersApartUptoCardSaid : Prop := Claim7.holds Tryd.pinned (.plain (OpenSpec.upto buffersApartSpec)) buffersApartUptoCard

/-- THE SECOND FORM's CARD OF 'jalousielaw22.BuffersKnown'. -/
def buffersKnownUptoCard : Claim7 := { stood := { row := buffersKnownUptoRow, standIns := [], harness := (true, "488799cb637a9a2e88b38395a2ce860b151ff459a69e00db57b4c334213e20fb"), looks := false }, kinds := [], alts := [], laidByText := true, laidKinds := [.data], laidTests := true, laidLooks := .later }
def BuffersKnownUptoCardSaid : Prop := Claim7.holds Tryd.pinned (.plain (OpenSpec.upto buffersKnownSpec)) buffersKnownUptoCard
end Rows
end Go.Proofs.YtjncbipaikmogaaDoor
