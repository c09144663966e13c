/-
  DERIVED. GIVEN WITH THE SEED: THE CARDS: each row of YtjglohfkpigdfaaDoorRows.lean that lists a variable, with what it lists TIED to the program's text (the seventh form; the later family's looks); each row that meets fmt, with fmt's text TOLD by the authors' own Lean function (tested against real Go, not proved from fmt's source: count such statements apart). THE CARD IS WHAT COUNTS. Prove the row's statement (the work); the ties are given (YtjglohfkpigdfaaDoorTie.lean); close each card by the builder's one call (the guide's Derived/Test/ToyasCard.lean, 'card_holds'). Laid BY PROGRAM, IN A SANDBOX (cutbox-door.mjs). By AI agents, Wed Nov 11 2026. No macro, syntax, notation, axiom, sorry.
-/
import Derived.Test.YtjglohfkpigdfaaDoorRows
import GoSem.ClaimSeven
namespace Go.Proofs.YtjglohfkpigdfaaDoor
namespace Rows

/-- THE TIED CARD OF 'jalousielaw01.LatticeKnown'. -/
def latticeKnownCard : Claim7 := { stood := { row := latticeKnownRow, standIns := [], harness := (true, "26f3d5773c954fcfc236646370bd453a2533a2b80ffb265d21b41254b8efa9fd"), looks := false }, kinds := [], alts := [], laidByText := true, laidKinds := [.data], laidTests := true, laidLooks := .later }
def LatticeKnownCardSaid : Prop := Claim7.holds Tryd.pinned (.plain (OpenSpec.ofChange latticeKnownSpec)) latticeKnownCard

/-- THE TIED CARD OF 'jalousielaw01.LatticeTells'. -/
def latticeTellsCard : Claim7 := { stood := { row := latticeTellsRow, standIns := [], harness := (true, "26f3d5773c954fcfc236646370bd453a2533a2b80ffb265d21b41254b8efa9fd"), looks := false }, kinds := [], alts := [], laidByText := true, laidKinds := [.data], laidTests := true, laidLooks := .later }
def LatticeTellsCardSaid : Prop := Claim7.holds Tryd.pinned (.plain (OpenSpec.ofChange latticeTellsSpec)) latticeTellsCard

/-- THE TIED CARD OF 'jalousielaw01.LatticeRanks'. -/
def latticeRanksCard : Claim7 := { stood := { row := latticeRanksRow, standIns := [], harness := (true, "26f3d5773c954fcfc236646370bd453a2533a2b80ffb265d21b41254b8efa9fd"), looks := false }, kinds := [], alts := [], laidByText := true, laidKinds := [.data], laidTests := true, laidLooks := .later }
def LatticeRanksCardSaid : Prop := Claim7.holds Tryd.pinned (.plain (OpenSpec.ofChange latticeRanksSpec)) latticeRanksCard

/-- THE TIED CARD OF 'jalousielaw01.LatticeNobody'. -/
def latticeNobodyCard : Claim7 := { stood := { row := latticeNobodyRow, standIns := [], harness := (true, "26f3d5773c954fcfc236646370bd453a2533a2b80ffb265d21b41254b8efa9fd"), looks := false }, kinds := [], alts := [], laidByText := true, laidKinds := [.data], laidTests := true, laidLooks := .later }
def LatticeNobodyCardSaid : Prop := Claim7.holds Tryd.pinned (.plain (OpenSpec.ofChange latticeNobodySpec)) latticeNobodyCard

/-- THE TIED CARD OF 'jalousielaw01.LatticeLaws'. -/
def latticeLawsCard : Claim7 := { stood := { row := latticeLawsRow, standIns := [], harness := (true, "26f3d5773c954fcfc236646370bd453a2533a2b80ffb265d21b41254b8efa9fd"), looks := false }, kinds := [], alts := [], laidByText := true, laidKinds := [.data], laidTests := true, laidLooks := .later }
def LatticeLawsCardSaid : Prop := Claim7.holds Tryd.pinned (.plain (OpenSpec.ofChange latticeLawsSpec)) latticeLawsCard

/-- THE TIED CARD OF 'jalousielaw01.LatticeTurned'. -/
def latticeTurnedCard : Claim7 := { stood := { row := latticeTurnedRow, standIns := [], harness := (true, "26f3d5773c954fcfc236646370bd453a2533a2b80ffb265d21b41254b8efa9fd"), looks := false }, kinds := [], alts := [], laidByText := true, laidKinds := [.data], laidTests := true, laidLooks := .later }
def LatticeTurnedCardSaid : Prop := Claim7.holds Tryd.pinned (.plain (OpenSpec.ofChange latticeTurnedSpec)) latticeTurnedCard

/-- THE SECOND FORM's CARD OF 'jalousielaw01.LatticeKnown'. -/
def latticeKnownUptoCard : Claim7 := { stood := { row := latticeKnownUptoRow, standIns := [], harness := (true, "26f3d5773c954fcfc236646370bd453a2533a2b80ffb265d21b41254b8efa9fd"), looks := false }, kinds := [], alts := [], laidByText := true, laidKinds := [.data], laidTests := true, laidLooks := .later }
def LatticeKnownUptoCardSaid : Prop := Claim7.holds Tryd.pinned (.plain (OpenSpec.upto latticeKnownSpec)) latticeKnownUptoCard

/-- THE SECOND FORM's CARD OF 'jalousielaw01.LatticeTells'. -/
def latticeTellsUptoCard : Claim7 := { stood := { row := latticeTellsUptoRow, standIns := [], harness := (true, "26f3d5773c954fcfc236646370bd453a2533a2b80ffb265d21b41254b8efa9fd"), looks := false }, kinds := [], alts := [], laidByText := true, laidKinds := [.data], laidTests := true, laidLooks := .later }
def LatticeTellsUptoCardSaid : Prop := Claim7.holds Tryd.pinned (.plain (OpenSpec.upto latticeTellsSpec)) latticeTellsUptoCard

/-- THE SECOND FORM's CARD OF 'jalousielaw01.LatticeRanks'. -/
def latticeRanksUptoCard : Claim7 := { stood := { row := latticeRanksUptoRow, standIns := [], harness := (true, "26f3d5773c954fcfc236646370bd453a2533a2b80ffb265d21b41254b8efa9fd"), looks := false }, kinds := [], alts := [], laidByText := true, laidKinds := [.data], laidTests := true, laidLooks := .later }
def LatticeRanksUptoCardSaid : Prop := Claim7.holds Tryd.pinned (.plain (OpenSpec.upto latticeRanksSpec)) latticeRanksUptoCard

/-- THE SECOND FORM's CARD OF 'jalousielaw01.LatticeNobody'. -/
def latticeNobodyUptoCard : Claim7 := { stood := { row := latticeNobodyUptoRow, standIns := [], harness := (true, "26f3d5773c954fcfc236646370bd453a2533a2b80ffb265d21b41254b8efa9fd"), looks := false }, kinds := [], alts := [], laidByText := true, laidKinds := [.data], laidTests := true, laidLooks := .later }
def LatticeNobodyUptoCardSaid : Prop := Claim7.holds Tryd.pinned (.plain (OpenSpec.upto latticeNobodySpec)) latticeNobodyUptoCard

/-- THE SECOND FORM's CARD OF 'jalousielaw01.LatticeLaws'. -/
def latticeLawsUptoCard : Claim7 := { stood := { row := latticeLawsUptoRow, standIns := [], harness := (true, "26f3d5773c954fcfc236646370bd453a2533a2b80ffb265d21b41254b8efa9fd"), looks := false }, kinds := [], alts := [], laidByText := true, laidKinds := [.data], laidTests := true, laidLooks := .later }
def LatticeLawsUptoCardSaid : Prop := Claim7.holds Tryd.pinned (.plain (OpenSpec.upto latticeLawsSpec)) latticeLawsUptoCard

/-- THE SECOND FORM's CARD OF 'jalousielaw01.LatticeTurned'. -/
def latticeTurnedUptoCard : Claim7 := { stood := { row := latticeTurnedUptoRow, standIns := [], harness := (true, "26f3d5773c954fcfc236646370bd453a2533a2b80ffb265d21b41254b8efa9fd"), looks := false }, kinds := [], alts := [], laidByText := true, laidKinds := [.data], laidTests := true, laidLooks := .later }
def LatticeTurnedUptoCardSaid : Prop := Claim7.holds Tryd.pinned (.plain (OpenSpec.upto latticeTurnedSpec)) latticeTurnedUptoCard
end Rows
end Go.Proofs.YtjglohfkpigdfaaDoor
