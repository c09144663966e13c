/-
  DERIVED. GIVEN WITH THE SEED: THE CARDS: each row of YtgdmalobagncpaaDoorRows.lean that lists a variable, with what it lists TIED to the program's text (the seventh form; the later family's looks); each row that meets fmt, with fmt's text TOLD by the authors' own Lean function (tested against real Go, not proved from fmt's source: count such statements apart). THE CARD IS WHAT COUNTS. Prove the row's statement (the work); the ties are given (YtgdmalobagncpaaDoorTie.lean); close each card by the builder's one call (the guide's Derived/Test/ToyasCard.lean, 'card_holds'). Laid BY PROGRAM, IN A SANDBOX (cutbox-door.mjs). By AI agents, Wed Nov 11 2026. No macro, syntax, notation, axiom, sorry.
-/
import Derived.Test.YtgdmalobagncpaaDoorRows
import GoSem.ClaimSeven
namespace Go.Proofs.YtgdmalobagncpaaDoor
namespace Rows

/-- THE TIED CARD OF 'jalousielaw04.IdsKnown'. -/
def idsKnownCard : Claim7 := { stood := { row := idsKnownRow, standIns := [], harness := (true, "1aac80c02e00f8a1167edbb58b195a66328ee163fdbd419e0ad2de6ce96535ed"), looks := true }, kinds := [], alts := [], laidByText := true, laidKinds := [.data, .data, .data, .data, .sentinel, .sentinel, .pinned], laidTests := true, laidLooks := .later }
def IdsKnownCardSaid : Prop := Claim7.holds Tryd.pinned (.plain (OpenSpec.ofChange idsKnownSpec)) idsKnownCard

/-- THE TIED CARD OF 'jalousielaw04.IdsWords'. -/
def idsWordsCard : Claim7 := { stood := { row := idsWordsRow, standIns := [], harness := (true, "1aac80c02e00f8a1167edbb58b195a66328ee163fdbd419e0ad2de6ce96535ed"), looks := true }, kinds := [], alts := [], laidByText := true, laidKinds := [.data, .data, .data, .data, .sentinel, .sentinel, .pinned], laidTests := true, laidLooks := .later }
def IdsWordsCardSaid : Prop := Claim7.holds Tryd.pinned (.plain (OpenSpec.ofChange idsWordsSpec)) idsWordsCard

/-- THE TIED CARD OF 'jalousielaw04.IdsCount'. -/
def idsCountCard : Claim7 := { stood := { row := idsCountRow, standIns := [], harness := (true, "1aac80c02e00f8a1167edbb58b195a66328ee163fdbd419e0ad2de6ce96535ed"), looks := true }, kinds := [], alts := [], laidByText := true, laidKinds := [.data, .data, .data, .data, .sentinel, .sentinel, .pinned], laidTests := true, laidLooks := .later }
def IdsCountCardSaid : Prop := Claim7.holds Tryd.pinned (.plain (OpenSpec.ofChange idsCountSpec)) idsCountCard

/-- THE TIED CARD OF 'jalousielaw04.IdsNobody'. -/
def idsNobodyCard : Claim7 := { stood := { row := idsNobodyRow, standIns := [], harness := (true, "1aac80c02e00f8a1167edbb58b195a66328ee163fdbd419e0ad2de6ce96535ed"), looks := true }, kinds := [], alts := [], laidByText := true, laidKinds := [.data, .data, .data, .data, .sentinel, .sentinel, .pinned], laidTests := true, laidLooks := .later }
def IdsNobodyCardSaid : Prop := Claim7.holds Tryd.pinned (.plain (OpenSpec.ofChange idsNobodySpec)) idsNobodyCard

/-- THE TIED CARD OF 'jalousielaw04.IdsBack'. -/
def idsBackCard : Claim7 := { stood := { row := idsBackRow, standIns := [], harness := (true, "1aac80c02e00f8a1167edbb58b195a66328ee163fdbd419e0ad2de6ce96535ed"), looks := true }, kinds := [], alts := [], laidByText := true, laidKinds := [.data, .data, .data, .data, .sentinel, .sentinel, .pinned], laidTests := true, laidLooks := .later }
def IdsBackCardSaid : Prop := Claim7.holds Tryd.pinned (.plain (OpenSpec.ofChange idsBackSpec)) idsBackCard

/-- THE TIED CARD OF 'jalousielaw04.IdsApart'. -/
def idsApartCard : Claim7 := { stood := { row := idsApartRow, standIns := [], harness := (true, "1aac80c02e00f8a1167edbb58b195a66328ee163fdbd419e0ad2de6ce96535ed"), looks := true }, kinds := [], alts := [], laidByText := true, laidKinds := [.data, .data, .data, .data, .sentinel, .sentinel, .pinned], laidTests := true, laidLooks := .later }
def IdsApartCardSaid : Prop := Claim7.holds Tryd.pinned (.plain (OpenSpec.ofChange idsApartSpec)) idsApartCard

/-- THE SECOND FORM's CARD OF 'jalousielaw04.IdsKnown'. -/
def idsKnownUptoCard : Claim7 := { stood := { row := idsKnownUptoRow, standIns := [], harness := (true, "1aac80c02e00f8a1167edbb58b195a66328ee163fdbd419e0ad2de6ce96535ed"), looks := true }, kinds := [], alts := [], laidByText := true, laidKinds := [.data, .data, .data, .data, .sentinel, .sentinel, .pinned], laidTests := true, laidLooks := .later }
def IdsKnownUptoCardSaid : Prop := Claim7.holds Tryd.pinned (.plain (OpenSpec.upto idsKnownSpec)) idsKnownUptoCard

/-- THE SECOND FORM's CARD OF 'jalousielaw04.IdsWords'. -/
def idsWordsUptoCard : Claim7 := { stood := { row := idsWordsUptoRow, standIns := [], harness := (true, "1aac80c02e00f8a1167edbb58b195a66328ee163fdbd419e0ad2de6ce96535ed"), looks := true }, kinds := [], alts := [], laidByText := true, laidKinds := [.data, .data, .data, .data, .sentinel, .sentinel, .pinned], laidTests := true, laidLooks := .later }
def IdsWordsUptoCardSaid : Prop := Claim7.holds Tryd.pinned (.plain (OpenSpec.upto idsWordsSpec)) idsWordsUptoCard

/-- THE SECOND FORM's CARD OF 'jalousielaw04.IdsCount'. -/
def idsCountUptoCard : Claim7 := { stood := { row := idsCountUptoRow, standIns := [], harness := (true, "1aac80c02e00f8a1167edbb58b195a66328ee163fdbd419e0ad2de6ce96535ed"), looks := true }, kinds := [], alts := [], laidByText := true, laidKinds := [.data, .data, .data, .data, .sentinel, .sentinel, .pinned], laidTests := true, laidLooks := .later }
def IdsCountUptoCardSaid : Prop := Claim7.holds Tryd.pinned (.plain (OpenSpec.upto idsCountSpec)) idsCountUptoCard

/-- THE SECOND FORM's CARD OF 'jalousielaw04.IdsNobody'. -/
def idsNobodyUptoCard : Claim7 := { stood := { row := idsNobodyUptoRow, standIns := [], harness := (true, "1aac80c02e00f8a1167edbb58b195a66328ee163fdbd419e0ad2de6ce96535ed"), looks := true }, kinds := [], alts := [], laidByText := true, laidKinds := [.data, .data, .data, .data, .sentinel, .sentinel, .pinned], laidTests := true, laidLooks := .later }
def IdsNobodyUptoCardSaid : Prop := Claim7.holds Tryd.pinned (.plain (OpenSpec.upto idsNobodySpec)) idsNobodyUptoCard

/-- THE SECOND FORM's CARD OF 'jalousielaw04.IdsBack'. -/
def idsBackUptoCard : Claim7 := { stood := { row := idsBackUptoRow, standIns := [], harness := (true, "1aac80c02e00f8a1167edbb58b195a66328ee163fdbd419e0ad2de6ce96535ed"), looks := true }, kinds := [], alts := [], laidByText := true, laidKinds := [.data, .data, .data, .data, .sentinel, .sentinel, .pinned], laidTests := true, laidLooks := .later }
def IdsBackUptoCardSaid : Prop := Claim7.holds Tryd.pinned (.plain (OpenSpec.upto idsBackSpec)) idsBackUptoCard

/-- THE SECOND FORM's CARD OF 'jalousielaw04.IdsApart'. -/
def idsApartUptoCard : Claim7 := { stood := { row := idsApartUptoRow, standIns := [], harness := (true, "1aac80c02e00f8a1167edbb58b195a66328ee163fdbd419e0ad2de6ce96535ed"), looks := true }, kinds := [], alts := [], laidByText := true, laidKinds := [.data, .data, .data, .data, .sentinel, .sentinel, .pinned], laidTests := true, laidLooks := .later }
def IdsApartUptoCardSaid : Prop := Claim7.holds Tryd.pinned (.plain (OpenSpec.upto idsApartSpec)) idsApartUptoCard
end Rows
end Go.Proofs.YtgdmalobagncpaaDoor
