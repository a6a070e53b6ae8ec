/-
  DERIVED. GIVEN WITH THE SEED: THE CARDS: each row of YtmdhibffnkhcnaaGreatDoorRows.lean that lists a variable, with what it lists TIED to the program's text (the seventh form; the later family's looks); each row that meets fmt, with fmt's text TOLD by the authors' own Lean function (tested against real Go, not proved from fmt's source: count such statements apart). THE CARD IS WHAT COUNTS. Prove the row's statement (the work); the ties are given (YtmdhibffnkhcnaaGreatDoorTie.lean); close each card by the builder's one call (the guide's Derived/Test/ToyasCard.lean, 'card_holds'). Laid BY PROGRAM, IN A SANDBOX (cutbox-door.mjs). By AI agents, Wed Nov 11 2026. No macro, syntax, notation, axiom, sorry.
-/
import Derived.Test.YtmdhibffnkhcnaaGreatDoorRows
import GoSem.ClaimSeven
namespace Go.Proofs.YtmdhibffnkhcnaaGreatDoor
namespace Rows

/-- THE TIED CARD OF 'rubriclaw25.TextLines'. -/
def textLinesCard : Claim7 := { stood := { row := textLinesRow, standIns := [], harness := (true, "7171494671cf6ec344a5091af097220da3e2bd6232a3118f4bc5e23329bf56d9"), looks := false }, kinds := [], alts := [], laidByText := true, laidKinds := [.data, .pinned], laidTests := true, laidLooks := .later }
def TextLinesCardSaid : Prop := Claim7.holds Tryz.pinned (.plain (OpenSpec.ofChange textLinesSpec)) textLinesCard

/-- THE TIED CARD OF 'rubriclaw25.TextProper'. -/
def textProperCard : Claim7 := { stood := { row := textProperRow, standIns := [], harness := (true, "7171494671cf6ec344a5091af097220da3e2bd6232a3118f4bc5e23329bf56d9"), looks := false }, kinds := [], alts := [], laidByText := true, laidKinds := [.data, .pinned], laidTests := true, laidLooks := .later }
def TextProperCardSaid : Prop := Claim7.holds Tryz.pinned (.plain (OpenSpec.ofChange textProperSpec)) textProperCard

/-- THE TIED CARD OF 'rubriclaw25.TextParts'. -/
def textPartsCard : Claim7 := { stood := { row := textPartsRow, standIns := [], harness := (true, "7171494671cf6ec344a5091af097220da3e2bd6232a3118f4bc5e23329bf56d9"), looks := false }, kinds := [], alts := [], laidByText := true, laidKinds := [.data, .pinned], laidTests := true, laidLooks := .later }
def TextPartsCardSaid : Prop := Claim7.holds Tryz.pinned (.plain (OpenSpec.ofChange textPartsSpec)) textPartsCard

/-- THE TIED CARD OF 'rubriclaw25.TextNormal'. -/
def textNormalCard : Claim7 := { stood := { row := textNormalRow, standIns := [], harness := (true, "7171494671cf6ec344a5091af097220da3e2bd6232a3118f4bc5e23329bf56d9"), looks := false }, kinds := [], alts := [], laidByText := true, laidKinds := [.data, .pinned], laidTests := true, laidLooks := .later }
def TextNormalCardSaid : Prop := Claim7.holds Tryz.pinned (.plain (OpenSpec.ofChange textNormalSpec)) textNormalCard

/-- THE TIED CARD OF 'rubriclaw25.TextInverts'. -/
def textInvertsCard : Claim7 := { stood := { row := textInvertsRow, standIns := [], harness := (true, "7171494671cf6ec344a5091af097220da3e2bd6232a3118f4bc5e23329bf56d9"), looks := false }, kinds := [], alts := [], laidByText := true, laidKinds := [.data, .pinned], laidTests := true, laidLooks := .later }
def TextInvertsCardSaid : Prop := Claim7.holds Tryz.pinned (.plain (OpenSpec.ofChange textInvertsSpec)) textInvertsCard

/-- THE SECOND FORM's CARD OF 'rubriclaw25.TextLines'. -/
def textLinesUptoCard : Claim7 := { stood := { row := textLinesUptoRow, standIns := [], harness := (true, "7171494671cf6ec344a5091af097220da3e2bd6232a3118f4bc5e23329bf56d9"), looks := false }, kinds := [], alts := [], laidByText := true, laidKinds := [.data, .pinned], laidTests := true, laidLooks := .later }
def TextLinesUptoCardSaid : Prop := Claim7.holds Tryz.pinned (.plain (OpenSpec.upto textLinesSpec)) textLinesUptoCard

/-- THE SECOND FORM's CARD OF 'rubriclaw25.TextProper'. -/
def textProperUptoCard : Claim7 := { stood := { row := textProperUptoRow, standIns := [], harness := (true, "7171494671cf6ec344a5091af097220da3e2bd6232a3118f4bc5e23329bf56d9"), looks := false }, kinds := [], alts := [], laidByText := true, laidKinds := [.data, .pinned], laidTests := true, laidLooks := .later }
def TextProperUptoCardSaid : Prop := Claim7.holds Tryz.pinned (.plain (OpenSpec.upto textProperSpec)) textProperUptoCard

/-- THE SECOND FORM's CARD OF 'rubriclaw25.TextParts'. -/
def textPartsUptoCard : Claim7 := { stood := { row := textPartsUptoRow, standIns := [], harness := (true, "7171494671cf6ec344a5091af097220da3e2bd6232a3118f4bc5e23329bf56d9"), looks := false }, kinds := [], alts := [], laidByText := true, laidKinds := [.data, .pinned], laidTests := true, laidLooks := .later }
def TextPartsUptoCardSaid : Prop := Claim7.holds Tryz.pinned (.plain (OpenSpec.upto textPartsSpec)) textPartsUptoCard

/-- THE SECOND FORM's CARD OF 'rubriclaw25.TextNormal'. -/
def textNormalUptoCard : Claim7 := { stood := { row := textNormalUptoRow, standIns := [], harness := (true, "7171494671cf6ec344a5091af097220da3e2bd6232a3118f4bc5e23329bf56d9"), looks := false }, kinds := [], alts := [], laidByText := true, laidKinds := [.data, .pinned], laidTests := true, laidLooks := .later }
def TextNormalUptoCardSaid : Prop := Claim7.holds Tryz.pinned (.plain (OpenSpec.upto textNormalSpec)) textNormalUptoCard

/-- THE SECOND FORM's CARD OF 'rubriclaw25.TextInverts'. -/
def textInvertsUptoCard : Claim7 := { stood := { row := textInvertsUptoRow, standIns := [], harness := (true, "7171494671cf6ec344a5091af097220da3e2bd6232a3118f4bc5e23329bf56d9"), looks := false }, kinds := [], alts := [], laidByText := true, laidKinds := [.data, .pinned], laidTests := true, laidLooks := .later }
def TextInvertsUptoCardSaid : Prop := Claim7.holds Tryz.pinned (.plain (OpenSpec.upto textInvertsSpec)) textInvertsUptoCard
end Rows
end Go.Proofs.YtmdhibffnkhcnaaGreatDoor
