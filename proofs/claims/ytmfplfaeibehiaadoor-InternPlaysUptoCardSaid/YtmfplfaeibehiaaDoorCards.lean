/-
  DERIVED. GIVEN WITH THE SEED: THE CARDS: each row of YtmfplfaeibehiaaDoorRows.lean that lists a variable, with what it lists TIED to the program's text (the seventh form; the later family's looks); each row that meets fmt, with fmt's text TOLD by the authors' own Lean function (tested against real Go, not proved from fmt's source: count such statements apart). THE CARD IS WHAT COUNTS. Prove the row's statement (the work); the ties are given (YtmfplfaeibehiaaDoorTie.lean); close each card by the builder's one call (the guide's Derived/Test/ToyasCard.lean, 'card_holds'). Laid BY PROGRAM, IN A SANDBOX (cutbox-door.mjs). By AI agents, Wed Nov 11 2026. No macro, syntax, notation, axiom, sorry.
-/
import Derived.Test.YtmfplfaeibehiaaDoorRows
import GoSem.ClaimSeven
namespace Go.Proofs.YtmfplfaeibehiaaDoor
namespace Rows

/-- THE TIED CARD OF 'rubriclaw04.SchemaFits'. -/
def schemaFitsCard : Claim7 := { stood := { row := schemaFitsRow, standIns := [], harness := (true, "e63be4b621dd95af56868af39b2be477040c6b88764dc63d0513ad08d445f713"), looks := false }, kinds := [], alts := [], laidByText := true, laidKinds := [.data, .pinned], laidTests := true, laidLooks := .later }
def SchemaFitsCardSaid : Prop := Claim7.holds Tryd.pinned (.plain (OpenSpec.ofChange schemaFitsSpec)) schemaFitsCard

/-- THE TIED CARD OF 'rubriclaw04.SchemaKeys'. -/
def schemaKeysCard : Claim7 := { stood := { row := schemaKeysRow, standIns := [], harness := (true, "e63be4b621dd95af56868af39b2be477040c6b88764dc63d0513ad08d445f713"), looks := false }, kinds := [], alts := [], laidByText := true, laidKinds := [.data, .pinned], laidTests := true, laidLooks := .later }
def SchemaKeysCardSaid : Prop := Claim7.holds Tryd.pinned (.plain (OpenSpec.ofChange schemaKeysSpec)) schemaKeysCard

/-- THE TIED CARD OF 'rubriclaw04.SchemaNone'. -/
def schemaNoneCard : Claim7 := { stood := { row := schemaNoneRow, standIns := [], harness := (true, "e63be4b621dd95af56868af39b2be477040c6b88764dc63d0513ad08d445f713"), looks := false }, kinds := [], alts := [], laidByText := true, laidKinds := [.data, .pinned], laidTests := true, laidLooks := .later }
def SchemaNoneCardSaid : Prop := Claim7.holds Tryd.pinned (.plain (OpenSpec.ofChange schemaNoneSpec)) schemaNoneCard

/-- THE TIED CARD OF 'rubriclaw07.InternReuse'. -/
def internReuseCard : Claim7 := { stood := { row := internReuseRow, standIns := [], harness := (true, "e63be4b621dd95af56868af39b2be477040c6b88764dc63d0513ad08d445f713"), looks := false }, kinds := [], alts := [], laidByText := true, laidKinds := [.data, .pinned], laidTests := true, laidLooks := .later }
def InternReuseCardSaid : Prop := Claim7.holds Tryd.pinned (.plain (OpenSpec.ofChange internReuseSpec)) internReuseCard

/-- THE TIED CARD OF 'rubriclaw07.InternOne'. -/
def internOneCard : Claim7 := { stood := { row := internOneRow, standIns := [], harness := (true, "e63be4b621dd95af56868af39b2be477040c6b88764dc63d0513ad08d445f713"), looks := false }, kinds := [], alts := [], laidByText := true, laidKinds := [.data, .pinned], laidTests := true, laidLooks := .later }
def InternOneCardSaid : Prop := Claim7.holds Tryd.pinned (.plain (OpenSpec.ofChange internOneSpec)) internOneCard

/-- THE TIED CARD OF 'rubriclaw07.InternStays'. -/
def internStaysCard : Claim7 := { stood := { row := internStaysRow, standIns := [], harness := (true, "e63be4b621dd95af56868af39b2be477040c6b88764dc63d0513ad08d445f713"), looks := false }, kinds := [], alts := [], laidByText := true, laidKinds := [.data, .pinned], laidTests := true, laidLooks := .later }
def InternStaysCardSaid : Prop := Claim7.holds Tryd.pinned (.plain (OpenSpec.ofChange internStaysSpec)) internStaysCard

/-- THE TIED CARD OF 'rubriclaw07.InternHolds'. -/
def internHoldsCard : Claim7 := { stood := { row := internHoldsRow, standIns := [], harness := (true, "e63be4b621dd95af56868af39b2be477040c6b88764dc63d0513ad08d445f713"), looks := false }, kinds := [], alts := [], laidByText := true, laidKinds := [.data, .pinned], laidTests := true, laidLooks := .later }
def InternHoldsCardSaid : Prop := Claim7.holds Tryd.pinned (.plain (OpenSpec.ofChange internHoldsSpec)) internHoldsCard

/-- THE TIED CARD OF 'rubriclaw07.InternPlays'. -/
def internPlaysCard : Claim7 := { stood := { row := internPlaysRow, standIns := [], harness := (true, "e63be4b621dd95af56868af39b2be477040c6b88764dc63d0513ad08d445f713"), looks := false }, kinds := [], alts := [], laidByText := true, laidKinds := [.data, .pinned], laidTests := true, laidLooks := .later }
def InternPlaysCardSaid : Prop := Claim7.holds Tryd.pinned (.plain (OpenSpec.ofChange internPlaysSpec)) internPlaysCard

/-- THE TIED CARD OF 'rubriclaw07.InternNone'. -/
def internNoneCard : Claim7 := { stood := { row := internNoneRow, standIns := [], harness := (true, "e63be4b621dd95af56868af39b2be477040c6b88764dc63d0513ad08d445f713"), looks := false }, kinds := [], alts := [], laidByText := true, laidKinds := [.data, .pinned], laidTests := true, laidLooks := .later }
def InternNoneCardSaid : Prop := Claim7.holds Tryd.pinned (.plain (OpenSpec.ofChange internNoneSpec)) internNoneCard

/-- THE SECOND FORM's CARD OF 'rubriclaw04.SchemaFits'. -/
def schemaFitsUptoCard : Claim7 := { stood := { row := schemaFitsUptoRow, standIns := [], harness := (true, "e63be4b621dd95af56868af39b2be477040c6b88764dc63d0513ad08d445f713"), looks := false }, kinds := [], alts := [], laidByText := true, laidKinds := [.data, .pinned], laidTests := true, laidLooks := .later }
def SchemaFitsUptoCardSaid : Prop := Claim7.holds Tryd.pinned (.plain (OpenSpec.upto schemaFitsSpec)) schemaFitsUptoCard

/-- THE SECOND FORM's CARD OF 'rubriclaw04.SchemaKeys'. -/
def schemaKeysUptoCard : Claim7 := { stood := { row := schemaKeysUptoRow, standIns := [], harness := (true, "e63be4b621dd95af56868af39b2be477040c6b88764dc63d0513ad08d445f713"), looks := false }, kinds := [], alts := [], laidByText := true, laidKinds := [.data, .pinned], laidTests := true, laidLooks := .later }
def SchemaKeysUptoCardSaid : Prop := Claim7.holds Tryd.pinned (.plain (OpenSpec.upto schemaKeysSpec)) schemaKeysUptoCard

/-- THE SECOND FORM's CARD OF 'rubriclaw04.SchemaNone'. -/
def schemaNoneUptoCard : Claim7 := { stood := { row := schemaNoneUptoRow, standIns := [], harness := (true, "e63be4b621dd95af56868af39b2be477040c6b88764dc63d0513ad08d445f713"), looks := false }, kinds := [], alts := [], laidByText := true, laidKinds := [.data, .pinned], laidTests := true, laidLooks := .later }
def SchemaNoneUptoCardSaid : Prop := Claim7.holds Tryd.pinned (.plain (OpenSpec.upto schemaNoneSpec)) schemaNoneUptoCard

/-- THE SECOND FORM's CARD OF 'rubriclaw07.InternReuse'. -/
def internReuseUptoCard : Claim7 := { stood := { row := internReuseUptoRow, standIns := [], harness := (true, "e63be4b621dd95af56868af39b2be477040c6b88764dc63d0513ad08d445f713"), looks := false }, kinds := [], alts := [], laidByText := true, laidKinds := [.data, .pinned], laidTests := true, laidLooks := .later }
def InternReuseUptoCardSaid : Prop := Claim7.holds Tryd.pinned (.plain (OpenSpec.upto internReuseSpec)) internReuseUptoCard

/-- THE SECOND FORM's CARD OF 'rubriclaw07.InternOne'. -/
def internOneUptoCard : Claim7 := { stood := { row := internOneUptoRow, standIns := [], harness := (true, "e63be4b621dd95af56868af39b2be477040c6b88764dc63d0513ad08d445f713"), looks := false }, kinds := [], alts := [], laidByText := true, laidKinds := [.data, .pinned], laidTests := true, laidLooks := .later }
def InternOneUptoCardSaid : Prop := Claim7.holds Tryd.pinned (.plain (OpenSpec.upto internOneSpec)) internOneUptoCard

/-- THE SECOND FORM's CARD OF 'rubriclaw07.InternStays'. -/
def internStaysUptoCard : Claim7 := { stood := { row := internStaysUptoRow, standIns := [], harness := (true, "e63be4b621dd95af56868af39b2be477040c6b88764dc63d0513ad08d445f713"), looks := false }, kinds := [], alts := [], laidByText := true, laidKinds := [.data, .pinned], laidTests := true, laidLooks := .later }
def InternStaysUptoCardSaid : Prop := Claim7.holds Tryd.pinned (.plain (OpenSpec.upto internStaysSpec)) internStaysUptoCard

/-- THE SECOND FORM's CARD OF 'rubriclaw07.InternHolds'. -/
def internHoldsUptoCard : Claim7 := { stood := { row := internHoldsUptoRow, standIns := [], harness := (true, "e63be4b621dd95af56868af39b2be477040c6b88764dc63d0513ad08d445f713"), looks := false }, kinds := [], alts := [], laidByText := true, laidKinds := [.data, .pinned], laidTests := true, laidLooks := .later }
def InternHoldsUptoCardSaid : Prop := Claim7.holds Tryd.pinned (.plain (OpenSpec.upto internHoldsSpec)) internHoldsUptoCard

/-- THE SECOND FORM's CARD OF 'rubriclaw07.InternPlays'. -/
def internPlaysUptoCard : Claim7 := { stood := { row := internPlaysUptoRow, standIns := [], harness := (true, "e63be4b621dd95af56868af39b2be477040c6b88764dc63d0513ad08d445f713"), looks := false }, kinds := [], alts := [], laidByText := true, laidKinds := [.data, .pinned], laidTests := true, laidLooks := .later }
def InternPlaysUptoCardSaid : Prop := Claim7.holds Tryd.pinned (.plain (OpenSpec.upto internPlaysSpec)) internPlaysUptoCard

/-- THE SECOND FORM's CARD OF 'rubriclaw07.InternNone'. -/
def internNoneUptoCard : Claim7 := { stood := { row := internNoneUptoRow, standIns := [], harness := (true, "e63be4b621dd95af56868af39b2be477040c6b88764dc63d0513ad08d445f713"), looks := false }, kinds := [], alts := [], laidByText := true, laidKinds := [.data, .pinned], laidTests := true, laidLooks := .later }
def InternNoneUptoCardSaid : Prop := Claim7.holds Tryd.pinned (.plain (OpenSpec.upto internNoneSpec)) internNoneUptoCard
end Rows
end Go.Proofs.YtmfplfaeibehiaaDoor
