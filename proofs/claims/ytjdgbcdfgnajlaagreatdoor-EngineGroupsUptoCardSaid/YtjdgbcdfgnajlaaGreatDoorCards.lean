/-
  DERIVED. GIVEN WITH THE SEED: THE CARDS: each row of YtjdgbcdfgnajlaaGreatDoorRows.lean that lists a variable, with what it lists TIED to the program's text (the seventh form; the later family's looks); each row that meets fmt, with fmt's text TOLD by the authors' own Lean function (tested against real Go, not proved from fmt's source: count such statements apart). THE CARD IS WHAT COUNTS. Prove the row's statement (the work); the ties are given (YtjdgbcdfgnajlaaGreatDoorTie.lean); close each card by the builder's one call (the guide's Derived/Test/ToyasCard.lean, 'card_holds'). Laid BY PROGRAM, IN A SANDBOX (cutbox-door.mjs). By AI agents, Wed Nov 11 2026. No macro, syntax, notation, axiom, sorry.
-/
import Derived.Test.YtjdgbcdfgnajlaaGreatDoorRows
import GoSem.ClaimSeven
namespace Go.Proofs.YtjdgbcdfgnajlaaGreatDoor
namespace Rows

/-- THE TIED CARD OF 'rubriclaw28.EngineGroups'. -/
def engineGroupsCard : Claim7 := { stood := { row := engineGroupsRow, standIns := [], harness := (true, "64d1cb312c4dfbfb948de12667958e24b53289cee4791b948495bb7a4a4fe312"), looks := false }, kinds := [], alts := [], laidByText := true, laidKinds := [.data, .pinned], laidTests := true, laidLooks := .later }
def EngineGroupsCardSaid : Prop := Claim7.holds Tryz.pinned (.plain (OpenSpec.ofChange engineGroupsSpec)) engineGroupsCard

/-- THE SECOND FORM's CARD OF 'rubriclaw28.EngineGroups'. -/
def engineGroupsUptoCard : Claim7 := { stood := { row := engineGroupsUptoRow, standIns := [], harness := (true, "64d1cb312c4dfbfb948de12667958e24b53289cee4791b948495bb7a4a4fe312"), looks := false }, kinds := [], alts := [], laidByText := true, laidKinds := [.data, .pinned], laidTests := true, laidLooks := .later }
def EngineGroupsUptoCardSaid : Prop := Claim7.holds Tryz.pinned (.plain (OpenSpec.upto engineGroupsSpec)) engineGroupsUptoCard
end Rows
end Go.Proofs.YtjdgbcdfgnajlaaGreatDoor
