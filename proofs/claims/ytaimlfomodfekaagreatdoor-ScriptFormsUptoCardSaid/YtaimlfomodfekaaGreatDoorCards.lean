/-
  DERIVED. GIVEN WITH THE SEED: THE CARDS: each row of YtaimlfomodfekaaGreatDoorRows.lean that lists a variable, with what it lists TIED to the program's text (the seventh form; the later family's looks); each row that meets fmt, with fmt's text TOLD by the authors' own Lean function (tested against real Go, not proved from fmt's source: count such statements apart). THE CARD IS WHAT COUNTS. Prove the row's statement (the work); the ties are given (YtaimlfomodfekaaGreatDoorTie.lean); close each card by the builder's one call (the guide's Derived/Test/ToyasCard.lean, 'card_holds'). Laid BY PROGRAM, IN A SANDBOX (cutbox-door.mjs). By AI agents, Wed Nov 11 2026. No macro, syntax, notation, axiom, sorry.
-/
import Derived.Test.YtaimlfomodfekaaGreatDoorRows
import GoSem.ClaimSeven
namespace Go.Proofs.YtaimlfomodfekaaGreatDoor
namespace Rows

/-- THE TIED CARD OF 'rubriclaw29.ScriptForms'. -/
def scriptFormsCard : Claim7 := { stood := { row := scriptFormsRow, standIns := [], harness := (true, "6faeb24ac268afd83acb96f66cc9211ed4d290ba8efb847301978cf48dbbf672"), looks := false }, kinds := [], alts := [], laidByText := true, laidKinds := [.data, .data, .pinned], laidTests := true, laidLooks := .later }
def ScriptFormsCardSaid : Prop := Claim7.holds Tryz.pinned (.plain (OpenSpec.ofChange scriptFormsSpec)) scriptFormsCard

/-- THE TIED CARD OF 'rubriclaw29.ScriptOnly'. -/
def scriptOnlyCard : Claim7 := { stood := { row := scriptOnlyRow, standIns := [], harness := (true, "6faeb24ac268afd83acb96f66cc9211ed4d290ba8efb847301978cf48dbbf672"), looks := false }, kinds := [], alts := [], laidByText := true, laidKinds := [.data, .data, .pinned], laidTests := true, laidLooks := .later }
def ScriptOnlyCardSaid : Prop := Claim7.holds Tryz.pinned (.plain (OpenSpec.ofChange scriptOnlySpec)) scriptOnlyCard

/-- THE TIED CARD OF 'rubriclaw29.ScriptPrefix'. -/
def scriptPrefixCard : Claim7 := { stood := { row := scriptPrefixRow, standIns := [], harness := (true, "6faeb24ac268afd83acb96f66cc9211ed4d290ba8efb847301978cf48dbbf672"), looks := false }, kinds := [], alts := [], laidByText := true, laidKinds := [.data, .data, .pinned], laidTests := true, laidLooks := .later }
def ScriptPrefixCardSaid : Prop := Claim7.holds Tryz.pinned (.plain (OpenSpec.ofChange scriptPrefixSpec)) scriptPrefixCard

/-- THE SECOND FORM's CARD OF 'rubriclaw29.ScriptForms'. -/
def scriptFormsUptoCard : Claim7 := { stood := { row := scriptFormsUptoRow, standIns := [], harness := (true, "6faeb24ac268afd83acb96f66cc9211ed4d290ba8efb847301978cf48dbbf672"), looks := false }, kinds := [], alts := [], laidByText := true, laidKinds := [.data, .data, .pinned], laidTests := true, laidLooks := .later }
def ScriptFormsUptoCardSaid : Prop := Claim7.holds Tryz.pinned (.plain (OpenSpec.upto scriptFormsSpec)) scriptFormsUptoCard

/-- THE SECOND FORM's CARD OF 'rubriclaw29.ScriptOnly'. -/
def scriptOnlyUptoCard : Claim7 := { stood := { row := scriptOnlyUptoRow, standIns := [], harness := (true, "6faeb24ac268afd83acb96f66cc9211ed4d290ba8efb847301978cf48dbbf672"), looks := false }, kinds := [], alts := [], laidByText := true, laidKinds := [.data, .data, .pinned], laidTests := true, laidLooks := .later }
def ScriptOnlyUptoCardSaid : Prop := Claim7.holds Tryz.pinned (.plain (OpenSpec.upto scriptOnlySpec)) scriptOnlyUptoCard

/-- THE SECOND FORM's CARD OF 'rubriclaw29.ScriptPrefix'. -/
def scriptPrefixUptoCard : Claim7 := { stood := { row := scriptPrefixUptoRow, standIns := [], harness := (true, "6faeb24ac268afd83acb96f66cc9211ed4d290ba8efb847301978cf48dbbf672"), looks := false }, kinds := [], alts := [], laidByText := true, laidKinds := [.data, .data, .pinned], laidTests := true, laidLooks := .later }
def ScriptPrefixUptoCardSaid : Prop := Claim7.holds Tryz.pinned (.plain (OpenSpec.upto scriptPrefixSpec)) scriptPrefixUptoCard
end Rows
end Go.Proofs.YtaimlfomodfekaaGreatDoor
