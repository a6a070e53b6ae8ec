/-
  NARROWER THAN 'FOR EVERY INPUT', by the rows' own cells (each row's printed sentence says how): ScriptForms: laid · ScriptOnly: laid · ScriptPrefix: laid.
  DERIVED. THE GIVEN ROWS OF THIS SEAT. 3 by the template 'for every input the law returns true; each argument reads behind the call as it read before'; 0 by the template 'total and deterministic' (their statements: YtaimlfomodfekaaGreatDoorTotals.lean).
  GIVEN WITH THE SEED: the statements are not yours to turn. If you find one false, say at which input.
  Laid BY PROGRAM, IN A SANDBOX (cutbox-rows.mjs): the forced cells as the released guide's own fill.sh prints them over the translation 3a0f24e96588b7fe… (all of the seat's roots in one cut). By AI agents, Wed Nov 11 2026. No macro, syntax, notation, axiom, sorry.
-/
import Derived.Test.YtaimlfomodfekaaGreatDoorChecked
import GoSem.PinnedTables
import GoSem.Claim
import GoSem.ClaimJoined
import GoSem.ClaimMapViews
import Derived.JoinedTies
import Derived.KernelRfl
namespace Go.Proofs.YtaimlfomodfekaaGreatDoor
/- THE CELL 'sum', in the pinned program and in every row, IS THE sha256 OF THE DUMP (.gsa) THAT YtaimlfomodfekaaGreatDoorProg.lean LOADS. Nothing in Lean hashes anything: it is a label: what it is worth is what the hold of that sum in a sandbox is worth. -/
noncomputable def Tryz.pinned : Pinned := { name := "ytaimlfomodfekaagreatdoor", sum := "3a0f24e96588b7fe66b6407e2b1913e17f2a1314ad225e39465f2ef3e9b523b1", checked := Tryz.checked }
namespace Rows
def none {H : Type} : Left H := { results := [], args := [] }

/- WHAT THE LISTED PACKAGE-LEVEL VARIABLES READ AS WHEN THE CALL BEGINS. Each datum BY PROGRAM (the guide's laid-datum.mjs) off the statement by which the dump's own 'gosem.cut.vars' lays the variable. In a bare row this is a premise. The card (YtaimlfomodfekaaGreatDoorCards.lean) ties it to the program's text. -/
def laid_unicode_utf8_acceptRanges {H : Type} : DataW H := .agg [.agg [.lit (.int .u8 128), .lit (.int .u8 191)], .agg [.lit (.int .u8 160), .lit (.int .u8 191)], .agg [.lit (.int .u8 128), .lit (.int .u8 159)], .agg [.lit (.int .u8 144), .lit (.int .u8 191)], .agg [.lit (.int .u8 128), .lit (.int .u8 143)], .agg [.lit (.int .u8 0), .lit (.int .u8 0)], .agg [.lit (.int .u8 0), .lit (.int .u8 0)], .agg [.lit (.int .u8 0), .lit (.int .u8 0)], .agg [.lit (.int .u8 0), .lit (.int .u8 0)], .agg [.lit (.int .u8 0), .lit (.int .u8 0)], .agg [.lit (.int .u8 0), .lit (.int .u8 0)], .agg [.lit (.int .u8 0), .lit (.int .u8 0)], .agg [.lit (.int .u8 0), .lit (.int .u8 0)], .agg [.lit (.int .u8 0), .lit (.int .u8 0)], .agg [.lit (.int .u8 0), .lit (.int .u8 0)], .agg [.lit (.int .u8 0), .lit (.int .u8 0)]]
def laid_rubric_script_fields {H : Type} : DataW H := .agg [.lit (.string []), .lit (.string [111]), .lit (.string [98]), .lit (.string [105, 98]), .lit (.string [105, 106]), .lit (.string [105, 106, 112]), .lit (.string [105, 106, 112]), .lit (.string [105, 106, 107, 121]), .lit (.string [105, 106]), .lit (.string [105, 106]), .lit (.string [105]), .lit (.string [46]), .lit (.string [46]), .lit (.string [46]), .lit (.string [46]), .lit (.string [46]), .lit (.string [46]), .lit (.string [46]), .lit (.string [46]), .lit (.string [105]), .lit (.string [105]), .lit (.string [46])]
/-- One of Go's own tables, pinned by name: the form's constant. -/
def laid_unicode_utf8_first : DataW Unit := Go.Pinned.utf8First

/-- 'rubriclaw29.ScriptForms': WHATEVER THE INPUT: true; the input reads as it did. -/
def scriptFormsSpec : ChangeSpec := { name := "scriptForms", fn := fun _ => fun
  | [d1, d2] => { results := [.lit (.bool true)], args := [d1, d2] }
  | _ => none }
def scriptFormsRow : OpenClaim := { program := "ytaimlfomodfekaagreatdoor", sum := "3a0f24e96588b7fe66b6407e2b1913e17f2a1314ad225e39465f2ef3e9b523b1", func := "rubric/rubriclaw29.ScriptForms", spec := "scriptForms", inPlace := ["math.Float64frombits", "math.Float64bits", "slices.overlaps[rubric/api.Attr]", "slices.overlaps[rubric/api.Change]"], unfollowed := true, recurses := true, named := ["rubric/script.fields", "unicode/utf8.first", "unicode/utf8.acceptRanges"], apart := false, laid := [("unicode/utf8.acceptRanges", laid_unicode_utf8_acceptRanges), ("rubric/script.fields", laid_rubric_script_fields), ("unicode/utf8.first", laid_unicode_utf8_first)] }
def ScriptFormsSaid : Prop := scriptFormsRow.holds Tryz.pinned (OpenSpec.ofChange scriptFormsSpec)

/-- ITS FALSE NEIGHBOUR: 'it returns false'. Refute it at one input. -/
def scriptFormsWrong : ChangeSpec := { name := "scriptForms", fn := fun _ => fun
  | [d1, d2] => { results := [.lit (.bool false)], args := [d1, d2] }
  | _ => none }
def ScriptFormsWrongFalsely : Prop := scriptFormsRow.holds Tryz.pinned (OpenSpec.ofChange scriptFormsWrong)

/-- 'rubriclaw29.ScriptOnly': WHATEVER THE INPUT: true; the input reads as it did. -/
def scriptOnlySpec : ChangeSpec := { name := "scriptOnly", fn := fun _ => fun
  | [d] => { results := [.lit (.bool true)], args := [d] }
  | _ => none }
def scriptOnlyRow : OpenClaim := { program := "ytaimlfomodfekaagreatdoor", sum := "3a0f24e96588b7fe66b6407e2b1913e17f2a1314ad225e39465f2ef3e9b523b1", func := "rubric/rubriclaw29.ScriptOnly", spec := "scriptOnly", inPlace := ["math.Float64frombits", "math.Float64bits", "slices.overlaps[rubric/api.Attr]", "slices.overlaps[rubric/api.Change]"], unfollowed := true, recurses := true, named := ["rubric/script.fields", "unicode/utf8.first", "unicode/utf8.acceptRanges"], apart := false, laid := [("unicode/utf8.acceptRanges", laid_unicode_utf8_acceptRanges), ("rubric/script.fields", laid_rubric_script_fields), ("unicode/utf8.first", laid_unicode_utf8_first)] }
def ScriptOnlySaid : Prop := scriptOnlyRow.holds Tryz.pinned (OpenSpec.ofChange scriptOnlySpec)

/-- ITS FALSE NEIGHBOUR: 'it returns false'. Refute it at one input. -/
def scriptOnlyWrong : ChangeSpec := { name := "scriptOnly", fn := fun _ => fun
  | [d] => { results := [.lit (.bool false)], args := [d] }
  | _ => none }
def ScriptOnlyWrongFalsely : Prop := scriptOnlyRow.holds Tryz.pinned (OpenSpec.ofChange scriptOnlyWrong)

/-- 'rubriclaw29.ScriptPrefix': WHATEVER THE INPUT: true; the input reads as it did. -/
def scriptPrefixSpec : ChangeSpec := { name := "scriptPrefix", fn := fun _ => fun
  | [d1, d2] => { results := [.lit (.bool true)], args := [d1, d2] }
  | _ => none }
def scriptPrefixRow : OpenClaim := { program := "ytaimlfomodfekaagreatdoor", sum := "3a0f24e96588b7fe66b6407e2b1913e17f2a1314ad225e39465f2ef3e9b523b1", func := "rubric/rubriclaw29.ScriptPrefix", spec := "scriptPrefix", inPlace := ["math.Float64frombits", "math.Float64bits", "slices.overlaps[rubric/api.Attr]", "slices.overlaps[rubric/api.Change]"], unfollowed := true, recurses := true, named := ["rubric/script.fields", "unicode/utf8.first", "unicode/utf8.acceptRanges"], apart := false, laid := [("unicode/utf8.acceptRanges", laid_unicode_utf8_acceptRanges), ("rubric/script.fields", laid_rubric_script_fields), ("unicode/utf8.first", laid_unicode_utf8_first)] }
def ScriptPrefixSaid : Prop := scriptPrefixRow.holds Tryz.pinned (OpenSpec.ofChange scriptPrefixSpec)

/-- ITS FALSE NEIGHBOUR: 'it returns false'. Refute it at one input. -/
def scriptPrefixWrong : ChangeSpec := { name := "scriptPrefix", fn := fun _ => fun
  | [d1, d2] => { results := [.lit (.bool false)], args := [d1, d2] }
  | _ => none }
def ScriptPrefixWrongFalsely : Prop := scriptPrefixRow.holds Tryz.pinned (OpenSpec.ofChange scriptPrefixWrong)

/- THE SECOND FORM. 'bulk': how many values and letters a reading holds, each counted each time it is reached (what is shared counts as often as it is met; a slice's spare places count too). A statement '..UptoSaid' is the law's where the arguments, and the package variables that the reading takes, are together of bulk at most 1048576: NARROWER than '..Said'. Prove '..Said' where nothing that the law and all that it calls make is longer than what came in: it says more and counts as full. Else prove '..UptoSaid'. A law counts once. -/
mutual
def uptoBulk {H : Type} : DataW H → Nat
  | .lit (.string bytes) => bytes.length + 1
  | .lit _ => 1
  | .nil => 1
  | .ptr d => uptoBulk d + 1
  | .slice elems spare => uptoBulkAll elems + uptoBulkAll spare + 1
  | .agg parts => uptoBulkAll parts + 1
  | .iface _ d => uptoBulk d + 1
  | .map entries => uptoBulkEntries entries + 1
  | .held _ => 1
def uptoBulkAll {H : Type} : List (DataW H) → Nat
  | [] => 0
  | d :: r => uptoBulk d + uptoBulkAll r
def uptoBulkEntries {H : Type} : List (Lit × DataW H) → Nat
  | [] => 0
  | x :: r => uptoBulkEntry x + uptoBulkEntries r
def uptoBulkEntry {H : Type} : Lit × DataW H → Nat
  | (.string bytes, d) => bytes.length + uptoBulk d + 1
  | (_, d) => uptoBulk d + 1
 end
def uptoSmall : (H : Type) → List (DataW H) → Bool := fun _ ds => decide (uptoBulkAll ds ≤ 1048576)
def OpenSpec.upto (s : _root_.Go.ChangeSpec) : _root_.Go.OpenSpec := { _root_.Go.OpenSpec.ofChange s with cond := some uptoSmall }

/-- 'rubriclaw29.ScriptForms', WHERE WHAT IT READS IS OF BULK AT MOST 1048576: true; the input reads as it did. -/
def scriptFormsUptoRow : OpenClaim := { program := "ytaimlfomodfekaagreatdoor", sum := "3a0f24e96588b7fe66b6407e2b1913e17f2a1314ad225e39465f2ef3e9b523b1", func := "rubric/rubriclaw29.ScriptForms", spec := "scriptForms", inPlace := ["math.Float64frombits", "math.Float64bits", "slices.overlaps[rubric/api.Attr]", "slices.overlaps[rubric/api.Change]"], unfollowed := true, recurses := true, named := ["rubric/script.fields", "unicode/utf8.first", "unicode/utf8.acceptRanges"], apart := false, laid := [("unicode/utf8.acceptRanges", laid_unicode_utf8_acceptRanges), ("rubric/script.fields", laid_rubric_script_fields), ("unicode/utf8.first", laid_unicode_utf8_first)], narrowed := true }
def ScriptFormsUptoSaid : Prop := scriptFormsUptoRow.holds Tryz.pinned (OpenSpec.upto scriptFormsSpec)

/-- 'rubriclaw29.ScriptOnly', WHERE WHAT IT READS IS OF BULK AT MOST 1048576: true; the input reads as it did. -/
def scriptOnlyUptoRow : OpenClaim := { program := "ytaimlfomodfekaagreatdoor", sum := "3a0f24e96588b7fe66b6407e2b1913e17f2a1314ad225e39465f2ef3e9b523b1", func := "rubric/rubriclaw29.ScriptOnly", spec := "scriptOnly", inPlace := ["math.Float64frombits", "math.Float64bits", "slices.overlaps[rubric/api.Attr]", "slices.overlaps[rubric/api.Change]"], unfollowed := true, recurses := true, named := ["rubric/script.fields", "unicode/utf8.first", "unicode/utf8.acceptRanges"], apart := false, laid := [("unicode/utf8.acceptRanges", laid_unicode_utf8_acceptRanges), ("rubric/script.fields", laid_rubric_script_fields), ("unicode/utf8.first", laid_unicode_utf8_first)], narrowed := true }
def ScriptOnlyUptoSaid : Prop := scriptOnlyUptoRow.holds Tryz.pinned (OpenSpec.upto scriptOnlySpec)

/-- 'rubriclaw29.ScriptPrefix', WHERE WHAT IT READS IS OF BULK AT MOST 1048576: true; the input reads as it did. -/
def scriptPrefixUptoRow : OpenClaim := { program := "ytaimlfomodfekaagreatdoor", sum := "3a0f24e96588b7fe66b6407e2b1913e17f2a1314ad225e39465f2ef3e9b523b1", func := "rubric/rubriclaw29.ScriptPrefix", spec := "scriptPrefix", inPlace := ["math.Float64frombits", "math.Float64bits", "slices.overlaps[rubric/api.Attr]", "slices.overlaps[rubric/api.Change]"], unfollowed := true, recurses := true, named := ["rubric/script.fields", "unicode/utf8.first", "unicode/utf8.acceptRanges"], apart := false, laid := [("unicode/utf8.acceptRanges", laid_unicode_utf8_acceptRanges), ("rubric/script.fields", laid_rubric_script_fields), ("unicode/utf8.first", laid_unicode_utf8_first)], narrowed := true }
def ScriptPrefixUptoSaid : Prop := scriptPrefixUptoRow.holds Tryz.pinned (OpenSpec.upto scriptPrefixSpec)

end Rows
end Go.Proofs.YtaimlfomodfekaaGreatDoor
