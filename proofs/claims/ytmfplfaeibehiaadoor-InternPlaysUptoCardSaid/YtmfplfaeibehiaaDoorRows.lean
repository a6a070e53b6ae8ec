/-
  NARROWER THAN 'FOR EVERY INPUT', by the rows' own cells (each row's printed sentence says how): SchemaFits: laid · SchemaKeys: laid · SchemaNone: laid · InternReuse: laid · InternOne: laid · InternStays: laid · InternHolds: laid · InternPlays: laid · InternNone: laid.
  DERIVED. THE GIVEN ROWS OF THIS SEAT. 9 by the template 'for every input the law returns true; each argument reads behind the call as it read before'; 0 by the template 'total and deterministic' (their statements: YtmfplfaeibehiaaDoorTotals.lean).
  GIVEN WITH THE SEED: the statements are not yours to turn. If you find one false, say at which input.
  Laid BY PROGRAM, IN A SANDBOX (cutbox-rows.mjs): the forced cells as the released guide's own fill.sh prints them over the translation af2c938f17d071de… (all of the seat's roots in one cut). By AI agents, Wed Nov 11 2026. No macro, syntax, notation, axiom, sorry.
-/
import Derived.Test.YtmfplfaeibehiaaDoorChecked
import GoSem.PinnedTables
import GoSem.Claim
import GoSem.ClaimJoined
import GoSem.ClaimMapViews
import Derived.JoinedTies
import Derived.KernelRfl
namespace Go.Proofs.YtmfplfaeibehiaaDoor
/- THE CELL 'sum', in the pinned program and in every row, IS THE sha256 OF THE DUMP (.gsa) THAT YtmfplfaeibehiaaDoorProg.lean LOADS. Nothing in Lean hashes anything: it is a label: what it is worth is what the hold of that sum in a sandbox is worth. -/
noncomputable def Tryd.pinned : Pinned := { name := "ytmfplfaeibehiaadoor", sum := "af2c938f17d071de94f7baf3246c792b339d76e396224d2f97626c52341c87c0", checked := Tryd.checked }
namespace Rows
def none {H : Type} : Left H := { results := [], args := [] }

/- WHAT THE LISTED PACKAGE-LEVEL VARIABLES READ AS WHEN THE CALL BEGINS. Each datum BY PROGRAM (the guide's laid-datum.mjs) off the statement by which the dump's own 'gosem.cut.vars' lays the variable. In a bare row this is a premise. The card (YtmfplfaeibehiaaDoorCards.lean) ties it to the program's text. -/
def laid_unicode_utf8_acceptRanges {H : Type} : DataW H := .agg [.agg [.lit (.int .u8 128), .lit (.int .u8 191)], .agg [.lit (.int .u8 160), .lit (.int .u8 191)], .agg [.lit (.int .u8 128), .lit (.int .u8 159)], .agg [.lit (.int .u8 144), .lit (.int .u8 191)], .agg [.lit (.int .u8 128), .lit (.int .u8 143)], .agg [.lit (.int .u8 0), .lit (.int .u8 0)], .agg [.lit (.int .u8 0), .lit (.int .u8 0)], .agg [.lit (.int .u8 0), .lit (.int .u8 0)], .agg [.lit (.int .u8 0), .lit (.int .u8 0)], .agg [.lit (.int .u8 0), .lit (.int .u8 0)], .agg [.lit (.int .u8 0), .lit (.int .u8 0)], .agg [.lit (.int .u8 0), .lit (.int .u8 0)], .agg [.lit (.int .u8 0), .lit (.int .u8 0)], .agg [.lit (.int .u8 0), .lit (.int .u8 0)], .agg [.lit (.int .u8 0), .lit (.int .u8 0)], .agg [.lit (.int .u8 0), .lit (.int .u8 0)]]
/-- One of Go's own tables, pinned by name: the form's constant. -/
def laid_unicode_utf8_first : DataW Unit := Go.Pinned.utf8First

/-- 'rubriclaw04.SchemaFits': WHATEVER THE INPUT: true; the input reads as it did. -/
def schemaFitsSpec : ChangeSpec := { name := "schemaFits", fn := fun _ => fun
  | [d1, d2] => { results := [.lit (.bool true)], args := [d1, d2] }
  | _ => none }
def schemaFitsRow : OpenClaim := { program := "ytmfplfaeibehiaadoor", sum := "af2c938f17d071de94f7baf3246c792b339d76e396224d2f97626c52341c87c0", func := "rubric/rubriclaw04.SchemaFits", spec := "schemaFits", inPlace := ["math.Float64frombits", "math.Float64bits"], unfollowed := true, recurses := true, named := ["unicode/utf8.first", "unicode/utf8.acceptRanges"], apart := false, laid := [("unicode/utf8.acceptRanges", laid_unicode_utf8_acceptRanges), ("unicode/utf8.first", laid_unicode_utf8_first)] }
def SchemaFitsSaid : Prop := schemaFitsRow.holds Tryd.pinned (OpenSpec.ofChange schemaFitsSpec)

/-- ITS FALSE NEIGHBOUR: 'it returns false'. Refute it at one input. -/
def schemaFitsWrong : ChangeSpec := { name := "schemaFits", fn := fun _ => fun
  | [d1, d2] => { results := [.lit (.bool false)], args := [d1, d2] }
  | _ => none }
def SchemaFitsWrongFalsely : Prop := schemaFitsRow.holds Tryd.pinned (OpenSpec.ofChange schemaFitsWrong)

/-- 'rubriclaw04.SchemaKeys': WHATEVER THE INPUT: true; the input reads as it did. -/
def schemaKeysSpec : ChangeSpec := { name := "schemaKeys", fn := fun _ => fun
  | [d1, d2, d3] => { results := [.lit (.bool true)], args := [d1, d2, d3] }
  | _ => none }
def schemaKeysRow : OpenClaim := { program := "ytmfplfaeibehiaadoor", sum := "af2c938f17d071de94f7baf3246c792b339d76e396224d2f97626c52341c87c0", func := "rubric/rubriclaw04.SchemaKeys", spec := "schemaKeys", inPlace := ["math.Float64frombits", "math.Float64bits"], unfollowed := true, recurses := true, named := ["unicode/utf8.first", "unicode/utf8.acceptRanges"], apart := false, laid := [("unicode/utf8.acceptRanges", laid_unicode_utf8_acceptRanges), ("unicode/utf8.first", laid_unicode_utf8_first)] }
def SchemaKeysSaid : Prop := schemaKeysRow.holds Tryd.pinned (OpenSpec.ofChange schemaKeysSpec)

/-- ITS FALSE NEIGHBOUR: 'it returns false'. Refute it at one input. -/
def schemaKeysWrong : ChangeSpec := { name := "schemaKeys", fn := fun _ => fun
  | [d1, d2, d3] => { results := [.lit (.bool false)], args := [d1, d2, d3] }
  | _ => none }
def SchemaKeysWrongFalsely : Prop := schemaKeysRow.holds Tryd.pinned (OpenSpec.ofChange schemaKeysWrong)

/-- 'rubriclaw04.SchemaNone': WHATEVER THE INPUT: true; the input reads as it did. -/
def schemaNoneSpec : ChangeSpec := { name := "schemaNone", fn := fun _ => fun
  | [d1, d2] => { results := [.lit (.bool true)], args := [d1, d2] }
  | _ => none }
def schemaNoneRow : OpenClaim := { program := "ytmfplfaeibehiaadoor", sum := "af2c938f17d071de94f7baf3246c792b339d76e396224d2f97626c52341c87c0", func := "rubric/rubriclaw04.SchemaNone", spec := "schemaNone", inPlace := ["math.Float64frombits", "math.Float64bits"], unfollowed := true, recurses := true, named := ["unicode/utf8.first", "unicode/utf8.acceptRanges"], apart := false, laid := [("unicode/utf8.acceptRanges", laid_unicode_utf8_acceptRanges), ("unicode/utf8.first", laid_unicode_utf8_first)] }
def SchemaNoneSaid : Prop := schemaNoneRow.holds Tryd.pinned (OpenSpec.ofChange schemaNoneSpec)

/-- ITS FALSE NEIGHBOUR: 'it returns false'. Refute it at one input. -/
def schemaNoneWrong : ChangeSpec := { name := "schemaNone", fn := fun _ => fun
  | [d1, d2] => { results := [.lit (.bool false)], args := [d1, d2] }
  | _ => none }
def SchemaNoneWrongFalsely : Prop := schemaNoneRow.holds Tryd.pinned (OpenSpec.ofChange schemaNoneWrong)

/-- 'rubriclaw07.InternReuse': WHATEVER THE INPUT: true; the input reads as it did. -/
def internReuseSpec : ChangeSpec := { name := "internReuse", fn := fun _ => fun
  | [d1, d2] => { results := [.lit (.bool true)], args := [d1, d2] }
  | _ => none }
def internReuseRow : OpenClaim := { program := "ytmfplfaeibehiaadoor", sum := "af2c938f17d071de94f7baf3246c792b339d76e396224d2f97626c52341c87c0", func := "rubric/rubriclaw07.InternReuse", spec := "internReuse", inPlace := ["math.Float64frombits", "math.Float64bits"], unfollowed := true, recurses := true, named := ["unicode/utf8.first", "unicode/utf8.acceptRanges"], apart := false, laid := [("unicode/utf8.acceptRanges", laid_unicode_utf8_acceptRanges), ("unicode/utf8.first", laid_unicode_utf8_first)] }
def InternReuseSaid : Prop := internReuseRow.holds Tryd.pinned (OpenSpec.ofChange internReuseSpec)

/-- ITS FALSE NEIGHBOUR: 'it returns false'. Refute it at one input. -/
def internReuseWrong : ChangeSpec := { name := "internReuse", fn := fun _ => fun
  | [d1, d2] => { results := [.lit (.bool false)], args := [d1, d2] }
  | _ => none }
def InternReuseWrongFalsely : Prop := internReuseRow.holds Tryd.pinned (OpenSpec.ofChange internReuseWrong)

/-- 'rubriclaw07.InternOne': WHATEVER THE INPUT: true; the input reads as it did. -/
def internOneSpec : ChangeSpec := { name := "internOne", fn := fun _ => fun
  | [d1, d2] => { results := [.lit (.bool true)], args := [d1, d2] }
  | _ => none }
def internOneRow : OpenClaim := { program := "ytmfplfaeibehiaadoor", sum := "af2c938f17d071de94f7baf3246c792b339d76e396224d2f97626c52341c87c0", func := "rubric/rubriclaw07.InternOne", spec := "internOne", inPlace := ["math.Float64frombits", "math.Float64bits"], unfollowed := true, recurses := true, named := ["unicode/utf8.first", "unicode/utf8.acceptRanges"], apart := false, laid := [("unicode/utf8.acceptRanges", laid_unicode_utf8_acceptRanges), ("unicode/utf8.first", laid_unicode_utf8_first)] }
def InternOneSaid : Prop := internOneRow.holds Tryd.pinned (OpenSpec.ofChange internOneSpec)

/-- ITS FALSE NEIGHBOUR: 'it returns false'. Refute it at one input. -/
def internOneWrong : ChangeSpec := { name := "internOne", fn := fun _ => fun
  | [d1, d2] => { results := [.lit (.bool false)], args := [d1, d2] }
  | _ => none }
def InternOneWrongFalsely : Prop := internOneRow.holds Tryd.pinned (OpenSpec.ofChange internOneWrong)

/-- 'rubriclaw07.InternStays': WHATEVER THE INPUT: true; the input reads as it did. -/
def internStaysSpec : ChangeSpec := { name := "internStays", fn := fun _ => fun
  | [d1, d2, d3] => { results := [.lit (.bool true)], args := [d1, d2, d3] }
  | _ => none }
def internStaysRow : OpenClaim := { program := "ytmfplfaeibehiaadoor", sum := "af2c938f17d071de94f7baf3246c792b339d76e396224d2f97626c52341c87c0", func := "rubric/rubriclaw07.InternStays", spec := "internStays", inPlace := ["math.Float64frombits", "math.Float64bits"], unfollowed := true, recurses := true, named := ["unicode/utf8.first", "unicode/utf8.acceptRanges"], apart := false, laid := [("unicode/utf8.acceptRanges", laid_unicode_utf8_acceptRanges), ("unicode/utf8.first", laid_unicode_utf8_first)] }
def InternStaysSaid : Prop := internStaysRow.holds Tryd.pinned (OpenSpec.ofChange internStaysSpec)

/-- ITS FALSE NEIGHBOUR: 'it returns false'. Refute it at one input. -/
def internStaysWrong : ChangeSpec := { name := "internStays", fn := fun _ => fun
  | [d1, d2, d3] => { results := [.lit (.bool false)], args := [d1, d2, d3] }
  | _ => none }
def InternStaysWrongFalsely : Prop := internStaysRow.holds Tryd.pinned (OpenSpec.ofChange internStaysWrong)

/-- 'rubriclaw07.InternHolds': WHATEVER THE INPUT: true; the input reads as it did. -/
def internHoldsSpec : ChangeSpec := { name := "internHolds", fn := fun _ => fun
  | [d1, d2] => { results := [.lit (.bool true)], args := [d1, d2] }
  | _ => none }
def internHoldsRow : OpenClaim := { program := "ytmfplfaeibehiaadoor", sum := "af2c938f17d071de94f7baf3246c792b339d76e396224d2f97626c52341c87c0", func := "rubric/rubriclaw07.InternHolds", spec := "internHolds", inPlace := ["math.Float64frombits", "math.Float64bits"], unfollowed := true, recurses := true, named := ["unicode/utf8.first", "unicode/utf8.acceptRanges"], apart := false, laid := [("unicode/utf8.acceptRanges", laid_unicode_utf8_acceptRanges), ("unicode/utf8.first", laid_unicode_utf8_first)] }
def InternHoldsSaid : Prop := internHoldsRow.holds Tryd.pinned (OpenSpec.ofChange internHoldsSpec)

/-- ITS FALSE NEIGHBOUR: 'it returns false'. Refute it at one input. -/
def internHoldsWrong : ChangeSpec := { name := "internHolds", fn := fun _ => fun
  | [d1, d2] => { results := [.lit (.bool false)], args := [d1, d2] }
  | _ => none }
def InternHoldsWrongFalsely : Prop := internHoldsRow.holds Tryd.pinned (OpenSpec.ofChange internHoldsWrong)

/-- 'rubriclaw07.InternPlays': WHATEVER THE INPUT: true; the input reads as it did. -/
def internPlaysSpec : ChangeSpec := { name := "internPlays", fn := fun _ => fun
  | [d1, d2] => { results := [.lit (.bool true)], args := [d1, d2] }
  | _ => none }
def internPlaysRow : OpenClaim := { program := "ytmfplfaeibehiaadoor", sum := "af2c938f17d071de94f7baf3246c792b339d76e396224d2f97626c52341c87c0", func := "rubric/rubriclaw07.InternPlays", spec := "internPlays", inPlace := ["math.Float64frombits", "math.Float64bits"], unfollowed := true, recurses := true, named := ["unicode/utf8.first", "unicode/utf8.acceptRanges"], apart := false, laid := [("unicode/utf8.acceptRanges", laid_unicode_utf8_acceptRanges), ("unicode/utf8.first", laid_unicode_utf8_first)] }
def InternPlaysSaid : Prop := internPlaysRow.holds Tryd.pinned (OpenSpec.ofChange internPlaysSpec)

/-- ITS FALSE NEIGHBOUR: 'it returns false'. Refute it at one input. -/
def internPlaysWrong : ChangeSpec := { name := "internPlays", fn := fun _ => fun
  | [d1, d2] => { results := [.lit (.bool false)], args := [d1, d2] }
  | _ => none }
def InternPlaysWrongFalsely : Prop := internPlaysRow.holds Tryd.pinned (OpenSpec.ofChange internPlaysWrong)

/-- 'rubriclaw07.InternNone': WHATEVER THE INPUT: true; the input reads as it did. -/
def internNoneSpec : ChangeSpec := { name := "internNone", fn := fun _ => fun
  | [d1, d2] => { results := [.lit (.bool true)], args := [d1, d2] }
  | _ => none }
def internNoneRow : OpenClaim := { program := "ytmfplfaeibehiaadoor", sum := "af2c938f17d071de94f7baf3246c792b339d76e396224d2f97626c52341c87c0", func := "rubric/rubriclaw07.InternNone", spec := "internNone", inPlace := ["math.Float64frombits", "math.Float64bits"], unfollowed := true, recurses := true, named := ["unicode/utf8.first", "unicode/utf8.acceptRanges"], apart := false, laid := [("unicode/utf8.acceptRanges", laid_unicode_utf8_acceptRanges), ("unicode/utf8.first", laid_unicode_utf8_first)] }
def InternNoneSaid : Prop := internNoneRow.holds Tryd.pinned (OpenSpec.ofChange internNoneSpec)

/-- ITS FALSE NEIGHBOUR: 'it returns false'. Refute it at one input. -/
def internNoneWrong : ChangeSpec := { name := "internNone", fn := fun _ => fun
  | [d1, d2] => { results := [.lit (.bool false)], args := [d1, d2] }
  | _ => none }
def InternNoneWrongFalsely : Prop := internNoneRow.holds Tryd.pinned (OpenSpec.ofChange internNoneWrong)

/- THE SECOND FORM. 'bulk': how many values and letters a reading holds, each counted each time it is reached (what is shared counts as often as it is met; a slice's spare places count too). A statement '..UptoSaid' is the law's where the arguments, and the package variables that the reading takes, are together of bulk at most 1048576: NARROWER than '..Said'. Prove '..Said' where nothing that the law and all that it calls make is longer than what came in: it says more and counts as full. Else prove '..UptoSaid'. A law counts once. -/
mutual
def uptoBulk {H : Type} : DataW H → Nat
  | .lit (.string bytes) => bytes.length + 1
  | .lit _ => 1
  | .nil => 1
  | .ptr d => uptoBulk d + 1
  | .slice elems spare => uptoBulkAll elems + uptoBulkAll spare + 1
  | .agg parts => uptoBulkAll parts + 1
  | .iface _ d => uptoBulk d + 1
  | .map entries => uptoBulkEntries entries + 1
  | .held _ => 1
def uptoBulkAll {H : Type} : List (DataW H) → Nat
  | [] => 0
  | d :: r => uptoBulk d + uptoBulkAll r
def uptoBulkEntries {H : Type} : List (Lit × DataW H) → Nat
  | [] => 0
  | x :: r => uptoBulkEntry x + uptoBulkEntries r
def uptoBulkEntry {H : Type} : Lit × DataW H → Nat
  | (.string bytes, d) => bytes.length + uptoBulk d + 1
  | (_, d) => uptoBulk d + 1
 end
def uptoSmall : (H : Type) → List (DataW H) → Bool := fun _ ds => decide (uptoBulkAll ds ≤ 1048576)
def OpenSpec.upto (s : _root_.Go.ChangeSpec) : _root_.Go.OpenSpec := { _root_.Go.OpenSpec.ofChange s with cond := some uptoSmall }

/-- 'rubriclaw04.SchemaFits', WHERE WHAT IT READS IS OF BULK AT MOST 1048576: true; the input reads as it did. -/
def schemaFitsUptoRow : OpenClaim := { program := "ytmfplfaeibehiaadoor", sum := "af2c938f17d071de94f7baf3246c792b339d76e396224d2f97626c52341c87c0", func := "rubric/rubriclaw04.SchemaFits", spec := "schemaFits", inPlace := ["math.Float64frombits", "math.Float64bits"], unfollowed := true, recurses := true, named := ["unicode/utf8.first", "unicode/utf8.acceptRanges"], apart := false, laid := [("unicode/utf8.acceptRanges", laid_unicode_utf8_acceptRanges), ("unicode/utf8.first", laid_unicode_utf8_first)], narrowed := true }
def SchemaFitsUptoSaid : Prop := schemaFitsUptoRow.holds Tryd.pinned (OpenSpec.upto schemaFitsSpec)

/-- 'rubriclaw04.SchemaKeys', WHERE WHAT IT READS IS OF BULK AT MOST 1048576: true; the input reads as it did. -/
def schemaKeysUptoRow : OpenClaim := { program := "ytmfplfaeibehiaadoor", sum := "af2c938f17d071de94f7baf3246c792b339d76e396224d2f97626c52341c87c0", func := "rubric/rubriclaw04.SchemaKeys", spec := "schemaKeys", inPlace := ["math.Float64frombits", "math.Float64bits"], unfollowed := true, recurses := true, named := ["unicode/utf8.first", "unicode/utf8.acceptRanges"], apart := false, laid := [("unicode/utf8.acceptRanges", laid_unicode_utf8_acceptRanges), ("unicode/utf8.first", laid_unicode_utf8_first)], narrowed := true }
def SchemaKeysUptoSaid : Prop := schemaKeysUptoRow.holds Tryd.pinned (OpenSpec.upto schemaKeysSpec)

/-- 'rubriclaw04.SchemaNone', WHERE WHAT IT READS IS OF BULK AT MOST 1048576: true; the input reads as it did. -/
def schemaNoneUptoRow : OpenClaim := { program := "ytmfplfaeibehiaadoor", sum := "af2c938f17d071de94f7baf3246c792b339d76e396224d2f97626c52341c87c0", func := "rubric/rubriclaw04.SchemaNone", spec := "schemaNone", inPlace := ["math.Float64frombits", "math.Float64bits"], unfollowed := true, recurses := true, named := ["unicode/utf8.first", "unicode/utf8.acceptRanges"], apart := false, laid := [("unicode/utf8.acceptRanges", laid_unicode_utf8_acceptRanges), ("unicode/utf8.first", laid_unicode_utf8_first)], narrowed := true }
def SchemaNoneUptoSaid : Prop := schemaNoneUptoRow.holds Tryd.pinned (OpenSpec.upto schemaNoneSpec)

/-- 'rubriclaw07.InternReuse', WHERE WHAT IT READS IS OF BULK AT MOST 1048576: true; the input reads as it did. -/
def internReuseUptoRow : OpenClaim := { program := "ytmfplfaeibehiaadoor", sum := "af2c938f17d071de94f7baf3246c792b339d76e396224d2f97626c52341c87c0", func := "rubric/rubriclaw07.InternReuse", spec := "internReuse", inPlace := ["math.Float64frombits", "math.Float64bits"], unfollowed := true, recurses := true, named := ["unicode/utf8.first", "unicode/utf8.acceptRanges"], apart := false, laid := [("unicode/utf8.acceptRanges", laid_unicode_utf8_acceptRanges), ("unicode/utf8.first", laid_unicode_utf8_first)], narrowed := true }
def InternReuseUptoSaid : Prop := internReuseUptoRow.holds Tryd.pinned (OpenSpec.upto internReuseSpec)

/-- 'rubriclaw07.InternOne', WHERE WHAT IT READS IS OF BULK AT MOST 1048576: true; the input reads as it did. -/
def internOneUptoRow : OpenClaim := { program := "ytmfplfaeibehiaadoor", sum := "af2c938f17d071de94f7baf3246c792b339d76e396224d2f97626c52341c87c0", func := "rubric/rubriclaw07.InternOne", spec := "internOne", inPlace := ["math.Float64frombits", "math.Float64bits"], unfollowed := true, recurses := true, named := ["unicode/utf8.first", "unicode/utf8.acceptRanges"], apart := false, laid := [("unicode/utf8.acceptRanges", laid_unicode_utf8_acceptRanges), ("unicode/utf8.first", laid_unicode_utf8_first)], narrowed := true }
def InternOneUptoSaid : Prop := internOneUptoRow.holds Tryd.pinned (OpenSpec.upto internOneSpec)

/-- 'rubriclaw07.InternStays', WHERE WHAT IT READS IS OF BULK AT MOST 1048576: true; the input reads as it did. -/
def internStaysUptoRow : OpenClaim := { program := "ytmfplfaeibehiaadoor", sum := "af2c938f17d071de94f7baf3246c792b339d76e396224d2f97626c52341c87c0", func := "rubric/rubriclaw07.InternStays", spec := "internStays", inPlace := ["math.Float64frombits", "math.Float64bits"], unfollowed := true, recurses := true, named := ["unicode/utf8.first", "unicode/utf8.acceptRanges"], apart := false, laid := [("unicode/utf8.acceptRanges", laid_unicode_utf8_acceptRanges), ("unicode/utf8.first", laid_unicode_utf8_first)], narrowed := true }
def InternStaysUptoSaid : Prop := internStaysUptoRow.holds Tryd.pinned (OpenSpec.upto internStaysSpec)

/-- 'rubriclaw07.InternHolds', WHERE WHAT IT READS IS OF BULK AT MOST 1048576: true; the input reads as it did. -/
def internHoldsUptoRow : OpenClaim := { program := "ytmfplfaeibehiaadoor", sum := "af2c938f17d071de94f7baf3246c792b339d76e396224d2f97626c52341c87c0", func := "rubric/rubriclaw07.InternHolds", spec := "internHolds", inPlace := ["math.Float64frombits", "math.Float64bits"], unfollowed := true, recurses := true, named := ["unicode/utf8.first", "unicode/utf8.acceptRanges"], apart := false, laid := [("unicode/utf8.acceptRanges", laid_unicode_utf8_acceptRanges), ("unicode/utf8.first", laid_unicode_utf8_first)], narrowed := true }
def InternHoldsUptoSaid : Prop := internHoldsUptoRow.holds Tryd.pinned (OpenSpec.upto internHoldsSpec)

/-- 'rubriclaw07.InternPlays', WHERE WHAT IT READS IS OF BULK AT MOST 1048576: true; the input reads as it did. -/
def internPlaysUptoRow : OpenClaim := { program := "ytmfplfaeibehiaadoor", sum := "af2c938f17d071de94f7baf3246c792b339d76e396224d2f97626c52341c87c0", func := "rubric/rubriclaw07.InternPlays", spec := "internPlays", inPlace := ["math.Float64frombits", "math.Float64bits"], unfollowed := true, recurses := true, named := ["unicode/utf8.first", "unicode/utf8.acceptRanges"], apart := false, laid := [("unicode/utf8.acceptRanges", laid_unicode_utf8_acceptRanges), ("unicode/utf8.first", laid_unicode_utf8_first)], narrowed := true }
def InternPlaysUptoSaid : Prop := internPlaysUptoRow.holds Tryd.pinned (OpenSpec.upto internPlaysSpec)

/-- 'rubriclaw07.InternNone', WHERE WHAT IT READS IS OF BULK AT MOST 1048576: true; the input reads as it did. -/
def internNoneUptoRow : OpenClaim := { program := "ytmfplfaeibehiaadoor", sum := "af2c938f17d071de94f7baf3246c792b339d76e396224d2f97626c52341c87c0", func := "rubric/rubriclaw07.InternNone", spec := "internNone", inPlace := ["math.Float64frombits", "math.Float64bits"], unfollowed := true, recurses := true, named := ["unicode/utf8.first", "unicode/utf8.acceptRanges"], apart := false, laid := [("unicode/utf8.acceptRanges", laid_unicode_utf8_acceptRanges), ("unicode/utf8.first", laid_unicode_utf8_first)], narrowed := true }
def InternNoneUptoSaid : Prop := internNoneUptoRow.holds Tryd.pinned (OpenSpec.upto internNoneSpec)

end Rows
end Go.Proofs.YtmfplfaeibehiaaDoor
