/-
  NARROWER THAN 'FOR EVERY INPUT', by the rows' own cells (each row's printed sentence says how): HistoryBack: laid · HistoryEmpties: laid · HistoryPlays: laid · HistoryNone: laid · HistoryBrackets: laid · HistoryMost: laid · CodecWrites: laid · CodecReads: laid · CodecOnly: laid · CodecSame: laid · CodecKeys: laid.
  DERIVED. THE GIVEN ROWS OF THIS SEAT. 11 by the template 'for every input the law returns true; each argument reads behind the call as it read before'; 0 by the template 'total and deterministic' (their statements: YtlbaopamhkmepaaGreatDoorTotals.lean).
  GIVEN WITH THE SEED: the statements are not yours to turn. If you find one false, say at which input.
  Laid BY PROGRAM, IN A SANDBOX (cutbox-rows.mjs): the forced cells as the released guide's own fill.sh prints them over the translation ad6a907417bc1a4f… (all of the seat's roots in one cut). By AI agents, Wed Nov 11 2026. No macro, syntax, notation, axiom, sorry.
-/
import Derived.Test.YtlbaopamhkmepaaGreatDoorChecked
import GoSem.PinnedTables
import GoSem.Claim
import GoSem.ClaimJoined
import GoSem.ClaimMapViews
import Derived.JoinedTies
import Derived.KernelRfl
namespace Go.Proofs.YtlbaopamhkmepaaGreatDoor
/- THE CELL 'sum', in the pinned program and in every row, IS THE sha256 OF THE DUMP (.gsa) THAT YtlbaopamhkmepaaGreatDoorProg.lean LOADS. Nothing in Lean hashes anything: it is a label: what it is worth is what the hold of that sum in a sandbox is worth. -/
noncomputable def Tryz.pinned : Pinned := { name := "ytlbaopamhkmepaagreatdoor", sum := "ad6a907417bc1a4fe105bc4e5ff7216c16201325808dde6a7dda61afbefb4d55", checked := Tryz.checked }
namespace Rows
def none {H : Type} : Left H := { results := [], args := [] }

/- WHAT THE LISTED PACKAGE-LEVEL VARIABLES READ AS WHEN THE CALL BEGINS. Each datum BY PROGRAM (the guide's laid-datum.mjs) off the statement by which the dump's own 'gosem.cut.vars' lays the variable. In a bare row this is a premise. The card (YtlbaopamhkmepaaGreatDoorCards.lean) ties it to the program's text. -/
def laid_unicode_utf8_acceptRanges {H : Type} : DataW H := .agg [.agg [.lit (.int .u8 128), .lit (.int .u8 191)], .agg [.lit (.int .u8 160), .lit (.int .u8 191)], .agg [.lit (.int .u8 128), .lit (.int .u8 159)], .agg [.lit (.int .u8 144), .lit (.int .u8 191)], .agg [.lit (.int .u8 128), .lit (.int .u8 143)], .agg [.lit (.int .u8 0), .lit (.int .u8 0)], .agg [.lit (.int .u8 0), .lit (.int .u8 0)], .agg [.lit (.int .u8 0), .lit (.int .u8 0)], .agg [.lit (.int .u8 0), .lit (.int .u8 0)], .agg [.lit (.int .u8 0), .lit (.int .u8 0)], .agg [.lit (.int .u8 0), .lit (.int .u8 0)], .agg [.lit (.int .u8 0), .lit (.int .u8 0)], .agg [.lit (.int .u8 0), .lit (.int .u8 0)], .agg [.lit (.int .u8 0), .lit (.int .u8 0)], .agg [.lit (.int .u8 0), .lit (.int .u8 0)], .agg [.lit (.int .u8 0), .lit (.int .u8 0)]]
/-- One of Go's own tables, pinned by name: the form's constant. -/
def laid_unicode_utf8_first : DataW Unit := Go.Pinned.utf8First

/-- 'rubriclaw27.HistoryBack': WHATEVER THE INPUT: true; the input reads as it did. -/
def historyBackSpec : ChangeSpec := { name := "historyBack", fn := fun _ => fun
  | [d1, d2] => { results := [.lit (.bool true)], args := [d1, d2] }
  | _ => none }
def historyBackRow : OpenClaim := { program := "ytlbaopamhkmepaagreatdoor", sum := "ad6a907417bc1a4fe105bc4e5ff7216c16201325808dde6a7dda61afbefb4d55", func := "rubric/rubriclaw27.HistoryBack", spec := "historyBack", inPlace := ["math.Float64frombits", "math.Float64bits"], unfollowed := true, recurses := true, named := ["unicode/utf8.first", "unicode/utf8.acceptRanges"], apart := false, laid := [("unicode/utf8.acceptRanges", laid_unicode_utf8_acceptRanges), ("unicode/utf8.first", laid_unicode_utf8_first)] }
def HistoryBackSaid : Prop := historyBackRow.holds Tryz.pinned (OpenSpec.ofChange historyBackSpec)

/-- ITS FALSE NEIGHBOUR: 'it returns false'. Refute it at one input. -/
def historyBackWrong : ChangeSpec := { name := "historyBack", fn := fun _ => fun
  | [d1, d2] => { results := [.lit (.bool false)], args := [d1, d2] }
  | _ => none }
def HistoryBackWrongFalsely : Prop := historyBackRow.holds Tryz.pinned (OpenSpec.ofChange historyBackWrong)

/-- 'rubriclaw27.HistoryEmpties': WHATEVER THE INPUT: true; the input reads as it did. -/
def historyEmptiesSpec : ChangeSpec := { name := "historyEmpties", fn := fun _ => fun
  | [d1, d2] => { results := [.lit (.bool true)], args := [d1, d2] }
  | _ => none }
def historyEmptiesRow : OpenClaim := { program := "ytlbaopamhkmepaagreatdoor", sum := "ad6a907417bc1a4fe105bc4e5ff7216c16201325808dde6a7dda61afbefb4d55", func := "rubric/rubriclaw27.HistoryEmpties", spec := "historyEmpties", inPlace := ["math.Float64frombits", "math.Float64bits"], unfollowed := true, recurses := true, named := ["unicode/utf8.first", "unicode/utf8.acceptRanges"], apart := false, laid := [("unicode/utf8.acceptRanges", laid_unicode_utf8_acceptRanges), ("unicode/utf8.first", laid_unicode_utf8_first)] }
def HistoryEmptiesSaid : Prop := historyEmptiesRow.holds Tryz.pinned (OpenSpec.ofChange historyEmptiesSpec)

/-- ITS FALSE NEIGHBOUR: 'it returns false'. Refute it at one input. -/
def historyEmptiesWrong : ChangeSpec := { name := "historyEmpties", fn := fun _ => fun
  | [d1, d2] => { results := [.lit (.bool false)], args := [d1, d2] }
  | _ => none }
def HistoryEmptiesWrongFalsely : Prop := historyEmptiesRow.holds Tryz.pinned (OpenSpec.ofChange historyEmptiesWrong)

/-- 'rubriclaw27.HistoryPlays': WHATEVER THE INPUT: true; the input reads as it did. -/
def historyPlaysSpec : ChangeSpec := { name := "historyPlays", fn := fun _ => fun
  | [d1, d2, d3] => { results := [.lit (.bool true)], args := [d1, d2, d3] }
  | _ => none }
def historyPlaysRow : OpenClaim := { program := "ytlbaopamhkmepaagreatdoor", sum := "ad6a907417bc1a4fe105bc4e5ff7216c16201325808dde6a7dda61afbefb4d55", func := "rubric/rubriclaw27.HistoryPlays", spec := "historyPlays", inPlace := ["math.Float64frombits", "math.Float64bits"], unfollowed := true, recurses := true, named := ["unicode/utf8.first", "unicode/utf8.acceptRanges"], apart := false, laid := [("unicode/utf8.acceptRanges", laid_unicode_utf8_acceptRanges), ("unicode/utf8.first", laid_unicode_utf8_first)] }
def HistoryPlaysSaid : Prop := historyPlaysRow.holds Tryz.pinned (OpenSpec.ofChange historyPlaysSpec)

/-- ITS FALSE NEIGHBOUR: 'it returns false'. Refute it at one input. -/
def historyPlaysWrong : ChangeSpec := { name := "historyPlays", fn := fun _ => fun
  | [d1, d2, d3] => { results := [.lit (.bool false)], args := [d1, d2, d3] }
  | _ => none }
def HistoryPlaysWrongFalsely : Prop := historyPlaysRow.holds Tryz.pinned (OpenSpec.ofChange historyPlaysWrong)

/-- 'rubriclaw27.HistoryNone': WHATEVER THE INPUT: true; the input reads as it did. -/
def historyNoneSpec : ChangeSpec := { name := "historyNone", fn := fun _ => fun
  | [d1, d2] => { results := [.lit (.bool true)], args := [d1, d2] }
  | _ => none }
def historyNoneRow : OpenClaim := { program := "ytlbaopamhkmepaagreatdoor", sum := "ad6a907417bc1a4fe105bc4e5ff7216c16201325808dde6a7dda61afbefb4d55", func := "rubric/rubriclaw27.HistoryNone", spec := "historyNone", inPlace := ["math.Float64frombits", "math.Float64bits"], unfollowed := true, recurses := true, named := ["unicode/utf8.first", "unicode/utf8.acceptRanges"], apart := false, laid := [("unicode/utf8.acceptRanges", laid_unicode_utf8_acceptRanges), ("unicode/utf8.first", laid_unicode_utf8_first)] }
def HistoryNoneSaid : Prop := historyNoneRow.holds Tryz.pinned (OpenSpec.ofChange historyNoneSpec)

/-- ITS FALSE NEIGHBOUR: 'it returns false'. Refute it at one input. -/
def historyNoneWrong : ChangeSpec := { name := "historyNone", fn := fun _ => fun
  | [d1, d2] => { results := [.lit (.bool false)], args := [d1, d2] }
  | _ => none }
def HistoryNoneWrongFalsely : Prop := historyNoneRow.holds Tryz.pinned (OpenSpec.ofChange historyNoneWrong)

/-- 'rubriclaw27.HistoryBrackets': WHATEVER THE INPUT: true; the input reads as it did. -/
def historyBracketsSpec : ChangeSpec := { name := "historyBrackets", fn := fun _ => fun
  | [d1, d2, d3] => { results := [.lit (.bool true)], args := [d1, d2, d3] }
  | _ => none }
def historyBracketsRow : OpenClaim := { program := "ytlbaopamhkmepaagreatdoor", sum := "ad6a907417bc1a4fe105bc4e5ff7216c16201325808dde6a7dda61afbefb4d55", func := "rubric/rubriclaw27.HistoryBrackets", spec := "historyBrackets", inPlace := ["math.Float64frombits", "math.Float64bits"], unfollowed := true, recurses := true, named := ["unicode/utf8.first", "unicode/utf8.acceptRanges"], apart := false, laid := [("unicode/utf8.acceptRanges", laid_unicode_utf8_acceptRanges), ("unicode/utf8.first", laid_unicode_utf8_first)] }
def HistoryBracketsSaid : Prop := historyBracketsRow.holds Tryz.pinned (OpenSpec.ofChange historyBracketsSpec)

/-- ITS FALSE NEIGHBOUR: 'it returns false'. Refute it at one input. -/
def historyBracketsWrong : ChangeSpec := { name := "historyBrackets", fn := fun _ => fun
  | [d1, d2, d3] => { results := [.lit (.bool false)], args := [d1, d2, d3] }
  | _ => none }
def HistoryBracketsWrongFalsely : Prop := historyBracketsRow.holds Tryz.pinned (OpenSpec.ofChange historyBracketsWrong)

/-- 'rubriclaw27.HistoryMost': WHATEVER THE INPUT: true; the input reads as it did. -/
def historyMostSpec : ChangeSpec := { name := "historyMost", fn := fun _ => fun
  | [d1, d2, d3] => { results := [.lit (.bool true)], args := [d1, d2, d3] }
  | _ => none }
def historyMostRow : OpenClaim := { program := "ytlbaopamhkmepaagreatdoor", sum := "ad6a907417bc1a4fe105bc4e5ff7216c16201325808dde6a7dda61afbefb4d55", func := "rubric/rubriclaw27.HistoryMost", spec := "historyMost", inPlace := ["math.Float64frombits", "math.Float64bits"], unfollowed := true, recurses := true, named := ["unicode/utf8.first", "unicode/utf8.acceptRanges"], apart := false, laid := [("unicode/utf8.acceptRanges", laid_unicode_utf8_acceptRanges), ("unicode/utf8.first", laid_unicode_utf8_first)] }
def HistoryMostSaid : Prop := historyMostRow.holds Tryz.pinned (OpenSpec.ofChange historyMostSpec)

/-- ITS FALSE NEIGHBOUR: 'it returns false'. Refute it at one input. -/
def historyMostWrong : ChangeSpec := { name := "historyMost", fn := fun _ => fun
  | [d1, d2, d3] => { results := [.lit (.bool false)], args := [d1, d2, d3] }
  | _ => none }
def HistoryMostWrongFalsely : Prop := historyMostRow.holds Tryz.pinned (OpenSpec.ofChange historyMostWrong)

/-- 'rubriclaw17.CodecWrites': WHATEVER THE INPUT: true; the input reads as it did. -/
def codecWritesSpec : ChangeSpec := { name := "codecWrites", fn := fun _ => fun
  | [d1, d2] => { results := [.lit (.bool true)], args := [d1, d2] }
  | _ => none }
def codecWritesRow : OpenClaim := { program := "ytlbaopamhkmepaagreatdoor", sum := "ad6a907417bc1a4fe105bc4e5ff7216c16201325808dde6a7dda61afbefb4d55", func := "rubric/rubriclaw17.CodecWrites", spec := "codecWrites", inPlace := ["math.Float64frombits", "math.Float64bits"], unfollowed := true, recurses := true, named := ["unicode/utf8.first", "unicode/utf8.acceptRanges"], apart := false, laid := [("unicode/utf8.acceptRanges", laid_unicode_utf8_acceptRanges), ("unicode/utf8.first", laid_unicode_utf8_first)] }
def CodecWritesSaid : Prop := codecWritesRow.holds Tryz.pinned (OpenSpec.ofChange codecWritesSpec)

/-- ITS FALSE NEIGHBOUR: 'it returns false'. Refute it at one input. -/
def codecWritesWrong : ChangeSpec := { name := "codecWrites", fn := fun _ => fun
  | [d1, d2] => { results := [.lit (.bool false)], args := [d1, d2] }
  | _ => none }
def CodecWritesWrongFalsely : Prop := codecWritesRow.holds Tryz.pinned (OpenSpec.ofChange codecWritesWrong)

/-- 'rubriclaw17.CodecReads': WHATEVER THE INPUT: true; the input reads as it did. -/
def codecReadsSpec : ChangeSpec := { name := "codecReads", fn := fun _ => fun
  | [d1, d2] => { results := [.lit (.bool true)], args := [d1, d2] }
  | _ => none }
def codecReadsRow : OpenClaim := { program := "ytlbaopamhkmepaagreatdoor", sum := "ad6a907417bc1a4fe105bc4e5ff7216c16201325808dde6a7dda61afbefb4d55", func := "rubric/rubriclaw17.CodecReads", spec := "codecReads", inPlace := ["math.Float64frombits", "math.Float64bits"], unfollowed := true, recurses := true, named := ["unicode/utf8.first", "unicode/utf8.acceptRanges"], apart := false, laid := [("unicode/utf8.acceptRanges", laid_unicode_utf8_acceptRanges), ("unicode/utf8.first", laid_unicode_utf8_first)] }
def CodecReadsSaid : Prop := codecReadsRow.holds Tryz.pinned (OpenSpec.ofChange codecReadsSpec)

/-- ITS FALSE NEIGHBOUR: 'it returns false'. Refute it at one input. -/
def codecReadsWrong : ChangeSpec := { name := "codecReads", fn := fun _ => fun
  | [d1, d2] => { results := [.lit (.bool false)], args := [d1, d2] }
  | _ => none }
def CodecReadsWrongFalsely : Prop := codecReadsRow.holds Tryz.pinned (OpenSpec.ofChange codecReadsWrong)

/-- 'rubriclaw17.CodecOnly': WHATEVER THE INPUT: true; the input reads as it did. -/
def codecOnlySpec : ChangeSpec := { name := "codecOnly", fn := fun _ => fun
  | [d1, d2, d3] => { results := [.lit (.bool true)], args := [d1, d2, d3] }
  | _ => none }
def codecOnlyRow : OpenClaim := { program := "ytlbaopamhkmepaagreatdoor", sum := "ad6a907417bc1a4fe105bc4e5ff7216c16201325808dde6a7dda61afbefb4d55", func := "rubric/rubriclaw17.CodecOnly", spec := "codecOnly", inPlace := ["math.Float64frombits", "math.Float64bits"], unfollowed := true, recurses := true, named := ["unicode/utf8.first", "unicode/utf8.acceptRanges"], apart := false, laid := [("unicode/utf8.acceptRanges", laid_unicode_utf8_acceptRanges), ("unicode/utf8.first", laid_unicode_utf8_first)] }
def CodecOnlySaid : Prop := codecOnlyRow.holds Tryz.pinned (OpenSpec.ofChange codecOnlySpec)

/-- ITS FALSE NEIGHBOUR: 'it returns false'. Refute it at one input. -/
def codecOnlyWrong : ChangeSpec := { name := "codecOnly", fn := fun _ => fun
  | [d1, d2, d3] => { results := [.lit (.bool false)], args := [d1, d2, d3] }
  | _ => none }
def CodecOnlyWrongFalsely : Prop := codecOnlyRow.holds Tryz.pinned (OpenSpec.ofChange codecOnlyWrong)

/-- 'rubriclaw17.CodecSame': WHATEVER THE INPUT: true; the input reads as it did. -/
def codecSameSpec : ChangeSpec := { name := "codecSame", fn := fun _ => fun
  | [d1, d2, d3] => { results := [.lit (.bool true)], args := [d1, d2, d3] }
  | _ => none }
def codecSameRow : OpenClaim := { program := "ytlbaopamhkmepaagreatdoor", sum := "ad6a907417bc1a4fe105bc4e5ff7216c16201325808dde6a7dda61afbefb4d55", func := "rubric/rubriclaw17.CodecSame", spec := "codecSame", inPlace := ["math.Float64frombits", "math.Float64bits"], unfollowed := true, recurses := true, named := ["unicode/utf8.first", "unicode/utf8.acceptRanges"], apart := false, laid := [("unicode/utf8.acceptRanges", laid_unicode_utf8_acceptRanges), ("unicode/utf8.first", laid_unicode_utf8_first)] }
def CodecSameSaid : Prop := codecSameRow.holds Tryz.pinned (OpenSpec.ofChange codecSameSpec)

/-- ITS FALSE NEIGHBOUR: 'it returns false'. Refute it at one input. -/
def codecSameWrong : ChangeSpec := { name := "codecSame", fn := fun _ => fun
  | [d1, d2, d3] => { results := [.lit (.bool false)], args := [d1, d2, d3] }
  | _ => none }
def CodecSameWrongFalsely : Prop := codecSameRow.holds Tryz.pinned (OpenSpec.ofChange codecSameWrong)

/-- 'rubriclaw17.CodecKeys': WHATEVER THE INPUT: true; the input reads as it did. -/
def codecKeysSpec : ChangeSpec := { name := "codecKeys", fn := fun _ => fun
  | [d1, d2, d3] => { results := [.lit (.bool true)], args := [d1, d2, d3] }
  | _ => none }
def codecKeysRow : OpenClaim := { program := "ytlbaopamhkmepaagreatdoor", sum := "ad6a907417bc1a4fe105bc4e5ff7216c16201325808dde6a7dda61afbefb4d55", func := "rubric/rubriclaw17.CodecKeys", spec := "codecKeys", inPlace := ["math.Float64frombits", "math.Float64bits"], unfollowed := true, recurses := true, named := ["unicode/utf8.first", "unicode/utf8.acceptRanges"], apart := false, laid := [("unicode/utf8.acceptRanges", laid_unicode_utf8_acceptRanges), ("unicode/utf8.first", laid_unicode_utf8_first)] }
def CodecKeysSaid : Prop := codecKeysRow.holds Tryz.pinned (OpenSpec.ofChange codecKeysSpec)

/-- ITS FALSE NEIGHBOUR: 'it returns false'. Refute it at one input. -/
def codecKeysWrong : ChangeSpec := { name := "codecKeys", fn := fun _ => fun
  | [d1, d2, d3] => { results := [.lit (.bool false)], args := [d1, d2, d3] }
  | _ => none }
def CodecKeysWrongFalsely : Prop := codecKeysRow.holds Tryz.pinned (OpenSpec.ofChange codecKeysWrong)

/- THE SECOND FORM. 'bulk': how many values and letters a reading holds, each counted each time it is reached (what is shared counts as often as it is met; a slice's spare places count too). A statement '..UptoSaid' is the law's where the arguments, and the package variables that the reading takes, are together of bulk at most 1048576: NARROWER than '..Said'. Prove '..Said' where nothing that the law and all that it calls make is longer than what came in: it says more and counts as full. Else prove '..UptoSaid'. A law counts once. -/
mutual
def uptoBulk {H : Type} : DataW H → Nat
  | .lit (.string bytes) => bytes.length + 1
  | .lit _ => 1
  | .nil => 1
  | .ptr d => uptoBulk d + 1
  | .slice elems spare => uptoBulkAll elems + uptoBulkAll spare + 1
  | .agg parts => uptoBulkAll parts + 1
  | .iface _ d => uptoBulk d + 1
  | .map entries => uptoBulkEntries entries + 1
  | .held _ => 1
def uptoBulkAll {H : Type} : List (DataW H) → Nat
  | [] => 0
  | d :: r => uptoBulk d + uptoBulkAll r
def uptoBulkEntries {H : Type} : List (Lit × DataW H) → Nat
  | [] => 0
  | x :: r => uptoBulkEntry x + uptoBulkEntries r
def uptoBulkEntry {H : Type} : Lit × DataW H → Nat
  | (.string bytes, d) => bytes.length + uptoBulk d + 1
  | (_, d) => uptoBulk d + 1
 end
def uptoSmall : (H : Type) → List (DataW H) → Bool := fun _ ds => decide (uptoBulkAll ds ≤ 1048576)
def OpenSpec.upto (s : _root_.Go.ChangeSpec) : _root_.Go.OpenSpec := { _root_.Go.OpenSpec.ofChange s with cond := some uptoSmall }

/-- 'rubriclaw27.HistoryBack', WHERE WHAT IT READS IS OF BULK AT MOST 1048576: true; the input reads as it did. -/
def historyBackUptoRow : OpenClaim := { program := "ytlbaopamhkmepaagreatdoor", sum := "ad6a907417bc1a4fe105bc4e5ff7216c16201325808dde6a7dda61afbefb4d55", func := "rubric/rubriclaw27.HistoryBack", spec := "historyBack", inPlace := ["math.Float64frombits", "math.Float64bits"], unfollowed := true, recurses := true, named := ["unicode/utf8.first", "unicode/utf8.acceptRanges"], apart := false, laid := [("unicode/utf8.acceptRanges", laid_unicode_utf8_acceptRanges), ("unicode/utf8.first", laid_unicode_utf8_first)], narrowed := true }
def HistoryBackUptoSaid : Prop := historyBackUptoRow.holds Tryz.pinned (OpenSpec.upto historyBackSpec)

/-- 'rubriclaw27.HistoryEmpties', WHERE WHAT IT READS IS OF BULK AT MOST 1048576: true; the input reads as it did. -/
def historyEmptiesUptoRow : OpenClaim := { program := "ytlbaopamhkmepaagreatdoor", sum := "ad6a907417bc1a4fe105bc4e5ff7216c16201325808dde6a7dda61afbefb4d55", func := "rubric/rubriclaw27.HistoryEmpties", spec := "historyEmpties", inPlace := ["math.Float64frombits", "math.Float64bits"], unfollowed := true, recurses := true, named := ["unicode/utf8.first", "unicode/utf8.acceptRanges"], apart := false, laid := [("unicode/utf8.acceptRanges", laid_unicode_utf8_acceptRanges), ("unicode/utf8.first", laid_unicode_utf8_first)], narrowed := true }
def HistoryEmptiesUptoSaid : Prop := historyEmptiesUptoRow.holds Tryz.pinned (OpenSpec.upto historyEmptiesSpec)

/-- 'rubriclaw27.HistoryPlays', WHERE WHAT IT READS IS OF BULK AT MOST 1048576: true; the input reads as it did. -/
def historyPlaysUptoRow : OpenClaim := { program := "ytlbaopamhkmepaagreatdoor", sum := "ad6a907417bc1a4fe105bc4e5ff7216c16201325808dde6a7dda61afbefb4d55", func := "rubric/rubriclaw27.HistoryPlays", spec := "historyPlays", inPlace := ["math.Float64frombits", "math.Float64bits"], unfollowed := true, recurses := true, named := ["unicode/utf8.first", "unicode/utf8.acceptRanges"], apart := false, laid := [("unicode/utf8.acceptRanges", laid_unicode_utf8_acceptRanges), ("unicode/utf8.first", laid_unicode_utf8_first)], narrowed := true }
def HistoryPlaysUptoSaid : Prop := historyPlaysUptoRow.holds Tryz.pinned (OpenSpec.upto historyPlaysSpec)

/-- 'rubriclaw27.HistoryNone', WHERE WHAT IT READS IS OF BULK AT MOST 1048576: true; the input reads as it did. -/
def historyNoneUptoRow : OpenClaim := { program := "ytlbaopamhkmepaagreatdoor", sum := "ad6a907417bc1a4fe105bc4e5ff7216c16201325808dde6a7dda61afbefb4d55", func := "rubric/rubriclaw27.HistoryNone", spec := "historyNone", inPlace := ["math.Float64frombits", "math.Float64bits"], unfollowed := true, recurses := true, named := ["unicode/utf8.first", "unicode/utf8.acceptRanges"], apart := false, laid := [("unicode/utf8.acceptRanges", laid_unicode_utf8_acceptRanges), ("unicode/utf8.first", laid_unicode_utf8_first)], narrowed := true }
def HistoryNoneUptoSaid : Prop := historyNoneUptoRow.holds Tryz.pinned (OpenSpec.upto historyNoneSpec)

/-- 'rubriclaw27.HistoryBrackets', WHERE WHAT IT READS IS OF BULK AT MOST 1048576: true; the input reads as it did. -/
def historyBracketsUptoRow : OpenClaim := { program := "ytlbaopamhkmepaagreatdoor", sum := "ad6a907417bc1a4fe105bc4e5ff7216c16201325808dde6a7dda61afbefb4d55", func := "rubric/rubriclaw27.HistoryBrackets", spec := "historyBrackets", inPlace := ["math.Float64frombits", "math.Float64bits"], unfollowed := true, recurses := true, named := ["unicode/utf8.first", "unicode/utf8.acceptRanges"], apart := false, laid := [("unicode/utf8.acceptRanges", laid_unicode_utf8_acceptRanges), ("unicode/utf8.first", laid_unicode_utf8_first)], narrowed := true }
def HistoryBracketsUptoSaid : Prop := historyBracketsUptoRow.holds Tryz.pinned (OpenSpec.upto historyBracketsSpec)

/-- 'rubriclaw27.HistoryMost', WHERE WHAT IT READS IS OF BULK AT MOST 1048576: true; the input reads as it did. -/
def historyMostUptoRow : OpenClaim := { program := "ytlbaopamhkmepaagreatdoor", sum := "ad6a907417bc1a4fe105bc4e5ff7216c16201325808dde6a7dda61afbefb4d55", func := "rubric/rubriclaw27.HistoryMost", spec := "historyMost", inPlace := ["math.Float64frombits", "math.Float64bits"], unfollowed := true, recurses := true, named := ["unicode/utf8.first", "unicode/utf8.acceptRanges"], apart := false, laid := [("unicode/utf8.acceptRanges", laid_unicode_utf8_acceptRanges), ("unicode/utf8.first", laid_unicode_utf8_first)], narrowed := true }
def HistoryMostUptoSaid : Prop := historyMostUptoRow.holds Tryz.pinned (OpenSpec.upto historyMostSpec)

/-- 'rubriclaw17.CodecWrites', WHERE WHAT IT READS IS OF BULK AT MOST 1048576: true; the input reads as it did. -/
def codecWritesUptoRow : OpenClaim := { program := "ytlbaopamhkmepaagreatdoor", sum := "ad6a907417bc1a4fe105bc4e5ff7216c16201325808dde6a7dda61afbefb4d55", func := "rubric/rubriclaw17.CodecWrites", spec := "codecWrites", inPlace := ["math.Float64frombits", "math.Float64bits"], unfollowed := true, recurses := true, named := ["unicode/utf8.first", "unicode/utf8.acceptRanges"], apart := false, laid := [("unicode/utf8.acceptRanges", laid_unicode_utf8_acceptRanges), ("unicode/utf8.first", laid_unicode_utf8_first)], narrowed := true }
def CodecWritesUptoSaid : Prop := codecWritesUptoRow.holds Tryz.pinned (OpenSpec.upto codecWritesSpec)

/-- 'rubriclaw17.CodecReads', WHERE WHAT IT READS IS OF BULK AT MOST 1048576: true; the input reads as it did. -/
def codecReadsUptoRow : OpenClaim := { program := "ytlbaopamhkmepaagreatdoor", sum := "ad6a907417bc1a4fe105bc4e5ff7216c16201325808dde6a7dda61afbefb4d55", func := "rubric/rubriclaw17.CodecReads", spec := "codecReads", inPlace := ["math.Float64frombits", "math.Float64bits"], unfollowed := true, recurses := true, named := ["unicode/utf8.first", "unicode/utf8.acceptRanges"], apart := false, laid := [("unicode/utf8.acceptRanges", laid_unicode_utf8_acceptRanges), ("unicode/utf8.first", laid_unicode_utf8_first)], narrowed := true }
def CodecReadsUptoSaid : Prop := codecReadsUptoRow.holds Tryz.pinned (OpenSpec.upto codecReadsSpec)

/-- 'rubriclaw17.CodecOnly', WHERE WHAT IT READS IS OF BULK AT MOST 1048576: true; the input reads as it did. -/
def codecOnlyUptoRow : OpenClaim := { program := "ytlbaopamhkmepaagreatdoor", sum := "ad6a907417bc1a4fe105bc4e5ff7216c16201325808dde6a7dda61afbefb4d55", func := "rubric/rubriclaw17.CodecOnly", spec := "codecOnly", inPlace := ["math.Float64frombits", "math.Float64bits"], unfollowed := true, recurses := true, named := ["unicode/utf8.first", "unicode/utf8.acceptRanges"], apart := false, laid := [("unicode/utf8.acceptRanges", laid_unicode_utf8_acceptRanges), ("unicode/utf8.first", laid_unicode_utf8_first)], narrowed := true }
def CodecOnlyUptoSaid : Prop := codecOnlyUptoRow.holds Tryz.pinned (OpenSpec.upto codecOnlySpec)

/-- 'rubriclaw17.CodecSame', WHERE WHAT IT READS IS OF BULK AT MOST 1048576: true; the input reads as it did. -/
def codecSameUptoRow : OpenClaim := { program := "ytlbaopamhkmepaagreatdoor", sum := "ad6a907417bc1a4fe105bc4e5ff7216c16201325808dde6a7dda61afbefb4d55", func := "rubric/rubriclaw17.CodecSame", spec := "codecSame", inPlace := ["math.Float64frombits", "math.Float64bits"], unfollowed := true, recurses := true, named := ["unicode/utf8.first", "unicode/utf8.acceptRanges"], apart := false, laid := [("unicode/utf8.acceptRanges", laid_unicode_utf8_acceptRanges), ("unicode/utf8.first", laid_unicode_utf8_first)], narrowed := true }
def CodecSameUptoSaid : Prop := codecSameUptoRow.holds Tryz.pinned (OpenSpec.upto codecSameSpec)

/-- 'rubriclaw17.CodecKeys', WHERE WHAT IT READS IS OF BULK AT MOST 1048576: true; the input reads as it did. -/
def codecKeysUptoRow : OpenClaim := { program := "ytlbaopamhkmepaagreatdoor", sum := "ad6a907417bc1a4fe105bc4e5ff7216c16201325808dde6a7dda61afbefb4d55", func := "rubric/rubriclaw17.CodecKeys", spec := "codecKeys", inPlace := ["math.Float64frombits", "math.Float64bits"], unfollowed := true, recurses := true, named := ["unicode/utf8.first", "unicode/utf8.acceptRanges"], apart := false, laid := [("unicode/utf8.acceptRanges", laid_unicode_utf8_acceptRanges), ("unicode/utf8.first", laid_unicode_utf8_first)], narrowed := true }
def CodecKeysUptoSaid : Prop := codecKeysUptoRow.holds Tryz.pinned (OpenSpec.upto codecKeysSpec)

end Rows
end Go.Proofs.YtlbaopamhkmepaaGreatDoor
