/-
  No cell of these rows narrows 'for every input' (looked for: loops, veiled, ifaces, maps, wideKeys, modest, calm, conditions, laid).
  DERIVED. THE GIVEN ROWS OF THIS SEAT. 11 by the template 'for every input the law returns true; each argument reads behind the call as it read before'; 0 by the template 'total and deterministic' (their statements: YtmfplfaeibehiaaTotals.lean).
  GIVEN WITH THE SEED: the statements are not yours to turn. If you find one false, say at which input.
  Laid BY PROGRAM, IN A SANDBOX (cutbox-rows.mjs): the forced cells as the released guide's own fill.sh prints them over the translation 1262f671f6643ae4… (all of the seat's roots in one cut). By AI agents, Wed Nov 11 2026. No macro, syntax, notation, axiom, sorry.
-/
import Derived.Test.YtmfplfaeibehiaaChecked
import GoSem.Claim
import GoSem.ClaimJoined
import GoSem.ClaimMapViews
import Derived.JoinedTies
import Derived.KernelRfl
namespace Go.Proofs.Ytmfplfaeibehiaa
/- THE CELL 'sum', in the pinned program and in every row, IS THE sha256 OF THE DUMP (.gsa) THAT YtmfplfaeibehiaaProg.lean LOADS. Nothing in Lean hashes anything: it is a label: what it is worth is what the hold of that sum in a sandbox is worth. -/
noncomputable def Try.pinned : Pinned := { name := "ytmfplfaeibehiaa", sum := "1262f671f6643ae4a95a2cc88baed7cc394fb6d04b722f9647e8683563286f28", checked := Try.checked }
namespace Rows
def none {H : Type} : Left H := { results := [], args := [] }

/-- 'rubriclaw12.BlocksJoin': WHATEVER THE INPUT: true; the input reads as it did. -/
def blocksJoinSpec : ChangeSpec := { name := "blocksJoin", fn := fun _ => fun
  | [d1, d2] => { results := [.lit (.bool true)], args := [d1, d2] }
  | _ => none }
def blocksJoinRow : OpenClaim := { program := "ytmfplfaeibehiaa", sum := "1262f671f6643ae4a95a2cc88baed7cc394fb6d04b722f9647e8683563286f28", func := "rubric/rubriclaw12.BlocksJoin", spec := "blocksJoin", unfollowed := true, recurses := true, apart := false }
def BlocksJoinSaid : Prop := blocksJoinRow.holds Try.pinned (OpenSpec.ofChange blocksJoinSpec)

/-- ITS FALSE NEIGHBOUR: 'it returns false'. Refute it at one input. -/
def blocksJoinWrong : ChangeSpec := { name := "blocksJoin", fn := fun _ => fun
  | [d1, d2] => { results := [.lit (.bool false)], args := [d1, d2] }
  | _ => none }
def BlocksJoinWrongFalsely : Prop := blocksJoinRow.holds Try.pinned (OpenSpec.ofChange blocksJoinWrong)

/-- 'rubriclaw12.BlocksPlaces': WHATEVER THE INPUT: true; the input reads as it did. -/
def blocksPlacesSpec : ChangeSpec := { name := "blocksPlaces", fn := fun _ => fun
  | [d1, d2] => { results := [.lit (.bool true)], args := [d1, d2] }
  | _ => none }
def blocksPlacesRow : OpenClaim := { program := "ytmfplfaeibehiaa", sum := "1262f671f6643ae4a95a2cc88baed7cc394fb6d04b722f9647e8683563286f28", func := "rubric/rubriclaw12.BlocksPlaces", spec := "blocksPlaces", unfollowed := true, recurses := true, apart := false }
def BlocksPlacesSaid : Prop := blocksPlacesRow.holds Try.pinned (OpenSpec.ofChange blocksPlacesSpec)

/-- ITS FALSE NEIGHBOUR: 'it returns false'. Refute it at one input. -/
def blocksPlacesWrong : ChangeSpec := { name := "blocksPlaces", fn := fun _ => fun
  | [d1, d2] => { results := [.lit (.bool false)], args := [d1, d2] }
  | _ => none }
def BlocksPlacesWrongFalsely : Prop := blocksPlacesRow.holds Try.pinned (OpenSpec.ofChange blocksPlacesWrong)

/-- 'rubriclaw12.BlocksCells': WHATEVER THE INPUT: true; the input reads as it did. -/
def blocksCellsSpec : ChangeSpec := { name := "blocksCells", fn := fun _ => fun
  | [d] => { results := [.lit (.bool true)], args := [d] }
  | _ => none }
def blocksCellsRow : OpenClaim := { program := "ytmfplfaeibehiaa", sum := "1262f671f6643ae4a95a2cc88baed7cc394fb6d04b722f9647e8683563286f28", func := "rubric/rubriclaw12.BlocksCells", spec := "blocksCells", unfollowed := true, recurses := true, apart := false }
def BlocksCellsSaid : Prop := blocksCellsRow.holds Try.pinned (OpenSpec.ofChange blocksCellsSpec)

/-- ITS FALSE NEIGHBOUR: 'it returns false'. Refute it at one input. -/
def blocksCellsWrong : ChangeSpec := { name := "blocksCells", fn := fun _ => fun
  | [d] => { results := [.lit (.bool false)], args := [d] }
  | _ => none }
def BlocksCellsWrongFalsely : Prop := blocksCellsRow.holds Try.pinned (OpenSpec.ofChange blocksCellsWrong)

/-- 'rubriclaw12.BlocksCuts': WHATEVER THE INPUT: true; the input reads as it did. -/
def blocksCutsSpec : ChangeSpec := { name := "blocksCuts", fn := fun _ => fun
  | [d1, d2, d3, d4] => { results := [.lit (.bool true)], args := [d1, d2, d3, d4] }
  | _ => none }
def blocksCutsRow : OpenClaim := { program := "ytmfplfaeibehiaa", sum := "1262f671f6643ae4a95a2cc88baed7cc394fb6d04b722f9647e8683563286f28", func := "rubric/rubriclaw12.BlocksCuts", spec := "blocksCuts", unfollowed := true, recurses := true, apart := false }
def BlocksCutsSaid : Prop := blocksCutsRow.holds Try.pinned (OpenSpec.ofChange blocksCutsSpec)

/-- ITS FALSE NEIGHBOUR: 'it returns false'. Refute it at one input. -/
def blocksCutsWrong : ChangeSpec := { name := "blocksCuts", fn := fun _ => fun
  | [d1, d2, d3, d4] => { results := [.lit (.bool false)], args := [d1, d2, d3, d4] }
  | _ => none }
def BlocksCutsWrongFalsely : Prop := blocksCutsRow.holds Try.pinned (OpenSpec.ofChange blocksCutsWrong)

/-- 'rubriclaw12.BlocksRows': WHATEVER THE INPUT: true; the input reads as it did. -/
def blocksRowsSpec : ChangeSpec := { name := "blocksRows", fn := fun _ => fun
  | [d1, d2, d3] => { results := [.lit (.bool true)], args := [d1, d2, d3] }
  | _ => none }
def blocksRowsRow : OpenClaim := { program := "ytmfplfaeibehiaa", sum := "1262f671f6643ae4a95a2cc88baed7cc394fb6d04b722f9647e8683563286f28", func := "rubric/rubriclaw12.BlocksRows", spec := "blocksRows", unfollowed := true, recurses := true, apart := false }
def BlocksRowsSaid : Prop := blocksRowsRow.holds Try.pinned (OpenSpec.ofChange blocksRowsSpec)

/-- ITS FALSE NEIGHBOUR: 'it returns false'. Refute it at one input. -/
def blocksRowsWrong : ChangeSpec := { name := "blocksRows", fn := fun _ => fun
  | [d1, d2, d3] => { results := [.lit (.bool false)], args := [d1, d2, d3] }
  | _ => none }
def BlocksRowsWrongFalsely : Prop := blocksRowsRow.holds Try.pinned (OpenSpec.ofChange blocksRowsWrong)

/-- 'rubriclaw16.NormalForms': WHATEVER THE INPUT: true; the input reads as it did. -/
def normalFormsSpec : ChangeSpec := { name := "normalForms", fn := fun _ => fun
  | [d1, d2] => { results := [.lit (.bool true)], args := [d1, d2] }
  | _ => none }
def normalFormsRow : OpenClaim := { program := "ytmfplfaeibehiaa", sum := "1262f671f6643ae4a95a2cc88baed7cc394fb6d04b722f9647e8683563286f28", func := "rubric/rubriclaw16.NormalForms", spec := "normalForms", unfollowed := true, recurses := true, apart := false }
def NormalFormsSaid : Prop := normalFormsRow.holds Try.pinned (OpenSpec.ofChange normalFormsSpec)

/-- ITS FALSE NEIGHBOUR: 'it returns false'. Refute it at one input. -/
def normalFormsWrong : ChangeSpec := { name := "normalForms", fn := fun _ => fun
  | [d1, d2] => { results := [.lit (.bool false)], args := [d1, d2] }
  | _ => none }
def NormalFormsWrongFalsely : Prop := normalFormsRow.holds Try.pinned (OpenSpec.ofChange normalFormsWrong)

/-- 'rubriclaw16.NormalMakes': WHATEVER THE INPUT: true; the input reads as it did. -/
def normalMakesSpec : ChangeSpec := { name := "normalMakes", fn := fun _ => fun
  | [d1, d2] => { results := [.lit (.bool true)], args := [d1, d2] }
  | _ => none }
def normalMakesRow : OpenClaim := { program := "ytmfplfaeibehiaa", sum := "1262f671f6643ae4a95a2cc88baed7cc394fb6d04b722f9647e8683563286f28", func := "rubric/rubriclaw16.NormalMakes", spec := "normalMakes", unfollowed := true, recurses := true, apart := false }
def NormalMakesSaid : Prop := normalMakesRow.holds Try.pinned (OpenSpec.ofChange normalMakesSpec)

/-- ITS FALSE NEIGHBOUR: 'it returns false'. Refute it at one input. -/
def normalMakesWrong : ChangeSpec := { name := "normalMakes", fn := fun _ => fun
  | [d1, d2] => { results := [.lit (.bool false)], args := [d1, d2] }
  | _ => none }
def NormalMakesWrongFalsely : Prop := normalMakesRow.holds Try.pinned (OpenSpec.ofChange normalMakesWrong)

/-- 'rubriclaw16.NormalTwice': WHATEVER THE INPUT: true; the input reads as it did. -/
def normalTwiceSpec : ChangeSpec := { name := "normalTwice", fn := fun _ => fun
  | [d1, d2] => { results := [.lit (.bool true)], args := [d1, d2] }
  | _ => none }
def normalTwiceRow : OpenClaim := { program := "ytmfplfaeibehiaa", sum := "1262f671f6643ae4a95a2cc88baed7cc394fb6d04b722f9647e8683563286f28", func := "rubric/rubriclaw16.NormalTwice", spec := "normalTwice", unfollowed := true, recurses := true, apart := false }
def NormalTwiceSaid : Prop := normalTwiceRow.holds Try.pinned (OpenSpec.ofChange normalTwiceSpec)

/-- ITS FALSE NEIGHBOUR: 'it returns false'. Refute it at one input. -/
def normalTwiceWrong : ChangeSpec := { name := "normalTwice", fn := fun _ => fun
  | [d1, d2] => { results := [.lit (.bool false)], args := [d1, d2] }
  | _ => none }
def NormalTwiceWrongFalsely : Prop := normalTwiceRow.holds Try.pinned (OpenSpec.ofChange normalTwiceWrong)

/-- 'rubriclaw16.NormalMany': WHATEVER THE INPUT: true; the input reads as it did. -/
def normalManySpec : ChangeSpec := { name := "normalMany", fn := fun _ => fun
  | [d1, d2, d3] => { results := [.lit (.bool true)], args := [d1, d2, d3] }
  | _ => none }
def normalManyRow : OpenClaim := { program := "ytmfplfaeibehiaa", sum := "1262f671f6643ae4a95a2cc88baed7cc394fb6d04b722f9647e8683563286f28", func := "rubric/rubriclaw16.NormalMany", spec := "normalMany", unfollowed := true, recurses := true, apart := false }
def NormalManySaid : Prop := normalManyRow.holds Try.pinned (OpenSpec.ofChange normalManySpec)

/-- ITS FALSE NEIGHBOUR: 'it returns false'. Refute it at one input. -/
def normalManyWrong : ChangeSpec := { name := "normalMany", fn := fun _ => fun
  | [d1, d2, d3] => { results := [.lit (.bool false)], args := [d1, d2, d3] }
  | _ => none }
def NormalManyWrongFalsely : Prop := normalManyRow.holds Try.pinned (OpenSpec.ofChange normalManyWrong)

/-- 'rubriclaw16.NormalShort': WHATEVER THE INPUT: true; the input reads as it did. -/
def normalShortSpec : ChangeSpec := { name := "normalShort", fn := fun _ => fun
  | [d1, d2] => { results := [.lit (.bool true)], args := [d1, d2] }
  | _ => none }
def normalShortRow : OpenClaim := { program := "ytmfplfaeibehiaa", sum := "1262f671f6643ae4a95a2cc88baed7cc394fb6d04b722f9647e8683563286f28", func := "rubric/rubriclaw16.NormalShort", spec := "normalShort", unfollowed := true, recurses := true, apart := false }
def NormalShortSaid : Prop := normalShortRow.holds Try.pinned (OpenSpec.ofChange normalShortSpec)

/-- ITS FALSE NEIGHBOUR: 'it returns false'. Refute it at one input. -/
def normalShortWrong : ChangeSpec := { name := "normalShort", fn := fun _ => fun
  | [d1, d2] => { results := [.lit (.bool false)], args := [d1, d2] }
  | _ => none }
def NormalShortWrongFalsely : Prop := normalShortRow.holds Try.pinned (OpenSpec.ofChange normalShortWrong)

/-- 'rubriclaw04.SchemaGroups': WHATEVER THE INPUT: true; the input reads as it did. -/
def schemaGroupsSpec : ChangeSpec := { name := "schemaGroups", fn := fun _ => fun
  | [d] => { results := [.lit (.bool true)], args := [d] }
  | _ => none }
def schemaGroupsRow : OpenClaim := { program := "ytmfplfaeibehiaa", sum := "1262f671f6643ae4a95a2cc88baed7cc394fb6d04b722f9647e8683563286f28", func := "rubric/rubriclaw04.SchemaGroups", spec := "schemaGroups", unfollowed := true, recurses := true, apart := false }
def SchemaGroupsSaid : Prop := schemaGroupsRow.holds Try.pinned (OpenSpec.ofChange schemaGroupsSpec)

/-- ITS FALSE NEIGHBOUR: 'it returns false'. Refute it at one input. -/
def schemaGroupsWrong : ChangeSpec := { name := "schemaGroups", fn := fun _ => fun
  | [d] => { results := [.lit (.bool false)], args := [d] }
  | _ => none }
def SchemaGroupsWrongFalsely : Prop := schemaGroupsRow.holds Try.pinned (OpenSpec.ofChange schemaGroupsWrong)

/- THE SECOND FORM. 'bulk': how many values and letters a reading holds, each counted each time it is reached (what is shared counts as often as it is met; a slice's spare places count too). A statement '..UptoSaid' is the law's where the arguments, and the package variables that the reading takes, are together of bulk at most 1048576: NARROWER than '..Said'. Prove '..Said' where nothing that the law and all that it calls make is longer than what came in: it says more and counts as full. Else prove '..UptoSaid'. A law counts once. -/
mutual
def uptoBulk {H : Type} : DataW H → Nat
  | .lit (.string bytes) => bytes.length + 1
  | .lit _ => 1
  | .nil => 1
  | .ptr d => uptoBulk d + 1
  | .slice elems spare => uptoBulkAll elems + uptoBulkAll spare + 1
  | .agg parts => uptoBulkAll parts + 1
  | .iface _ d => uptoBulk d + 1
  | .map entries => uptoBulkEntries entries + 1
  | .held _ => 1
def uptoBulkAll {H : Type} : List (DataW H) → Nat
  | [] => 0
  | d :: r => uptoBulk d + uptoBulkAll r
def uptoBulkEntries {H : Type} : List (Lit × DataW H) → Nat
  | [] => 0
  | x :: r => uptoBulkEntry x + uptoBulkEntries r
def uptoBulkEntry {H : Type} : Lit × DataW H → Nat
  | (.string bytes, d) => bytes.length + uptoBulk d + 1
  | (_, d) => uptoBulk d + 1
 end
def uptoSmall : (H : Type) → List (DataW H) → Bool := fun _ ds => decide (uptoBulkAll ds ≤ 1048576)
def OpenSpec.upto (s : _root_.Go.ChangeSpec) : _root_.Go.OpenSpec := { _root_.Go.OpenSpec.ofChange s with cond := some uptoSmall }

/-- 'rubriclaw12.BlocksJoin', WHERE WHAT IT READS IS OF BULK AT MOST 1048576: true; the input reads as it did. -/
def blocksJoinUptoRow : OpenClaim := { program := "ytmfplfaeibehiaa", sum := "1262f671f6643ae4a95a2cc88baed7cc394fb6d04b722f9647e8683563286f28", func := "rubric/rubriclaw12.BlocksJoin", spec := "blocksJoin", unfollowed := true, recurses := true, apart := false, narrowed := true }
def BlocksJoinUptoSaid : Prop := blocksJoinUptoRow.holds Try.pinned (OpenSpec.upto blocksJoinSpec)

/-- 'rubriclaw12.BlocksPlaces', WHERE WHAT IT READS IS OF BULK AT MOST 1048576: true; the input reads as it did. -/
def blocksPlacesUptoRow : OpenClaim := { program := "ytmfplfaeibehiaa", sum := "1262f671f6643ae4a95a2cc88baed7cc394fb6d04b722f9647e8683563286f28", func := "rubric/rubriclaw12.BlocksPlaces", spec := "blocksPlaces", unfollowed := true, recurses := true, apart := false, narrowed := true }
def BlocksPlacesUptoSaid : Prop := blocksPlacesUptoRow.holds Try.pinned (OpenSpec.upto blocksPlacesSpec)

/-- 'rubriclaw12.BlocksCells', WHERE WHAT IT READS IS OF BULK AT MOST 1048576: true; the input reads as it did. -/
def blocksCellsUptoRow : OpenClaim := { program := "ytmfplfaeibehiaa", sum := "1262f671f6643ae4a95a2cc88baed7cc394fb6d04b722f9647e8683563286f28", func := "rubric/rubriclaw12.BlocksCells", spec := "blocksCells", unfollowed := true, recurses := true, apart := false, narrowed := true }
def BlocksCellsUptoSaid : Prop := blocksCellsUptoRow.holds Try.pinned (OpenSpec.upto blocksCellsSpec)

/-- 'rubriclaw12.BlocksCuts', WHERE WHAT IT READS IS OF BULK AT MOST 1048576: true; the input reads as it did. -/
def blocksCutsUptoRow : OpenClaim := { program := "ytmfplfaeibehiaa", sum := "1262f671f6643ae4a95a2cc88baed7cc394fb6d04b722f9647e8683563286f28", func := "rubric/rubriclaw12.BlocksCuts", spec := "blocksCuts", unfollowed := true, recurses := true, apart := false, narrowed := true }
def BlocksCutsUptoSaid : Prop := blocksCutsUptoRow.holds Try.pinned (OpenSpec.upto blocksCutsSpec)

/-- 'rubriclaw12.BlocksRows', WHERE WHAT IT READS IS OF BULK AT MOST 1048576: true; the input reads as it did. -/
def blocksRowsUptoRow : OpenClaim := { program := "ytmfplfaeibehiaa", sum := "1262f671f6643ae4a95a2cc88baed7cc394fb6d04b722f9647e8683563286f28", func := "rubric/rubriclaw12.BlocksRows", spec := "blocksRows", unfollowed := true, recurses := true, apart := false, narrowed := true }
def BlocksRowsUptoSaid : Prop := blocksRowsUptoRow.holds Try.pinned (OpenSpec.upto blocksRowsSpec)

/-- 'rubriclaw16.NormalForms', WHERE WHAT IT READS IS OF BULK AT MOST 1048576: true; the input reads as it did. -/
def normalFormsUptoRow : OpenClaim := { program := "ytmfplfaeibehiaa", sum := "1262f671f6643ae4a95a2cc88baed7cc394fb6d04b722f9647e8683563286f28", func := "rubric/rubriclaw16.NormalForms", spec := "normalForms", unfollowed := true, recurses := true, apart := false, narrowed := true }
def NormalFormsUptoSaid : Prop := normalFormsUptoRow.holds Try.pinned (OpenSpec.upto normalFormsSpec)

/-- 'rubriclaw16.NormalMakes', WHERE WHAT IT READS IS OF BULK AT MOST 1048576: true; the input reads as it did. -/
def normalMakesUptoRow : OpenClaim := { program := "ytmfplfaeibehiaa", sum := "1262f671f6643ae4a95a2cc88baed7cc394fb6d04b722f9647e8683563286f28", func := "rubric/rubriclaw16.NormalMakes", spec := "normalMakes", unfollowed := true, recurses := true, apart := false, narrowed := true }
def NormalMakesUptoSaid : Prop := normalMakesUptoRow.holds Try.pinned (OpenSpec.upto normalMakesSpec)

/-- 'rubriclaw16.NormalTwice', WHERE WHAT IT READS IS OF BULK AT MOST 1048576: true; the input reads as it did. -/
def normalTwiceUptoRow : OpenClaim := { program := "ytmfplfaeibehiaa", sum := "1262f671f6643ae4a95a2cc88baed7cc394fb6d04b722f9647e8683563286f28", func := "rubric/rubriclaw16.NormalTwice", spec := "normalTwice", unfollowed := true, recurses := true, apart := false, narrowed := true }
def NormalTwiceUptoSaid : Prop := normalTwiceUptoRow.holds Try.pinned (OpenSpec.upto normalTwiceSpec)

/-- 'rubriclaw16.NormalMany', WHERE WHAT IT READS IS OF BULK AT MOST 1048576: true; the input reads as it did. -/
def normalManyUptoRow : OpenClaim := { program := "ytmfplfaeibehiaa", sum := "1262f671f6643ae4a95a2cc88baed7cc394fb6d04b722f9647e8683563286f28", func := "rubric/rubriclaw16.NormalMany", spec := "normalMany", unfollowed := true, recurses := true, apart := false, narrowed := true }
def NormalManyUptoSaid : Prop := normalManyUptoRow.holds Try.pinned (OpenSpec.upto normalManySpec)

/-- 'rubriclaw16.NormalShort', WHERE WHAT IT READS IS OF BULK AT MOST 1048576: true; the input reads as it did. -/
def normalShortUptoRow : OpenClaim := { program := "ytmfplfaeibehiaa", sum := "1262f671f6643ae4a95a2cc88baed7cc394fb6d04b722f9647e8683563286f28", func := "rubric/rubriclaw16.NormalShort", spec := "normalShort", unfollowed := true, recurses := true, apart := false, narrowed := true }
def NormalShortUptoSaid : Prop := normalShortUptoRow.holds Try.pinned (OpenSpec.upto normalShortSpec)

/-- 'rubriclaw04.SchemaGroups', WHERE WHAT IT READS IS OF BULK AT MOST 1048576: true; the input reads as it did. -/
def schemaGroupsUptoRow : OpenClaim := { program := "ytmfplfaeibehiaa", sum := "1262f671f6643ae4a95a2cc88baed7cc394fb6d04b722f9647e8683563286f28", func := "rubric/rubriclaw04.SchemaGroups", spec := "schemaGroups", unfollowed := true, recurses := true, apart := false, narrowed := true }
def SchemaGroupsUptoSaid : Prop := schemaGroupsUptoRow.holds Try.pinned (OpenSpec.upto schemaGroupsSpec)

end Rows
end Go.Proofs.Ytmfplfaeibehiaa
