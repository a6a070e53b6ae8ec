/-
  DERIVED. GIVEN WITH THE SEED: THE CARDS: each row of YtlbaopamhkmepaaGreatDoorRows.lean that lists a variable, with what it lists TIED to the program's text (the seventh form; the later family's looks); each row that meets fmt, with fmt's text TOLD by the authors' own Lean function (tested against real Go, not proved from fmt's source: count such statements apart). THE CARD IS WHAT COUNTS. Prove the row's statement (the work); the ties are given (YtlbaopamhkmepaaGreatDoorTie.lean); close each card by the builder's one call (the guide's Derived/Test/ToyasCard.lean, 'card_holds'). Laid BY PROGRAM, IN A SANDBOX (cutbox-door.mjs). By AI agents, Wed Nov 11 2026. No macro, syntax, notation, axiom, sorry.
-/
import Derived.Test.YtlbaopamhkmepaaGreatDoorRows
import GoSem.ClaimSeven
namespace Go.Proofs.YtlbaopamhkmepaaGreatDoor
namespace Rows

/-- THE TIED CARD OF 'rubriclaw27.HistoryBack'. -/
def historyBackCard : Claim7 := { stood := { row := historyBackRow, standIns := [], harness := (true, "7ff8edec0ea1b3693d7981b5f589e4d72ea1d53f7ad1e7c2eef7b7972748ffae"), looks := false }, kinds := [], alts := [], laidByText := true, laidKinds := [.data, .pinned], laidTests := true, laidLooks := .later }
def HistoryBackCardSaid : Prop := Claim7.holds Tryz.pinned (.plain (OpenSpec.ofChange historyBackSpec)) historyBackCard

/-- THE TIED CARD OF 'rubriclaw27.HistoryEmpties'. -/
def historyEmptiesCard : Claim7 := { stood := { row := historyEmptiesRow, standIns := [], harness := (true, "7ff8edec0ea1b3693d7981b5f589e4d72ea1d53f7ad1e7c2eef7b7972748ffae"), looks := false }, kinds := [], alts := [], laidByText := true, laidKinds := [.data, .pinned], laidTests := true, laidLooks := .later }
def HistoryEmptiesCardSaid : Prop := Claim7.holds Tryz.pinned (.plain (OpenSpec.ofChange historyEmptiesSpec)) historyEmptiesCard

/-- THE TIED CARD OF 'rubriclaw27.HistoryPlays'. -/
def historyPlaysCard : Claim7 := { stood := { row := historyPlaysRow, standIns := [], harness := (true, "7ff8edec0ea1b3693d7981b5f589e4d72ea1d53f7ad1e7c2eef7b7972748ffae"), looks := false }, kinds := [], alts := [], laidByText := true, laidKinds := [.data, .pinned], laidTests := true, laidLooks := .later }
def HistoryPlaysCardSaid : Prop := Claim7.holds Tryz.pinned (.plain (OpenSpec.ofChange historyPlaysSpec)) historyPlaysCard

/-- THE TIED CARD OF 'rubriclaw27.HistoryNone'. -/
def historyNoneCard : Claim7 := { stood := { row := historyNoneRow, standIns := [], harness := (true, "7ff8edec0ea1b3693d7981b5f589e4d72ea1d53f7ad1e7c2eef7b7972748ffae"), looks := false }, kinds := [], alts := [], laidByText := true, laidKinds := [.data, .pinned], laidTests := true, laidLooks := .later }
def HistoryNoneCardSaid : Prop := Claim7.holds Tryz.pinned (.plain (OpenSpec.ofChange historyNoneSpec)) historyNoneCard

/-- THE TIED CARD OF 'rubriclaw27.HistoryBrackets'. -/
def historyBracketsCard : Claim7 := { stood := { row := historyBracketsRow, standIns := [], harness := (true, "7ff8edec0ea1b3693d7981b5f589e4d72ea1d53f7ad1e7c2eef7b7972748ffae"), looks := false }, kinds := [], alts := [], laidByText := true, laidKinds := [.data, .pinned], laidTests := true, laidLooks := .later }
def HistoryBracketsCardSaid : Prop := Claim7.holds Tryz.pinned (.plain (OpenSpec.ofChange historyBracketsSpec)) historyBracketsCard

/-- THE TIED CARD OF 'rubriclaw27.HistoryMost'. -/
def historyMostCard : Claim7 := { stood := { row := historyMostRow, standIns := [], harness := (true, "7ff8edec0ea1b3693d7981b5f589e4d72ea1d53f7ad1e7c2eef7b7972748ffae"), looks := false }, kinds := [], alts := [], laidByText := true, laidKinds := [.data, .pinned], laidTests := true, laidLooks := .later }
def HistoryMostCardSaid : Prop := Claim7.holds Tryz.pinned (.plain (OpenSpec.ofChange historyMostSpec)) historyMostCard

/-- THE TIED CARD OF 'rubriclaw17.CodecWrites'. -/
def codecWritesCard : Claim7 := { stood := { row := codecWritesRow, standIns := [], harness := (true, "7ff8edec0ea1b3693d7981b5f589e4d72ea1d53f7ad1e7c2eef7b7972748ffae"), looks := false }, kinds := [], alts := [], laidByText := true, laidKinds := [.data, .pinned], laidTests := true, laidLooks := .later }
def CodecWritesCardSaid : Prop := Claim7.holds Tryz.pinned (.plain (OpenSpec.ofChange codecWritesSpec)) codecWritesCard

/-- THE TIED CARD OF 'rubriclaw17.CodecReads'. -/
def codecReadsCard : Claim7 := { stood := { row := codecReadsRow, standIns := [], harness := (true, "7ff8edec0ea1b3693d7981b5f589e4d72ea1d53f7ad1e7c2eef7b7972748ffae"), looks := false }, kinds := [], alts := [], laidByText := true, laidKinds := [.data, .pinned], laidTests := true, laidLooks := .later }
def CodecReadsCardSaid : Prop := Claim7.holds Tryz.pinned (.plain (OpenSpec.ofChange codecReadsSpec)) codecReadsCard

/-- THE TIED CARD OF 'rubriclaw17.CodecOnly'. -/
def codecOnlyCard : Claim7 := { stood := { row := codecOnlyRow, standIns := [], harness := (true, "7ff8edec0ea1b3693d7981b5f589e4d72ea1d53f7ad1e7c2eef7b7972748ffae"), looks := false }, kinds := [], alts := [], laidByText := true, laidKinds := [.data, .pinned], laidTests := true, laidLooks := .later }
def CodecOnlyCardSaid : Prop := Claim7.holds Tryz.pinned (.plain (OpenSpec.ofChange codecOnlySpec)) codecOnlyCard

/-- THE TIED CARD OF 'rubriclaw17.CodecSame'. -/
def codecSameCard : Claim7 := { stood := { row := codecSameRow, standIns := [], harness := (true, "7ff8edec0ea1b3693d7981b5f589e4d72ea1d53f7ad1e7c2eef7b7972748ffae"), looks := false }, kinds := [], alts := [], laidByText := true, laidKinds := [.data, .pinned], laidTests := true, laidLooks := .later }
def CodecSameCardSaid : Prop := Claim7.holds Tryz.pinned (.plain (OpenSpec.ofChange codecSameSpec)) codecSameCard

/-- THE TIED CARD OF 'rubriclaw17.CodecKeys'. -/
def codecKeysCard : Claim7 := { stood := { row := codecKeysRow, standIns := [], harness := (true, "7ff8edec0ea1b3693d7981b5f589e4d72ea1d53f7ad1e7c2eef7b7972748ffae"), looks := false }, kinds := [], alts := [], laidByText := true, laidKinds := [.data, .pinned], laidTests := true, laidLooks := .later }
def CodecKeysCardSaid : Prop := Claim7.holds Tryz.pinned (.plain (OpenSpec.ofChange codecKeysSpec)) codecKeysCard

/-- THE SECOND FORM's CARD OF 'rubriclaw27.HistoryBack'. -/
def historyBackUptoCard : Claim7 := { stood := { row := historyBackUptoRow, standIns := [], harness := (true, "7ff8edec0ea1b3693d7981b5f589e4d72ea1d53f7ad1e7c2eef7b7972748ffae"), looks := false }, kinds := [], alts := [], laidByText := true, laidKinds := [.data, .pinned], laidTests := true, laidLooks := .later }
def HistoryBackUptoCardSaid : Prop := Claim7.holds Tryz.pinned (.plain (OpenSpec.upto historyBackSpec)) historyBackUptoCard

/-- THE SECOND FORM's CARD OF 'rubriclaw27.HistoryEmpties'. -/
def historyEmptiesUptoCard : Claim7 := { stood := { row := historyEmptiesUptoRow, standIns := [], harness := (true, "7ff8edec0ea1b3693d7981b5f589e4d72ea1d53f7ad1e7c2eef7b7972748ffae"), looks := false }, kinds := [], alts := [], laidByText := true, laidKinds := [.data, .pinned], laidTests := true, laidLooks := .later }
def HistoryEmptiesUptoCardSaid : Prop := Claim7.holds Tryz.pinned (.plain (OpenSpec.upto historyEmptiesSpec)) historyEmptiesUptoCard

/-- THE SECOND FORM's CARD OF 'rubriclaw27.HistoryPlays'. -/
def historyPlaysUptoCard : Claim7 := { stood := { row := historyPlaysUptoRow, standIns := [], harness := (true, "7ff8edec0ea1b3693d7981b5f589e4d72ea1d53f7ad1e7c2eef7b7972748ffae"), looks := false }, kinds := [], alts := [], laidByText := true, laidKinds := [.data, .pinned], laidTests := true, laidLooks := .later }
def HistoryPlaysUptoCardSaid : Prop := Claim7.holds Tryz.pinned (.plain (OpenSpec.upto historyPlaysSpec)) historyPlaysUptoCard

/-- THE SECOND FORM's CARD OF 'rubriclaw27.HistoryNone'. -/
def historyNoneUptoCard : Claim7 := { stood := { row := historyNoneUptoRow, standIns := [], harness := (true, "7ff8edec0ea1b3693d7981b5f589e4d72ea1d53f7ad1e7c2eef7b7972748ffae"), looks := false }, kinds := [], alts := [], laidByText := true, laidKinds := [.data, .pinned], laidTests := true, laidLooks := .later }
def HistoryNoneUptoCardSaid : Prop := Claim7.holds Tryz.pinned (.plain (OpenSpec.upto historyNoneSpec)) historyNoneUptoCard

/-- THE SECOND FORM's CARD OF 'rubriclaw27.HistoryBrackets'. -/
def historyBracketsUptoCard : Claim7 := { stood := { row := historyBracketsUptoRow, standIns := [], harness := (true, "7ff8edec0ea1b3693d7981b5f589e4d72ea1d53f7ad1e7c2eef7b7972748ffae"), looks := false }, kinds := [], alts := [], laidByText := true, laidKinds := [.data, .pinned], laidTests := true, laidLooks := .later }
def HistoryBracketsUptoCardSaid : Prop := Claim7.holds Tryz.pinned (.plain (OpenSpec.upto historyBracketsSpec)) historyBracketsUptoCard

/-- THE SECOND FORM's CARD OF 'rubriclaw27.HistoryMost'. -/
def historyMostUptoCard : Claim7 := { stood := { row := historyMostUptoRow, standIns := [], harness := (true, "7ff8edec0ea1b3693d7981b5f589e4d72ea1d53f7ad1e7c2eef7b7972748ffae"), looks := false }, kinds := [], alts := [], laidByText := true, laidKinds := [.data, .pinned], laidTests := true, laidLooks := .later }
def HistoryMostUptoCardSaid : Prop := Claim7.holds Tryz.pinned (.plain (OpenSpec.upto historyMostSpec)) historyMostUptoCard

/-- THE SECOND FORM's CARD OF 'rubriclaw17.CodecWrites'. -/
def codecWritesUptoCard : Claim7 := { stood := { row := codecWritesUptoRow, standIns := [], harness := (true, "7ff8edec0ea1b3693d7981b5f589e4d72ea1d53f7ad1e7c2eef7b7972748ffae"), looks := false }, kinds := [], alts := [], laidByText := true, laidKinds := [.data, .pinned], laidTests := true, laidLooks := .later }
def CodecWritesUptoCardSaid : Prop := Claim7.holds Tryz.pinned (.plain (OpenSpec.upto codecWritesSpec)) codecWritesUptoCard

/-- THE SECOND FORM's CARD OF 'rubriclaw17.CodecReads'. -/
def codecReadsUptoCard : Claim7 := { stood := { row := codecReadsUptoRow, standIns := [], harness := (true, "7ff8edec0ea1b3693d7981b5f589e4d72ea1d53f7ad1e7c2eef7b7972748ffae"), looks := false }, kinds := [], alts := [], laidByText := true, laidKinds := [.data, .pinned], laidTests := true, laidLooks := .later }
def CodecReadsUptoCardSaid : Prop := Claim7.holds Tryz.pinned (.plain (OpenSpec.upto codecReadsSpec)) codecReadsUptoCard

/-- THE SECOND FORM's CARD OF 'rubriclaw17.CodecOnly'. -/
def codecOnlyUptoCard : Claim7 := { stood := { row := codecOnlyUptoRow, standIns := [], harness := (true, "7ff8edec0ea1b3693d7981b5f589e4d72ea1d53f7ad1e7c2eef7b7972748ffae"), looks := false }, kinds := [], alts := [], laidByText := true, laidKinds := [.data, .pinned], laidTests := true, laidLooks := .later }
def CodecOnlyUptoCardSaid : Prop := Claim7.holds Tryz.pinned (.plain (OpenSpec.upto codecOnlySpec)) codecOnlyUptoCard

/-- THE SECOND FORM's CARD OF 'rubriclaw17.CodecSame'. -/
def codecSameUptoCard : Claim7 := { stood := { row := codecSameUptoRow, standIns := [], harness := (true, "7ff8edec0ea1b3693d7981b5f589e4d72ea1d53f7ad1e7c2eef7b7972748ffae"), looks := false }, kinds := [], alts := [], laidByText := true, laidKinds := [.data, .pinned], laidTests := true, laidLooks := .later }
def CodecSameUptoCardSaid : Prop := Claim7.holds Tryz.pinned (.plain (OpenSpec.upto codecSameSpec)) codecSameUptoCard

/-- THE SECOND FORM's CARD OF 'rubriclaw17.CodecKeys'. -/
def codecKeysUptoCard : Claim7 := { stood := { row := codecKeysUptoRow, standIns := [], harness := (true, "7ff8edec0ea1b3693d7981b5f589e4d72ea1d53f7ad1e7c2eef7b7972748ffae"), looks := false }, kinds := [], alts := [], laidByText := true, laidKinds := [.data, .pinned], laidTests := true, laidLooks := .later }
def CodecKeysUptoCardSaid : Prop := Claim7.holds Tryz.pinned (.plain (OpenSpec.upto codecKeysSpec)) codecKeysUptoCard
end Rows
end Go.Proofs.YtlbaopamhkmepaaGreatDoor
