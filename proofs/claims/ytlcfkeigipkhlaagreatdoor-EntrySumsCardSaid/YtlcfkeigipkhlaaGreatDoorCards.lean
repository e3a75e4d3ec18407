/-
  DERIVED. GIVEN WITH THE SEED: THE CARDS: each row of YtlcfkeigipkhlaaGreatDoorRows.lean that lists a variable, with what it lists TIED to the program's text (the seventh form; the later family's looks); each row that meets fmt, with fmt's text TOLD by the authors' own Lean function (tested against real Go, not proved from fmt's source: count such statements apart). THE CARD IS WHAT COUNTS. Prove the row's statement (the work); the ties are given (YtlcfkeigipkhlaaGreatDoorTie.lean); close each card by the builder's one call (the guide's Derived/Test/ToyasCard.lean, 'card_holds'). Laid BY PROGRAM, IN A SANDBOX (cutbox-door.mjs). By AI agents, Wed Nov 11 2026. No macro, syntax, notation, axiom, sorry.
-/
import Derived.Test.YtlcfkeigipkhlaaGreatDoorRows
import GoSem.ClaimSeven
namespace Go.Proofs.YtlcfkeigipkhlaaGreatDoor
namespace Rows

/-- THE TIED CARD OF 'transposallaw09.EntrySums'. -/
def entrySumsCard : Claim7 := { stood := { row := entrySumsRow, standIns := [], harness := (true, "3cfce66e53e9055218cf3f84a9a8c3bb7ff1690ccaa24f4dc29b9507ede0a671"), looks := true }, kinds := [], alts := [], laidByText := true, laidKinds := [.data, .data, .data, .sentinel, .sentinel, .data], laidTests := true, laidLooks := .later }
def EntrySumsCardSaid : Prop := Claim7.holds Tryz.pinned (.plain (OpenSpec.ofChange entrySumsSpec)) entrySumsCard

/-- THE TIED CARD OF 'transposallaw09.EntryChecks'. -/
def entryChecksCard : Claim7 := { stood := { row := entryChecksRow, standIns := [], harness := (true, "3cfce66e53e9055218cf3f84a9a8c3bb7ff1690ccaa24f4dc29b9507ede0a671"), looks := true }, kinds := [], alts := [], laidByText := true, laidKinds := [.data, .data, .data, .sentinel, .sentinel, .data], laidTests := true, laidLooks := .later }
def EntryChecksCardSaid : Prop := Claim7.holds Tryz.pinned (.plain (OpenSpec.ofChange entryChecksSpec)) entryChecksCard

/-- THE TIED CARD OF 'transposallaw09.EntryTurns'. -/
def entryTurnsCard : Claim7 := { stood := { row := entryTurnsRow, standIns := [], harness := (true, "3cfce66e53e9055218cf3f84a9a8c3bb7ff1690ccaa24f4dc29b9507ede0a671"), looks := true }, kinds := [], alts := [], laidByText := true, laidKinds := [.data, .data, .data, .sentinel, .sentinel, .data], laidTests := true, laidLooks := .later }
def EntryTurnsCardSaid : Prop := Claim7.holds Tryz.pinned (.plain (OpenSpec.ofChange entryTurnsSpec)) entryTurnsCard

/-- THE TIED CARD OF 'transposallaw10.BookLines'. -/
def bookLinesCard : Claim7 := { stood := { row := bookLinesRow, standIns := [], harness := (true, "3cfce66e53e9055218cf3f84a9a8c3bb7ff1690ccaa24f4dc29b9507ede0a671"), looks := true }, kinds := [], alts := [], laidByText := true, laidKinds := [.data, .data, .data, .sentinel, .sentinel, .data], laidTests := true, laidLooks := .later }
def BookLinesCardSaid : Prop := Claim7.holds Tryz.pinned (.plain (OpenSpec.ofChange bookLinesSpec)) bookLinesCard

/-- THE TIED CARD OF 'transposallaw10.BookDays'. -/
def bookDaysCard : Claim7 := { stood := { row := bookDaysRow, standIns := [], harness := (true, "3cfce66e53e9055218cf3f84a9a8c3bb7ff1690ccaa24f4dc29b9507ede0a671"), looks := true }, kinds := [], alts := [], laidByText := true, laidKinds := [.data, .data, .data, .sentinel, .sentinel, .data], laidTests := true, laidLooks := .later }
def BookDaysCardSaid : Prop := Claim7.holds Tryz.pinned (.plain (OpenSpec.ofChange bookDaysSpec)) bookDaysCard

/-- THE TIED CARD OF 'transposallaw10.BookParts'. -/
def bookPartsCard : Claim7 := { stood := { row := bookPartsRow, standIns := [], harness := (true, "3cfce66e53e9055218cf3f84a9a8c3bb7ff1690ccaa24f4dc29b9507ede0a671"), looks := true }, kinds := [], alts := [], laidByText := true, laidKinds := [.data, .data, .data, .sentinel, .sentinel, .data], laidTests := true, laidLooks := .later }
def BookPartsCardSaid : Prop := Claim7.holds Tryz.pinned (.plain (OpenSpec.ofChange bookPartsSpec)) bookPartsCard

/-- THE TIED CARD OF 'transposallaw10.BookChecks'. -/
def bookChecksCard : Claim7 := { stood := { row := bookChecksRow, standIns := [], harness := (true, "3cfce66e53e9055218cf3f84a9a8c3bb7ff1690ccaa24f4dc29b9507ede0a671"), looks := true }, kinds := [], alts := [], laidByText := true, laidKinds := [.data, .data, .data, .sentinel, .sentinel, .data], laidTests := true, laidLooks := .later }
def BookChecksCardSaid : Prop := Claim7.holds Tryz.pinned (.plain (OpenSpec.ofChange bookChecksSpec)) bookChecksCard

/-- THE TIED CARD OF 'transposallaw11.CodecGrows'. -/
def codecGrowsCard : Claim7 := { stood := { row := codecGrowsRow, standIns := [], harness := (true, "3cfce66e53e9055218cf3f84a9a8c3bb7ff1690ccaa24f4dc29b9507ede0a671"), looks := true }, kinds := [], alts := [], laidByText := true, laidKinds := [.data, .data, .data, .sentinel, .sentinel, .data], laidTests := true, laidLooks := .later }
def CodecGrowsCardSaid : Prop := Claim7.holds Tryz.pinned (.plain (OpenSpec.ofChange codecGrowsSpec)) codecGrowsCard

/-- THE TIED CARD OF 'transposallaw10.BookSames'. -/
def bookSamesCard : Claim7 := { stood := { row := bookSamesRow, standIns := [], harness := (true, "3cfce66e53e9055218cf3f84a9a8c3bb7ff1690ccaa24f4dc29b9507ede0a671"), looks := true }, kinds := [], alts := [], laidByText := true, laidKinds := [.data, .data, .data, .sentinel, .sentinel, .data], laidTests := true, laidLooks := .later }
def BookSamesCardSaid : Prop := Claim7.holds Tryz.pinned (.plain (OpenSpec.ofChange bookSamesSpec)) bookSamesCard

/-- THE TIED CARD OF 'transposallaw11.CodecApart'. -/
def codecApartCard : Claim7 := { stood := { row := codecApartRow, standIns := [], harness := (true, "3cfce66e53e9055218cf3f84a9a8c3bb7ff1690ccaa24f4dc29b9507ede0a671"), looks := true }, kinds := [], alts := [], laidByText := true, laidKinds := [.data, .data, .data, .sentinel, .sentinel, .data], laidTests := true, laidLooks := .later }
def CodecApartCardSaid : Prop := Claim7.holds Tryz.pinned (.plain (OpenSpec.ofChange codecApartSpec)) codecApartCard

/-- THE TIED CARD OF 'transposallaw11.CodecCut'. -/
def codecCutCard : Claim7 := { stood := { row := codecCutRow, standIns := [], harness := (true, "3cfce66e53e9055218cf3f84a9a8c3bb7ff1690ccaa24f4dc29b9507ede0a671"), looks := true }, kinds := [], alts := [], laidByText := true, laidKinds := [.data, .data, .data, .sentinel, .sentinel, .data], laidTests := true, laidLooks := .later }
def CodecCutCardSaid : Prop := Claim7.holds Tryz.pinned (.plain (OpenSpec.ofChange codecCutSpec)) codecCutCard

/-- THE TIED CARD OF 'transposallaw11.CodecBack'. -/
def codecBackCard : Claim7 := { stood := { row := codecBackRow, standIns := [], harness := (true, "3cfce66e53e9055218cf3f84a9a8c3bb7ff1690ccaa24f4dc29b9507ede0a671"), looks := true }, kinds := [], alts := [], laidByText := true, laidKinds := [.data, .data, .data, .sentinel, .sentinel, .data], laidTests := true, laidLooks := .later }
def CodecBackCardSaid : Prop := Claim7.holds Tryz.pinned (.plain (OpenSpec.ofChange codecBackSpec)) codecBackCard

/-- THE TIED CARD OF 'transposallaw11.CodecDecodes'. -/
def codecDecodesCard : Claim7 := { stood := { row := codecDecodesRow, standIns := [], harness := (true, "3cfce66e53e9055218cf3f84a9a8c3bb7ff1690ccaa24f4dc29b9507ede0a671"), looks := true }, kinds := [], alts := [], laidByText := true, laidKinds := [.data, .data, .data, .sentinel, .sentinel, .data], laidTests := true, laidLooks := .later }
def CodecDecodesCardSaid : Prop := Claim7.holds Tryz.pinned (.plain (OpenSpec.ofChange codecDecodesSpec)) codecDecodesCard

/-- THE TIED CARD OF 'transposallaw11.CodecSpoilt'. -/
def codecSpoiltCard : Claim7 := { stood := { row := codecSpoiltRow, standIns := [], harness := (true, "3cfce66e53e9055218cf3f84a9a8c3bb7ff1690ccaa24f4dc29b9507ede0a671"), looks := true }, kinds := [], alts := [], laidByText := true, laidKinds := [.data, .data, .data, .sentinel, .sentinel, .data], laidTests := true, laidLooks := .later }
def CodecSpoiltCardSaid : Prop := Claim7.holds Tryz.pinned (.plain (OpenSpec.ofChange codecSpoiltSpec)) codecSpoiltCard

/-- THE TIED CARD OF 'transposallaw10.BookFrames'. -/
def bookFramesCard : Claim7 := { stood := { row := bookFramesRow, standIns := [], harness := (true, "3cfce66e53e9055218cf3f84a9a8c3bb7ff1690ccaa24f4dc29b9507ede0a671"), looks := true }, kinds := [], alts := [], laidByText := true, laidKinds := [.data, .data, .data, .data, .sentinel, .sentinel, .data, .pinned], laidTests := true, laidLooks := .later }
def BookFramesCardSaid : Prop := Claim7.holds Tryz.pinned (.plain (OpenSpec.ofChange bookFramesSpec)) bookFramesCard

/-- THE SECOND FORM's CARD OF 'transposallaw09.EntrySums'. -/
def entrySumsUptoCard : Claim7 := { stood := { row := entrySumsUptoRow, standIns := [], harness := (true, "3cfce66e53e9055218cf3f84a9a8c3bb7ff1690ccaa24f4dc29b9507ede0a671"), looks := true }, kinds := [], alts := [], laidByText := true, laidKinds := [.data, .data, .data, .sentinel, .sentinel, .data], laidTests := true, laidLooks := .later }
def EntrySumsUptoCardSaid : Prop := Claim7.holds Tryz.pinned (.plain (OpenSpec.upto entrySumsSpec)) entrySumsUptoCard

/-- THE SECOND FORM's CARD OF 'transposallaw09.EntryChecks'. -/
def entryChecksUptoCard : Claim7 := { stood := { row := entryChecksUptoRow, standIns := [], harness := (true, "3cfce66e53e9055218cf3f84a9a8c3bb7ff1690ccaa24f4dc29b9507ede0a671"), looks := true }, kinds := [], alts := [], laidByText := true, laidKinds := [.data, .data, .data, .sentinel, .sentinel, .data], laidTests := true, laidLooks := .later }
def EntryChecksUptoCardSaid : Prop := Claim7.holds Tryz.pinned (.plain (OpenSpec.upto entryChecksSpec)) entryChecksUptoCard

/-- THE SECOND FORM's CARD OF 'transposallaw09.EntryTurns'. -/
def entryTurnsUptoCard : Claim7 := { stood := { row := entryTurnsUptoRow, standIns := [], harness := (true, "3cfce66e53e9055218cf3f84a9a8c3bb7ff1690ccaa24f4dc29b9507ede0a671"), looks := true }, kinds := [], alts := [], laidByText := true, laidKinds := [.data, .data, .data, .sentinel, .sentinel, .data], laidTests := true, laidLooks := .later }
def EntryTurnsUptoCardSaid : Prop := Claim7.holds Tryz.pinned (.plain (OpenSpec.upto entryTurnsSpec)) entryTurnsUptoCard

/-- THE SECOND FORM's CARD OF 'transposallaw10.BookLines'. -/
def bookLinesUptoCard : Claim7 := { stood := { row := bookLinesUptoRow, standIns := [], harness := (true, "3cfce66e53e9055218cf3f84a9a8c3bb7ff1690ccaa24f4dc29b9507ede0a671"), looks := true }, kinds := [], alts := [], laidByText := true, laidKinds := [.data, .data, .data, .sentinel, .sentinel, .data], laidTests := true, laidLooks := .later }
def BookLinesUptoCardSaid : Prop := Claim7.holds Tryz.pinned (.plain (OpenSpec.upto bookLinesSpec)) bookLinesUptoCard

/-- THE SECOND FORM's CARD OF 'transposallaw10.BookDays'. -/
def bookDaysUptoCard : Claim7 := { stood := { row := bookDaysUptoRow, standIns := [], harness := (true, "3cfce66e53e9055218cf3f84a9a8c3bb7ff1690ccaa24f4dc29b9507ede0a671"), looks := true }, kinds := [], alts := [], laidByText := true, laidKinds := [.data, .data, .data, .sentinel, .sentinel, .data], laidTests := true, laidLooks := .later }
def BookDaysUptoCardSaid : Prop := Claim7.holds Tryz.pinned (.plain (OpenSpec.upto bookDaysSpec)) bookDaysUptoCard

/-- THE SECOND FORM's CARD OF 'transposallaw10.BookParts'. -/
def bookPartsUptoCard : Claim7 := { stood := { row := bookPartsUptoRow, standIns := [], harness := (true, "3cfce66e53e9055218cf3f84a9a8c3bb7ff1690ccaa24f4dc29b9507ede0a671"), looks := true }, kinds := [], alts := [], laidByText := true, laidKinds := [.data, .data, .data, .sentinel, .sentinel, .data], laidTests := true, laidLooks := .later }
def BookPartsUptoCardSaid : Prop := Claim7.holds Tryz.pinned (.plain (OpenSpec.upto bookPartsSpec)) bookPartsUptoCard

/-- THE SECOND FORM's CARD OF 'transposallaw10.BookChecks'. -/
def bookChecksUptoCard : Claim7 := { stood := { row := bookChecksUptoRow, standIns := [], harness := (true, "3cfce66e53e9055218cf3f84a9a8c3bb7ff1690ccaa24f4dc29b9507ede0a671"), looks := true }, kinds := [], alts := [], laidByText := true, laidKinds := [.data, .data, .data, .sentinel, .sentinel, .data], laidTests := true, laidLooks := .later }
def BookChecksUptoCardSaid : Prop := Claim7.holds Tryz.pinned (.plain (OpenSpec.upto bookChecksSpec)) bookChecksUptoCard

/-- THE SECOND FORM's CARD OF 'transposallaw11.CodecGrows'. -/
def codecGrowsUptoCard : Claim7 := { stood := { row := codecGrowsUptoRow, standIns := [], harness := (true, "3cfce66e53e9055218cf3f84a9a8c3bb7ff1690ccaa24f4dc29b9507ede0a671"), looks := true }, kinds := [], alts := [], laidByText := true, laidKinds := [.data, .data, .data, .sentinel, .sentinel, .data], laidTests := true, laidLooks := .later }
def CodecGrowsUptoCardSaid : Prop := Claim7.holds Tryz.pinned (.plain (OpenSpec.upto codecGrowsSpec)) codecGrowsUptoCard

/-- THE SECOND FORM's CARD OF 'transposallaw10.BookSames'. -/
def bookSamesUptoCard : Claim7 := { stood := { row := bookSamesUptoRow, standIns := [], harness := (true, "3cfce66e53e9055218cf3f84a9a8c3bb7ff1690ccaa24f4dc29b9507ede0a671"), looks := true }, kinds := [], alts := [], laidByText := true, laidKinds := [.data, .data, .data, .sentinel, .sentinel, .data], laidTests := true, laidLooks := .later }
def BookSamesUptoCardSaid : Prop := Claim7.holds Tryz.pinned (.plain (OpenSpec.upto bookSamesSpec)) bookSamesUptoCard

/-- THE SECOND FORM's CARD OF 'transposallaw11.CodecApart'. -/
def codecApartUptoCard : Claim7 := { stood := { row := codecApartUptoRow, standIns := [], harness := (true, "3cfce66e53e9055218cf3f84a9a8c3bb7ff1690ccaa24f4dc29b9507ede0a671"), looks := true }, kinds := [], alts := [], laidByText := true, laidKinds := [.data, .data, .data, .sentinel, .sentinel, .data], laidTests := true, laidLooks := .later }
def CodecApartUptoCardSaid : Prop := Claim7.holds Tryz.pinned (.plain (OpenSpec.upto codecApartSpec)) codecApartUptoCard

/-- THE SECOND FORM's CARD OF 'transposallaw11.CodecCut'. -/
def codecCutUptoCard : Claim7 := { stood := { row := codecCutUptoRow, standIns := [], harness := (true, "3cfce66e53e9055218cf3f84a9a8c3bb7ff1690ccaa24f4dc29b9507ede0a671"), looks := true }, kinds := [], alts := [], laidByText := true, laidKinds := [.data, .data, .data, .sentinel, .sentinel, .data], laidTests := true, laidLooks := .later }
def CodecCutUptoCardSaid : Prop := Claim7.holds Tryz.pinned (.plain (OpenSpec.upto codecCutSpec)) codecCutUptoCard

/-- THE SECOND FORM's CARD OF 'transposallaw11.CodecBack'. -/
def codecBackUptoCard : Claim7 := { stood := { row := codecBackUptoRow, standIns := [], harness := (true, "3cfce66e53e9055218cf3f84a9a8c3bb7ff1690ccaa24f4dc29b9507ede0a671"), looks := true }, kinds := [], alts := [], laidByText := true, laidKinds := [.data, .data, .data, .sentinel, .sentinel, .data], laidTests := true, laidLooks := .later }
def CodecBackUptoCardSaid : Prop := Claim7.holds Tryz.pinned (.plain (OpenSpec.upto codecBackSpec)) codecBackUptoCard

/-- THE SECOND FORM's CARD OF 'transposallaw11.CodecDecodes'. -/
def codecDecodesUptoCard : Claim7 := { stood := { row := codecDecodesUptoRow, standIns := [], harness := (true, "3cfce66e53e9055218cf3f84a9a8c3bb7ff1690ccaa24f4dc29b9507ede0a671"), looks := true }, kinds := [], alts := [], laidByText := true, laidKinds := [.data, .data, .data, .sentinel, .sentinel, .data], laidTests := true, laidLooks := .later }
def CodecDecodesUptoCardSaid : Prop := Claim7.holds Tryz.pinned (.plain (OpenSpec.upto codecDecodesSpec)) codecDecodesUptoCard

/-- THE SECOND FORM's CARD OF 'transposallaw11.CodecSpoilt'. -/
def codecSpoiltUptoCard : Claim7 := { stood := { row := codecSpoiltUptoRow, standIns := [], harness := (true, "3cfce66e53e9055218cf3f84a9a8c3bb7ff1690ccaa24f4dc29b9507ede0a671"), looks := true }, kinds := [], alts := [], laidByText := true, laidKinds := [.data, .data, .data, .sentinel, .sentinel, .data], laidTests := true, laidLooks := .later }
def CodecSpoiltUptoCardSaid : Prop := Claim7.holds Tryz.pinned (.plain (OpenSpec.upto codecSpoiltSpec)) codecSpoiltUptoCard

/-- THE SECOND FORM's CARD OF 'transposallaw10.BookFrames'. -/
def bookFramesUptoCard : Claim7 := { stood := { row := bookFramesUptoRow, standIns := [], harness := (true, "3cfce66e53e9055218cf3f84a9a8c3bb7ff1690ccaa24f4dc29b9507ede0a671"), looks := true }, kinds := [], alts := [], laidByText := true, laidKinds := [.data, .data, .data, .data, .sentinel, .sentinel, .data, .pinned], laidTests := true, laidLooks := .later }
def BookFramesUptoCardSaid : Prop := Claim7.holds Tryz.pinned (.plain (OpenSpec.upto bookFramesSpec)) bookFramesUptoCard
end Rows
end Go.Proofs.YtlcfkeigipkhlaaGreatDoor
