/-
  DERIVED. GIVEN WITH THE SEED: THE CARDS: each row of YthmjkhlndphldaaGreatDoorRows.lean that lists a variable, with what it lists TIED to the program's text (the seventh form; the later family's looks); each row that meets fmt, with fmt's text TOLD by the authors' own Lean function (tested against real Go, not proved from fmt's source: count such statements apart). THE CARD IS WHAT COUNTS. Prove the row's statement (the work); the ties are given (YthmjkhlndphldaaGreatDoorTie.lean); close each card by the builder's one call (the guide's Derived/Test/ToyasCard.lean, 'card_holds'). Laid BY PROGRAM, IN A SANDBOX (cutbox-door.mjs). By AI agents, Wed Nov 11 2026. No macro, syntax, notation, axiom, sorry.
-/
import Derived.Test.YthmjkhlndphldaaGreatDoorRows
import GoSem.ClaimSeven
namespace Go.Proofs.YthmjkhlndphldaaGreatDoor
namespace Rows

/-- THE TIED CARD OF 'daylaw1.EntryChecks'. -/
def entryChecksCard : Claim7 := { stood := { row := entryChecksRow, standIns := [], harness := (true, "84e7cb5eacecc25e01eedb040f6440acf91ebb607cdb92340d06011f2b908dda"), looks := true }, kinds := [], alts := [], laidByText := true, laidKinds := [.data, .handle, .pinned, .pinned], laidTests := true, laidLooks := .later }
def EntryChecksCardSaid : Prop := Claim7.holds Tryz.pinned (.plain (OpenSpec.ofChange entryChecksSpec)) entryChecksCard

/-- THE TIED CARD OF 'daylaw1.EntryZero'. -/
def entryZeroCard : Claim7 := { stood := { row := entryZeroRow, standIns := [], harness := (true, "84e7cb5eacecc25e01eedb040f6440acf91ebb607cdb92340d06011f2b908dda"), looks := true }, kinds := [], alts := [], laidByText := true, laidKinds := [.data, .handle, .pinned, .pinned], laidTests := true, laidLooks := .later }
def EntryZeroCardSaid : Prop := Claim7.holds Tryz.pinned (.plain (OpenSpec.ofChange entryZeroSpec)) entryZeroCard

/-- THE TIED CARD OF 'daylaw1.ChartRolls'. -/
def chartRollsCard : Claim7 := { stood := { row := chartRollsRow, standIns := [], harness := (true, "84e7cb5eacecc25e01eedb040f6440acf91ebb607cdb92340d06011f2b908dda"), looks := true }, kinds := [], alts := [], laidByText := true, laidKinds := [.data, .handle, .pinned, .pinned], laidTests := true, laidLooks := .later }
def ChartRollsCardSaid : Prop := Claim7.holds Tryz.pinned (.plain (OpenSpec.ofChange chartRollsSpec)) chartRollsCard

/-- THE TIED CARD OF 'daylaw3.JournalEven'. -/
def journalEvenCard : Claim7 := { stood := { row := journalEvenRow, standIns := [], harness := (true, "84e7cb5eacecc25e01eedb040f6440acf91ebb607cdb92340d06011f2b908dda"), looks := true }, kinds := [], alts := [], laidByText := true, laidKinds := [.data, .handle, .pinned, .pinned], laidTests := true, laidLooks := .later }
def JournalEvenCardSaid : Prop := Claim7.holds Tryz.pinned (.plain (OpenSpec.ofChange journalEvenSpec)) journalEvenCard

/-- THE TIED CARD OF 'daylaw3.JournalPlays'. -/
def journalPlaysCard : Claim7 := { stood := { row := journalPlaysRow, standIns := [], harness := (true, "84e7cb5eacecc25e01eedb040f6440acf91ebb607cdb92340d06011f2b908dda"), looks := true }, kinds := [], alts := [], laidByText := true, laidKinds := [.data, .handle, .pinned, .pinned], laidTests := true, laidLooks := .later }
def JournalPlaysCardSaid : Prop := Claim7.holds Tryz.pinned (.plain (OpenSpec.ofChange journalPlaysSpec)) journalPlaysCard

/-- THE TIED CARD OF 'daylaw4.ReportEven'. -/
def reportEvenCard : Claim7 := { stood := { row := reportEvenRow, standIns := [], harness := (true, "84e7cb5eacecc25e01eedb040f6440acf91ebb607cdb92340d06011f2b908dda"), looks := true }, kinds := [], alts := [], laidByText := true, laidKinds := [.data, .pinned, .pinned], laidTests := true, laidLooks := .later }
def ReportEvenCardSaid : Prop := Claim7.holds Tryz.pinned (.plain (OpenSpec.ofChange reportEvenSpec)) reportEvenCard

/-- THE TIED CARD OF 'daylaw3.PairLeaves'. -/
def pairLeavesCard : Claim7 := { stood := { row := pairLeavesRow, standIns := [], harness := (true, "84e7cb5eacecc25e01eedb040f6440acf91ebb607cdb92340d06011f2b908dda"), looks := true }, kinds := [], alts := [], laidByText := true, laidKinds := [.data, .data, .data, .data, .handle, .pinned, .pinned], laidTests := true, laidLooks := .later }
def PairLeavesCardSaid : Prop := Claim7.holds Tryz.pinned (.plain (OpenSpec.ofChange pairLeavesSpec)) pairLeavesCard

/-- THE TIED CARD OF 'daylaw3.LedgerMerges'. -/
def ledgerMergesCard : Claim7 := { stood := { row := ledgerMergesRow, standIns := [], harness := (true, "84e7cb5eacecc25e01eedb040f6440acf91ebb607cdb92340d06011f2b908dda"), looks := true }, kinds := [], alts := [], laidByText := true, laidKinds := [.data, .handle, .pinned, .pinned], laidTests := true, laidLooks := .later }
def LedgerMergesCardSaid : Prop := Claim7.holds Tryz.pinned (.plain (OpenSpec.ofChange ledgerMergesSpec)) ledgerMergesCard

/-- THE TIED CARD OF 'daylaw3.PairRests'. -/
def pairRestsCard : Claim7 := { stood := { row := pairRestsRow, standIns := [], harness := (true, "84e7cb5eacecc25e01eedb040f6440acf91ebb607cdb92340d06011f2b908dda"), looks := true }, kinds := [], alts := [], laidByText := true, laidKinds := [.data, .data, .data, .data, .pinned, .pinned], laidTests := true, laidLooks := .later }
def PairRestsCardSaid : Prop := Claim7.holds Tryz.pinned (.plain (OpenSpec.ofChange pairRestsSpec)) pairRestsCard

/-- THE SECOND FORM's CARD OF 'daylaw1.EntryChecks'. -/
def entryChecksUptoCard : Claim7 := { stood := { row := entryChecksUptoRow, standIns := [], harness := (true, "84e7cb5eacecc25e01eedb040f6440acf91ebb607cdb92340d06011f2b908dda"), looks := true }, kinds := [], alts := [], laidByText := true, laidKinds := [.data, .handle, .pinned, .pinned], laidTests := true, laidLooks := .later }
def EntryChecksUptoCardSaid : Prop := Claim7.holds Tryz.pinned (.plain (OpenSpec.upto entryChecksSpec)) entryChecksUptoCard

/-- THE SECOND FORM's CARD OF 'daylaw1.EntryZero'. -/
def entryZeroUptoCard : Claim7 := { stood := { row := entryZeroUptoRow, standIns := [], harness := (true, "84e7cb5eacecc25e01eedb040f6440acf91ebb607cdb92340d06011f2b908dda"), looks := true }, kinds := [], alts := [], laidByText := true, laidKinds := [.data, .handle, .pinned, .pinned], laidTests := true, laidLooks := .later }
def EntryZeroUptoCardSaid : Prop := Claim7.holds Tryz.pinned (.plain (OpenSpec.upto entryZeroSpec)) entryZeroUptoCard

/-- THE SECOND FORM's CARD OF 'daylaw1.ChartRolls'. -/
def chartRollsUptoCard : Claim7 := { stood := { row := chartRollsUptoRow, standIns := [], harness := (true, "84e7cb5eacecc25e01eedb040f6440acf91ebb607cdb92340d06011f2b908dda"), looks := true }, kinds := [], alts := [], laidByText := true, laidKinds := [.data, .handle, .pinned, .pinned], laidTests := true, laidLooks := .later }
def ChartRollsUptoCardSaid : Prop := Claim7.holds Tryz.pinned (.plain (OpenSpec.upto chartRollsSpec)) chartRollsUptoCard

/-- THE SECOND FORM's CARD OF 'daylaw3.JournalEven'. -/
def journalEvenUptoCard : Claim7 := { stood := { row := journalEvenUptoRow, standIns := [], harness := (true, "84e7cb5eacecc25e01eedb040f6440acf91ebb607cdb92340d06011f2b908dda"), looks := true }, kinds := [], alts := [], laidByText := true, laidKinds := [.data, .handle, .pinned, .pinned], laidTests := true, laidLooks := .later }
def JournalEvenUptoCardSaid : Prop := Claim7.holds Tryz.pinned (.plain (OpenSpec.upto journalEvenSpec)) journalEvenUptoCard

/-- THE SECOND FORM's CARD OF 'daylaw3.JournalPlays'. -/
def journalPlaysUptoCard : Claim7 := { stood := { row := journalPlaysUptoRow, standIns := [], harness := (true, "84e7cb5eacecc25e01eedb040f6440acf91ebb607cdb92340d06011f2b908dda"), looks := true }, kinds := [], alts := [], laidByText := true, laidKinds := [.data, .handle, .pinned, .pinned], laidTests := true, laidLooks := .later }
def JournalPlaysUptoCardSaid : Prop := Claim7.holds Tryz.pinned (.plain (OpenSpec.upto journalPlaysSpec)) journalPlaysUptoCard

/-- THE SECOND FORM's CARD OF 'daylaw4.ReportEven'. -/
def reportEvenUptoCard : Claim7 := { stood := { row := reportEvenUptoRow, standIns := [], harness := (true, "84e7cb5eacecc25e01eedb040f6440acf91ebb607cdb92340d06011f2b908dda"), looks := true }, kinds := [], alts := [], laidByText := true, laidKinds := [.data, .pinned, .pinned], laidTests := true, laidLooks := .later }
def ReportEvenUptoCardSaid : Prop := Claim7.holds Tryz.pinned (.plain (OpenSpec.upto reportEvenSpec)) reportEvenUptoCard

/-- THE SECOND FORM's CARD OF 'daylaw3.PairLeaves'. -/
def pairLeavesUptoCard : Claim7 := { stood := { row := pairLeavesUptoRow, standIns := [], harness := (true, "84e7cb5eacecc25e01eedb040f6440acf91ebb607cdb92340d06011f2b908dda"), looks := true }, kinds := [], alts := [], laidByText := true, laidKinds := [.data, .data, .data, .data, .handle, .pinned, .pinned], laidTests := true, laidLooks := .later }
def PairLeavesUptoCardSaid : Prop := Claim7.holds Tryz.pinned (.plain (OpenSpec.upto pairLeavesSpec)) pairLeavesUptoCard

/-- THE SECOND FORM's CARD OF 'daylaw3.LedgerMerges'. -/
def ledgerMergesUptoCard : Claim7 := { stood := { row := ledgerMergesUptoRow, standIns := [], harness := (true, "84e7cb5eacecc25e01eedb040f6440acf91ebb607cdb92340d06011f2b908dda"), looks := true }, kinds := [], alts := [], laidByText := true, laidKinds := [.data, .handle, .pinned, .pinned], laidTests := true, laidLooks := .later }
def LedgerMergesUptoCardSaid : Prop := Claim7.holds Tryz.pinned (.plain (OpenSpec.upto ledgerMergesSpec)) ledgerMergesUptoCard

/-- THE SECOND FORM's CARD OF 'daylaw3.PairRests'. -/
def pairRestsUptoCard : Claim7 := { stood := { row := pairRestsUptoRow, standIns := [], harness := (true, "84e7cb5eacecc25e01eedb040f6440acf91ebb607cdb92340d06011f2b908dda"), looks := true }, kinds := [], alts := [], laidByText := true, laidKinds := [.data, .data, .data, .data, .pinned, .pinned], laidTests := true, laidLooks := .later }
def PairRestsUptoCardSaid : Prop := Claim7.holds Tryz.pinned (.plain (OpenSpec.upto pairRestsSpec)) pairRestsUptoCard
end Rows
end Go.Proofs.YthmjkhlndphldaaGreatDoor
