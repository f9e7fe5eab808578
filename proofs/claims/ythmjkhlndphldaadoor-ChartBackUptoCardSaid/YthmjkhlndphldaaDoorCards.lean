/-
  DERIVED. GIVEN WITH THE SEED: THE CARDS: each row of YthmjkhlndphldaaDoorRows.lean that lists a variable, with what it lists TIED to the program's text (the seventh form; the later family's looks); each row that meets fmt, with fmt's text TOLD by the authors' own Lean function (tested against real Go, not proved from fmt's source: count such statements apart). THE CARD IS WHAT COUNTS. Prove the row's statement (the work); the ties are given (YthmjkhlndphldaaDoorTie.lean); close each card by the builder's one call (the guide's Derived/Test/ToyasCard.lean, 'card_holds'). Laid BY PROGRAM, IN A SANDBOX (cutbox-door.mjs). By AI agents, Wed Nov 11 2026. No macro, syntax, notation, axiom, sorry.
-/
import Derived.Test.YthmjkhlndphldaaDoorRows
import GoSem.ClaimSeven
namespace Go.Proofs.YthmjkhlndphldaaDoor
namespace Rows

/-- THE TIED CARD OF 'daylaw5.ChartParts'. -/
def chartPartsCard : Claim7 := { stood := { row := chartPartsRow, standIns := [], harness := (true, "bcf8f476c1959828899a0af5b364a81f28a4251617336173053709bd7371f2b7"), looks := true }, kinds := [], alts := [], laidByText := true, laidKinds := [.data, .pinned, .pinned], laidTests := true, laidLooks := .later }
def ChartPartsCardSaid : Prop := Claim7.holds Tryd.pinned (.plain (OpenSpec.ofChange chartPartsSpec)) chartPartsCard

/-- THE TIED CARD OF 'daylaw1.ChartChecks'. -/
def chartChecksCard : Claim7 := { stood := { row := chartChecksRow, standIns := [], harness := (true, "bcf8f476c1959828899a0af5b364a81f28a4251617336173053709bd7371f2b7"), looks := true }, kinds := [], alts := [], laidByText := true, laidKinds := [.data, .handle, .pinned, .pinned], laidTests := true, laidLooks := .later }
def ChartChecksCardSaid : Prop := Claim7.holds Tryd.pinned (.plain (OpenSpec.ofChange chartChecksSpec)) chartChecksCard

/-- THE TIED CARD OF 'daylaw1.ChartBack'. -/
def chartBackCard : Claim7 := { stood := { row := chartBackRow, standIns := [], harness := (true, "bcf8f476c1959828899a0af5b364a81f28a4251617336173053709bd7371f2b7"), looks := true }, kinds := [], alts := [], laidByText := true, laidKinds := [.data, .pinned, .pinned], laidTests := true, laidLooks := .later }
def ChartBackCardSaid : Prop := Claim7.holds Tryd.pinned (.plain (OpenSpec.ofChange chartBackSpec)) chartBackCard

/-- THE TIED CARD OF 'daylaw5.JournalParts'. -/
def journalPartsCard : Claim7 := { stood := { row := journalPartsRow, standIns := [], harness := (true, "bcf8f476c1959828899a0af5b364a81f28a4251617336173053709bd7371f2b7"), looks := true }, kinds := [], alts := [], laidByText := true, laidKinds := [.data, .pinned, .pinned], laidTests := true, laidLooks := .later }
def JournalPartsCardSaid : Prop := Claim7.holds Tryd.pinned (.plain (OpenSpec.ofChange journalPartsSpec)) journalPartsCard

/-- THE TIED CARD OF 'daylaw5.EntryJoins'. -/
def entryJoinsCard : Claim7 := { stood := { row := entryJoinsRow, standIns := [], harness := (true, "bcf8f476c1959828899a0af5b364a81f28a4251617336173053709bd7371f2b7"), looks := true }, kinds := [], alts := [], laidByText := true, laidKinds := [.data, .pinned, .pinned], laidTests := true, laidLooks := .later }
def EntryJoinsCardSaid : Prop := Claim7.holds Tryd.pinned (.plain (OpenSpec.ofChange entryJoinsSpec)) entryJoinsCard

/-- THE TIED CARD OF 'daylaw1.ChartSums'. -/
def chartSumsCard : Claim7 := { stood := { row := chartSumsRow, standIns := [], harness := (true, "bcf8f476c1959828899a0af5b364a81f28a4251617336173053709bd7371f2b7"), looks := true }, kinds := [], alts := [], laidByText := true, laidKinds := [.data, .pinned, .pinned], laidTests := true, laidLooks := .later }
def ChartSumsCardSaid : Prop := Claim7.holds Tryd.pinned (.plain (OpenSpec.ofChange chartSumsSpec)) chartSumsCard

/-- THE TIED CARD OF 'daylaw1.ChartParses'. -/
def chartParsesCard : Claim7 := { stood := { row := chartParsesRow, standIns := [], harness := (true, "bcf8f476c1959828899a0af5b364a81f28a4251617336173053709bd7371f2b7"), looks := true }, kinds := [], alts := [], laidByText := true, laidKinds := [.data, .handle, .pinned, .pinned], laidTests := true, laidLooks := .later }
def ChartParsesCardSaid : Prop := Claim7.holds Tryd.pinned (.plain (OpenSpec.ofChange chartParsesSpec)) chartParsesCard

/-- THE SECOND FORM's CARD OF 'daylaw5.ChartParts'. -/
def chartPartsUptoCard : Claim7 := { stood := { row := chartPartsUptoRow, standIns := [], harness := (true, "bcf8f476c1959828899a0af5b364a81f28a4251617336173053709bd7371f2b7"), looks := true }, kinds := [], alts := [], laidByText := true, laidKinds := [.data, .pinned, .pinned], laidTests := true, laidLooks := .later }
def ChartPartsUptoCardSaid : Prop := Claim7.holds Tryd.pinned (.plain (OpenSpec.upto chartPartsSpec)) chartPartsUptoCard

/-- THE SECOND FORM's CARD OF 'daylaw1.ChartChecks'. -/
def chartChecksUptoCard : Claim7 := { stood := { row := chartChecksUptoRow, standIns := [], harness := (true, "bcf8f476c1959828899a0af5b364a81f28a4251617336173053709bd7371f2b7"), looks := true }, kinds := [], alts := [], laidByText := true, laidKinds := [.data, .handle, .pinned, .pinned], laidTests := true, laidLooks := .later }
def ChartChecksUptoCardSaid : Prop := Claim7.holds Tryd.pinned (.plain (OpenSpec.upto chartChecksSpec)) chartChecksUptoCard

/-- THE SECOND FORM's CARD OF 'daylaw1.ChartBack'. -/
def chartBackUptoCard : Claim7 := { stood := { row := chartBackUptoRow, standIns := [], harness := (true, "bcf8f476c1959828899a0af5b364a81f28a4251617336173053709bd7371f2b7"), looks := true }, kinds := [], alts := [], laidByText := true, laidKinds := [.data, .pinned, .pinned], laidTests := true, laidLooks := .later }
def ChartBackUptoCardSaid : Prop := Claim7.holds Tryd.pinned (.plain (OpenSpec.upto chartBackSpec)) chartBackUptoCard

/-- THE SECOND FORM's CARD OF 'daylaw5.JournalParts'. -/
def journalPartsUptoCard : Claim7 := { stood := { row := journalPartsUptoRow, standIns := [], harness := (true, "bcf8f476c1959828899a0af5b364a81f28a4251617336173053709bd7371f2b7"), looks := true }, kinds := [], alts := [], laidByText := true, laidKinds := [.data, .pinned, .pinned], laidTests := true, laidLooks := .later }
def JournalPartsUptoCardSaid : Prop := Claim7.holds Tryd.pinned (.plain (OpenSpec.upto journalPartsSpec)) journalPartsUptoCard

/-- THE SECOND FORM's CARD OF 'daylaw5.EntryJoins'. -/
def entryJoinsUptoCard : Claim7 := { stood := { row := entryJoinsUptoRow, standIns := [], harness := (true, "bcf8f476c1959828899a0af5b364a81f28a4251617336173053709bd7371f2b7"), looks := true }, kinds := [], alts := [], laidByText := true, laidKinds := [.data, .pinned, .pinned], laidTests := true, laidLooks := .later }
def EntryJoinsUptoCardSaid : Prop := Claim7.holds Tryd.pinned (.plain (OpenSpec.upto entryJoinsSpec)) entryJoinsUptoCard

/-- THE SECOND FORM's CARD OF 'daylaw1.ChartSums'. -/
def chartSumsUptoCard : Claim7 := { stood := { row := chartSumsUptoRow, standIns := [], harness := (true, "bcf8f476c1959828899a0af5b364a81f28a4251617336173053709bd7371f2b7"), looks := true }, kinds := [], alts := [], laidByText := true, laidKinds := [.data, .pinned, .pinned], laidTests := true, laidLooks := .later }
def ChartSumsUptoCardSaid : Prop := Claim7.holds Tryd.pinned (.plain (OpenSpec.upto chartSumsSpec)) chartSumsUptoCard

/-- THE SECOND FORM's CARD OF 'daylaw1.ChartParses'. -/
def chartParsesUptoCard : Claim7 := { stood := { row := chartParsesUptoRow, standIns := [], harness := (true, "bcf8f476c1959828899a0af5b364a81f28a4251617336173053709bd7371f2b7"), looks := true }, kinds := [], alts := [], laidByText := true, laidKinds := [.data, .handle, .pinned, .pinned], laidTests := true, laidLooks := .later }
def ChartParsesUptoCardSaid : Prop := Claim7.holds Tryd.pinned (.plain (OpenSpec.upto chartParsesSpec)) chartParsesUptoCard
end Rows
end Go.Proofs.YthmjkhlndphldaaDoor
