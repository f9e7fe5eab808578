/-
  DERIVED. GIVEN WITH THE SEED: THE CARDS: each row of YtafgceikjomnpaaGreatDoorRows.lean that lists a variable, with what it lists TIED to the program's text (the seventh form; the later family's looks); each row that meets fmt, with fmt's text TOLD by the authors' own Lean function (tested against real Go, not proved from fmt's source: count such statements apart). THE CARD IS WHAT COUNTS. Prove the row's statement (the work); the ties are given (YtafgceikjomnpaaGreatDoorTie.lean); close each card by the builder's one call (the guide's Derived/Test/ToyasCard.lean, 'card_holds'). Laid BY PROGRAM, IN A SANDBOX (cutbox-door.mjs). By AI agents, Wed Nov 11 2026. No macro, syntax, notation, axiom, sorry.
-/
import Derived.Test.YtafgceikjomnpaaGreatDoorRows
import GoSem.ClaimSeven
namespace Go.Proofs.YtafgceikjomnpaaGreatDoor
namespace Rows

/-- THE TIED CARD OF 'daylaw5.AllotTwice'. -/
def allotTwiceCard : Claim7 := { stood := { row := allotTwiceRow, standIns := [], harness := (true, "0ecfe23b6355625b6ab4ffe1c3b3acd5e5223a149b569b544054b05f4ceb53e2"), looks := true }, kinds := [], alts := [], laidByText := true, laidKinds := [.data, .data, .data, .data, .data, .data, .data, .data, .data, .pinned, .pinned], laidTests := true, laidLooks := .later }
def AllotTwiceCardSaid : Prop := Claim7.holds Tryz.pinned (.plain (OpenSpec.ofChange allotTwiceSpec)) allotTwiceCard

/-- THE SECOND FORM's CARD OF 'daylaw5.AllotTwice'. -/
def allotTwiceUptoCard : Claim7 := { stood := { row := allotTwiceUptoRow, standIns := [], harness := (true, "0ecfe23b6355625b6ab4ffe1c3b3acd5e5223a149b569b544054b05f4ceb53e2"), looks := true }, kinds := [], alts := [], laidByText := true, laidKinds := [.data, .data, .data, .data, .data, .data, .data, .data, .data, .pinned, .pinned], laidTests := true, laidLooks := .later }
def AllotTwiceUptoCardSaid : Prop := Claim7.holds Tryz.pinned (.plain (OpenSpec.upto allotTwiceSpec)) allotTwiceUptoCard
end Rows
end Go.Proofs.YtafgceikjomnpaaGreatDoor
