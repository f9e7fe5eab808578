/-
  DERIVED. GIVEN WITH THE SEED: THE CARDS: each row of YtmpnbkjcpgnifaaGreatDoorRows.lean that lists a variable, with what it lists TIED to the program's text (the seventh form; the later family's looks); each row that meets fmt, with fmt's text TOLD by the authors' own Lean function (tested against real Go, not proved from fmt's source: count such statements apart). THE CARD IS WHAT COUNTS. Prove the row's statement (the work); the ties are given (YtmpnbkjcpgnifaaGreatDoorTie.lean); close each card by the builder's one call (the guide's Derived/Test/ToyasCard.lean, 'card_holds'). Laid BY PROGRAM, IN A SANDBOX (cutbox-door.mjs). By AI agents, Wed Nov 11 2026. No macro, syntax, notation, axiom, sorry.
-/
import Derived.Test.YtmpnbkjcpgnifaaGreatDoorRows
import GoSem.ClaimSeven
namespace Go.Proofs.YtmpnbkjcpgnifaaGreatDoor
namespace Rows

/-- THE TIED CARD OF 'daylaw3.AllotEven'. -/
def allotEvenCard : Claim7 := { stood := { row := allotEvenRow, standIns := [], harness := (true, "83f3f76166ca898f8e4f22445a0930ca487b4311e3df13319100f5ca2b286a8a"), looks := true }, kinds := [], alts := [], laidByText := true, laidKinds := [.data, .data, .data, .data, .data, .data, .data, .data, .data, .pinned, .pinned], laidTests := true, laidLooks := .later }
def AllotEvenCardSaid : Prop := Claim7.holds Tryz.pinned (.plain (OpenSpec.ofChange allotEvenSpec)) allotEvenCard

/-- THE SECOND FORM's CARD OF 'daylaw3.AllotEven'. -/
def allotEvenUptoCard : Claim7 := { stood := { row := allotEvenUptoRow, standIns := [], harness := (true, "83f3f76166ca898f8e4f22445a0930ca487b4311e3df13319100f5ca2b286a8a"), looks := true }, kinds := [], alts := [], laidByText := true, laidKinds := [.data, .data, .data, .data, .data, .data, .data, .data, .data, .pinned, .pinned], laidTests := true, laidLooks := .later }
def AllotEvenUptoCardSaid : Prop := Claim7.holds Tryz.pinned (.plain (OpenSpec.upto allotEvenSpec)) allotEvenUptoCard
end Rows
end Go.Proofs.YtmpnbkjcpgnifaaGreatDoor
