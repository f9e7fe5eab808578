/-
  DERIVED. GIVEN WITH THE SEED: THE CARDS: each row of YtkeapacfmeblgaaGreatDoorRows.lean that lists a variable, with what it lists TIED to the program's text (the seventh form; the later family's looks); each row that meets fmt, with fmt's text TOLD by the authors' own Lean function (tested against real Go, not proved from fmt's source: count such statements apart). THE CARD IS WHAT COUNTS. Prove the row's statement (the work); the ties are given (YtkeapacfmeblgaaGreatDoorTie.lean); close each card by the builder's one call (the guide's Derived/Test/ToyasCard.lean, 'card_holds'). Laid BY PROGRAM, IN A SANDBOX (cutbox-door.mjs). By AI agents, Wed Nov 11 2026. No macro, syntax, notation, axiom, sorry.
-/
import Derived.Test.YtkeapacfmeblgaaGreatDoorRows
import GoSem.ClaimSeven
namespace Go.Proofs.YtkeapacfmeblgaaGreatDoor
namespace Rows

/-- THE TIED CARD OF 'daylaw3.AccrueAll'. -/
def accrueAllCard : Claim7 := { stood := { row := accrueAllRow, standIns := [], harness := (true, "29d47f7a60af74e461fdf44efeb74f76695e4c43a39c147f2624af2ee740dc50"), looks := true }, kinds := [], alts := [], laidByText := true, laidKinds := [.data, .data, .data, .data, .data, .data, .data, .data, .data, .pinned, .pinned], laidTests := true, laidLooks := .later }
def AccrueAllCardSaid : Prop := Claim7.holds Tryz.pinned (.plain (OpenSpec.ofChange accrueAllSpec)) accrueAllCard

/-- THE SECOND FORM's CARD OF 'daylaw3.AccrueAll'. -/
def accrueAllUptoCard : Claim7 := { stood := { row := accrueAllUptoRow, standIns := [], harness := (true, "29d47f7a60af74e461fdf44efeb74f76695e4c43a39c147f2624af2ee740dc50"), looks := true }, kinds := [], alts := [], laidByText := true, laidKinds := [.data, .data, .data, .data, .data, .data, .data, .data, .data, .pinned, .pinned], laidTests := true, laidLooks := .later }
def AccrueAllUptoCardSaid : Prop := Claim7.holds Tryz.pinned (.plain (OpenSpec.upto accrueAllSpec)) accrueAllUptoCard
end Rows
end Go.Proofs.YtkeapacfmeblgaaGreatDoor
