/-
  DERIVED. GIVEN WITH THE SEED: THE CARDS: each row of YtfkhcdcmcplfoaaGreatDoorRows.lean that lists a variable, with what it lists TIED to the program's text (the seventh form; the later family's looks); each row that meets fmt, with fmt's text TOLD by the authors' own Lean function (tested against real Go, not proved from fmt's source: count such statements apart). THE CARD IS WHAT COUNTS. Prove the row's statement (the work); the ties are given (YtfkhcdcmcplfoaaGreatDoorTie.lean); close each card by the builder's one call (the guide's Derived/Test/ToyasCard.lean, 'card_holds'). Laid BY PROGRAM, IN A SANDBOX (cutbox-door.mjs). By AI agents, Wed Nov 11 2026. No macro, syntax, notation, axiom, sorry.
-/
import Derived.Test.YtfkhcdcmcplfoaaGreatDoorRows
import GoSem.ClaimSeven
namespace Go.Proofs.YtfkhcdcmcplfoaaGreatDoor
namespace Rows

/-- THE TIED CARD OF 'daylaw3.AccruePlans'. -/
def accruePlansCard : Claim7 := { stood := { row := accruePlansRow, standIns := [], harness := (true, "3892290b6716f5937dff0b313a271b90d510da0c3a3830db17ff5b1638927667"), looks := true }, kinds := [], alts := [], laidByText := true, laidKinds := [.data, .data, .data, .data, .handle, .data, .data, .data, .data, .data, .pinned, .pinned], laidTests := true, laidLooks := .later }
def AccruePlansCardSaid : Prop := Claim7.holds Tryz.pinned (.plain (OpenSpec.ofChange accruePlansSpec)) accruePlansCard

/-- THE SECOND FORM's CARD OF 'daylaw3.AccruePlans'. -/
def accruePlansUptoCard : Claim7 := { stood := { row := accruePlansUptoRow, standIns := [], harness := (true, "3892290b6716f5937dff0b313a271b90d510da0c3a3830db17ff5b1638927667"), looks := true }, kinds := [], alts := [], laidByText := true, laidKinds := [.data, .data, .data, .data, .handle, .data, .data, .data, .data, .data, .pinned, .pinned], laidTests := true, laidLooks := .later }
def AccruePlansUptoCardSaid : Prop := Claim7.holds Tryz.pinned (.plain (OpenSpec.upto accruePlansSpec)) accruePlansUptoCard
end Rows
end Go.Proofs.YtfkhcdcmcplfoaaGreatDoor
