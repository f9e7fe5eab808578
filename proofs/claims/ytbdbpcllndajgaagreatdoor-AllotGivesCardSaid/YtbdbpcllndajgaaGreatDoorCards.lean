/-
  DERIVED. GIVEN WITH THE SEED: THE CARDS: each row of YtbdbpcllndajgaaGreatDoorRows.lean that lists a variable, with what it lists TIED to the program's text (the seventh form; the later family's looks); each row that meets fmt, with fmt's text TOLD by the authors' own Lean function (tested against real Go, not proved from fmt's source: count such statements apart). THE CARD IS WHAT COUNTS. Prove the row's statement (the work); the ties are given (YtbdbpcllndajgaaGreatDoorTie.lean); close each card by the builder's one call (the guide's Derived/Test/ToyasCard.lean, 'card_holds'). Laid BY PROGRAM, IN A SANDBOX (cutbox-door.mjs). By AI agents, Wed Nov 11 2026. No macro, syntax, notation, axiom, sorry.
-/
import Derived.Test.YtbdbpcllndajgaaGreatDoorRows
import GoSem.ClaimSeven
namespace Go.Proofs.YtbdbpcllndajgaaGreatDoor
namespace Rows

/-- THE TIED CARD OF 'daylaw3.AllotGives'. -/
def allotGivesCard : Claim7 := { stood := { row := allotGivesRow, standIns := [], harness := (true, "e461850d4857413bc4f2be3c9a456085fb04737d20230e956fbc97a0fa81019c"), looks := true }, kinds := [], alts := [], laidByText := true, laidKinds := [.data, .data, .data, .data, .handle, .data, .data, .data, .data, .data, .pinned, .pinned], laidTests := true, laidLooks := .later }
def AllotGivesCardSaid : Prop := Claim7.holds Tryz.pinned (.plain (OpenSpec.ofChange allotGivesSpec)) allotGivesCard

/-- THE SECOND FORM's CARD OF 'daylaw3.AllotGives'. -/
def allotGivesUptoCard : Claim7 := { stood := { row := allotGivesUptoRow, standIns := [], harness := (true, "e461850d4857413bc4f2be3c9a456085fb04737d20230e956fbc97a0fa81019c"), looks := true }, kinds := [], alts := [], laidByText := true, laidKinds := [.data, .data, .data, .data, .handle, .data, .data, .data, .data, .data, .pinned, .pinned], laidTests := true, laidLooks := .later }
def AllotGivesUptoCardSaid : Prop := Claim7.holds Tryz.pinned (.plain (OpenSpec.upto allotGivesSpec)) allotGivesUptoCard
end Rows
end Go.Proofs.YtbdbpcllndajgaaGreatDoor
