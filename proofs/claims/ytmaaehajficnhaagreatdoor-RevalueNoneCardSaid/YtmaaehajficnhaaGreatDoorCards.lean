/-
  DERIVED. GIVEN WITH THE SEED: THE CARDS: each row of YtmaaehajficnhaaGreatDoorRows.lean that lists a variable, with what it lists TIED to the program's text (the seventh form; the later family's looks); each row that meets fmt, with fmt's text TOLD by the authors' own Lean function (tested against real Go, not proved from fmt's source: count such statements apart). THE CARD IS WHAT COUNTS. Prove the row's statement (the work); the ties are given (YtmaaehajficnhaaGreatDoorTie.lean); close each card by the builder's one call (the guide's Derived/Test/ToyasCard.lean, 'card_holds'). Laid BY PROGRAM, IN A SANDBOX (cutbox-door.mjs). By AI agents, Wed Nov 11 2026. No macro, syntax, notation, axiom, sorry.
-/
import Derived.Test.YtmaaehajficnhaaGreatDoorRows
import GoSem.ClaimSeven
namespace Go.Proofs.YtmaaehajficnhaaGreatDoor
namespace Rows

/-- THE TIED CARD OF 'daylaw5.RevalueNone'. -/
def revalueNoneCard : Claim7 := { stood := { row := revalueNoneRow, standIns := [], harness := (true, "3d58352d45da2905122cfbdea03527647eac294eac0958529fc9c3dcfad85ed1"), looks := true }, kinds := [], alts := [], laidByText := true, laidKinds := [.data, .data, .data, .data, .data, .data, .data, .data, .pinned, .pinned], laidTests := true, laidLooks := .later }
def RevalueNoneCardSaid : Prop := Claim7.holds Tryz.pinned (.plain (OpenSpec.ofChange revalueNoneSpec)) revalueNoneCard

/-- THE SECOND FORM's CARD OF 'daylaw5.RevalueNone'. -/
def revalueNoneUptoCard : Claim7 := { stood := { row := revalueNoneUptoRow, standIns := [], harness := (true, "3d58352d45da2905122cfbdea03527647eac294eac0958529fc9c3dcfad85ed1"), looks := true }, kinds := [], alts := [], laidByText := true, laidKinds := [.data, .data, .data, .data, .data, .data, .data, .data, .pinned, .pinned], laidTests := true, laidLooks := .later }
def RevalueNoneUptoCardSaid : Prop := Claim7.holds Tryz.pinned (.plain (OpenSpec.upto revalueNoneSpec)) revalueNoneUptoCard
end Rows
end Go.Proofs.YtmaaehajficnhaaGreatDoor
