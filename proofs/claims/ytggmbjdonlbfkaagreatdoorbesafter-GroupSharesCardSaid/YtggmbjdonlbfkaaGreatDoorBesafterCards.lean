/-
  DERIVED. GIVEN WITH THE SEED: THE CARDS: each row of YtggmbjdonlbfkaaGreatDoorBesafterRows.lean that lists a variable, with what it lists TIED to the program's text (the seventh form; the later family's looks); each row that meets fmt, with fmt's text TOLD by the authors' own Lean function (tested against real Go, not proved from fmt's source: count such statements apart). THE CARD IS WHAT COUNTS. Prove the row's statement (the work); the ties are given (YtggmbjdonlbfkaaGreatDoorBesafterTie.lean); close each card by the builder's one call (the guide's Derived/Test/ToyasCard.lean, 'card_holds'). Laid BY PROGRAM, IN A SANDBOX (cutbox-door.mjs). By AI agents, Wed Nov 11 2026. No macro, syntax, notation, axiom, sorry.
-/
import Derived.Test.YtggmbjdonlbfkaaGreatDoorBesafterRows
import GoSem.ClaimSeven
namespace Go.Proofs.YtggmbjdonlbfkaaGreatDoorBesafter
namespace Rows

/-- THE TIED CARD OF 'daylaw4.GroupShares'. -/
def groupSharesCard : Claim7 := { stood := { row := groupSharesRow, standIns := [], harness := (true, "b213da7bc90dbad284dcdbe89891dba7e30a00ed664e63ade8ce7609c22fbeb1"), looks := true }, kinds := [], alts := [], laidByText := true, laidKinds := [.data, .data, .data, .data, .data, .data, .data, .data, .pinned, .pinned], laidTests := true, laidLooks := .later }
def GroupSharesCardSaid : Prop := Claim7.holds Tryz.pinned (.plain (OpenSpec.ofChange groupSharesSpec)) groupSharesCard

/-- THE SECOND FORM's CARD OF 'daylaw4.GroupShares'. -/
def groupSharesUptoCard : Claim7 := { stood := { row := groupSharesUptoRow, standIns := [], harness := (true, "b213da7bc90dbad284dcdbe89891dba7e30a00ed664e63ade8ce7609c22fbeb1"), looks := true }, kinds := [], alts := [], laidByText := true, laidKinds := [.data, .data, .data, .data, .data, .data, .data, .data, .pinned, .pinned], laidTests := true, laidLooks := .later }
def GroupSharesUptoCardSaid : Prop := Claim7.holds Tryz.pinned (.plain (OpenSpec.upto groupSharesSpec)) groupSharesUptoCard
end Rows
end Go.Proofs.YtggmbjdonlbfkaaGreatDoorBesafter
