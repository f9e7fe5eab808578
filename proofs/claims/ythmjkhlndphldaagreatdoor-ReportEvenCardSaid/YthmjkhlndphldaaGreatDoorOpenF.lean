/- What comes in: a slice of entries. -/
import Derived.Test.YthmjkhlndphldaaGreatDoorOpenE
namespace Go.Proofs.YthmjkhlndphldaaGreatDoor
open Go Go.RowKit Go.Deep Go.ChangeShapes Go.WideShapes
set_option linter.unusedVariables false

theorem open_ents {H : Type} {enc : TypeId × Value → H} {w : World} {base : Nat} {spare : Nat → Bool} {held : Bool} {fuel : Nat} {cs : List Value} {x : DataW H × List MemPlace}
    (h : DataW.trod enc Tryz.prog w base spare held fuel 50 cs = some x) :
    ∃ A len cap l, cs = [.slice A len cap] ∧ len ≤ cap ∧ cap ≤ maxLen ∧ Rd w 4 Ent.enc A len l ∧ (∀ e ∈ l, EntFits w e) ∧ (A = none → cap = 0) :=
  open_recs Ent.enc (EntFits w) 4 (by omega) (fun _ => rfl) Tryz.underlying50 cells_ent open_ent h
end Go.Proofs.YthmjkhlndphldaaGreatDoor
