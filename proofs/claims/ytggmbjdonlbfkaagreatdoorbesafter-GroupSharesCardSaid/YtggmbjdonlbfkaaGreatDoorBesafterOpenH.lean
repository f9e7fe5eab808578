/- What comes in: a slice of holdings. -/
import Derived.Test.YtggmbjdonlbfkaaGreatDoorBesafterOpenX
import Derived.Test.YtggmbjdonlbfkaaGreatDoorBesafterGrpX
namespace Go.Proofs.YtggmbjdonlbfkaaGreatDoorBesafter
open Go Go.RowKit Go.Deep Go.ChangeShapes Go.WideShapes
set_option linter.unusedVariables false

structure HoldFits (h : Hold) : Prop where
  ent : IntFits h.ent
  wh : IntFits h.wh
  part : IntFits h.part
theorem cells_hold : Tryz.prog.cellsOf 31 = 3 := by kernel_rfl
set_option maxRecDepth 100000 in
theorem open_hold {H : Type} {enc : TypeId × Value → H} {w : World} {base : Nat} {spare : Nat → Bool} {held : Bool} (fuel : Nat) (cs : List Value) (y : DataW H × List MemPlace)
    (h : DataW.trod enc Tryz.prog w base spare held fuel 31 cs = some y) : ∃ a : Hold, cs = Hold.enc a ∧ HoldFits a := by
  obtain ⟨xs, n, _, _, hlen, hxl, hf⟩ := DataW.trod_struct Tryz.underlying31 h
  rw [cells_hold] at hlen
  obtain ⟨c0, c1, c2, rfl⟩ := list3 hlen
  obtain ⟨y0, y1, y2, rfl⟩ := list3 hxl
  have e0 := hf 0 _ rfl
  have e1 := hf 1 _ rfl
  have e2 := hf 2 _ rfl
  change DataW.trod enc Tryz.prog w base spare held n 3 (([c0, c1, c2].drop 0).take (Tryz.prog.cellsOf 3)) = some y0 at e0
  change DataW.trod enc Tryz.prog w base spare held n 3 (([c0, c1, c2].drop 1).take (Tryz.prog.cellsOf 3)) = some y1 at e1
  change DataW.trod enc Tryz.prog w base spare held n 3 (([c0, c1, c2].drop 2).take (Tryz.prog.cellsOf 3)) = some y2 at e2
  simp only [cells_int] at e0 e1 e2
  obtain ⟨k0, g0, _, m0⟩ := DataW.trod_int Tryz.underlying3 e0
  obtain ⟨k1, g1, _, m1⟩ := DataW.trod_int Tryz.underlying3 e1
  obtain ⟨k2, g2, _, m2⟩ := DataW.trod_int Tryz.underlying3 e2
  simp at g0 g1 g2
  subst g0 g1 g2
  exact ⟨⟨k0, k1, k2⟩, rfl, ⟨intFits_of m0, intFits_of m1, intFits_of m2⟩⟩
def HoldsOk (l : List Hold) : Prop := ∀ h ∈ l, HoldFits h
theorem open_holds {H : Type} {enc : TypeId × Value → H} {w : World} {base : Nat} {spare : Nat → Bool} {held : Bool} {fuel : Nat} {cs : List Value} {x : DataW H × List MemPlace}
    (h : DataW.trod enc Tryz.prog w base spare held fuel 23 cs = some x) :
    ∃ A len cap l, cs = [.slice A len cap] ∧ len ≤ cap ∧ cap ≤ maxLen ∧ Rd w 3 Hold.enc A len l ∧ HoldsOk l ∧ (A = none → cap = 0) :=
  open_recs Hold.enc HoldFits 3 (by omega) (fun _ => rfl) Tryz.underlying23 cells_hold open_hold h
end Go.Proofs.YtggmbjdonlbfkaaGreatDoorBesafter
