/- What comes in: a slice of ints. -/
import Derived.Test.YthmjkhlndphldaaGreatDoorOpen
import Derived.Test.YthmjkhlndphldaaGreatDoorBigI
namespace Go.Proofs.YthmjkhlndphldaaGreatDoor
open Go Go.RowKit Go.Deep Go.ChangeShapes Go.WideShapes
set_option linter.unusedVariables false
def IntFits (x : Int) : Prop := -9223372036854775808 ≤ x ∧ x ≤ 9223372036854775807
theorem intFits_of {n : Int} (h : (Lit.int .i64 n).wf = true) : IntFits n := by
  simp [Lit.wf, IntKind.min, IntKind.max, IntKind.signed, IntKind.bits] at h
  unfold IntFits
  omega
theorem open_int1 {H : Type} {enc : TypeId × Value → H} {w : World} {base : Nat} {spare : Nat → Bool} {held : Bool} (fuel : Nat) (cs : List Value) (y : DataW H × List MemPlace)
    (h : DataW.trod enc Tryz.prog w base spare held fuel 3 cs = some y) : ∃ a : Int, cs = intEnc2 a ∧ IntFits a := by
  obtain ⟨k, g, _, m⟩ := DataW.trod_int Tryz.underlying3 h
  exact ⟨k, g, intFits_of m⟩
theorem open_ints {H : Type} {enc : TypeId × Value → H} {w : World} {base : Nat} {spare : Nat → Bool} {held : Bool} {fuel : Nat} {cs : List Value} {x : DataW H × List MemPlace}
    (h : DataW.trod enc Tryz.prog w base spare held fuel 42 cs = some x) :
    ∃ A len cap l, cs = [.slice A len cap] ∧ len ≤ cap ∧ cap ≤ maxLen ∧ Rd w 1 intEnc2 A len l ∧ Ints64 l := by
  obtain ⟨A, len, cap, l, h1, h2, h3, h4, h5, _⟩ := open_recs intEnc2 IntFits 1 (by omega) (fun _ => rfl) Tryz.underlying42 cells_int open_int1 h
  exact ⟨A, len, cap, l, h1, h2, h3, h4, h5⟩
end Go.Proofs.YthmjkhlndphldaaGreatDoor
