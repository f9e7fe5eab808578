/- rate.Convert at no rates, both currencies the base. -/
import Derived.Test.YtmaaehajficnhaaGreatDoorRatA
import Derived.Test.YtmaaehajficnhaaGreatDoorRevA
namespace Go.Proofs.YtmaaehajficnhaaGreatDoor
open Go Go.RowKit
set_option linter.unusedVariables false

theorem convert_same (per amt : Int) (hp : inB 1 120 per = true) (h0 : -9223372036854775808 ≤ amt) (h1 : amt ≤ 9223372036854775807) (w : World) :
    Calls Tryz.prog 8 #[.slice none 0 0, .string eur, .string eur, .string eur, .int .i64 per, .int .i64 amt] w fun e w' => e = .returned (.tuple #[.int .i64 amt, .nilIface]) ∧ Below w.heap.size w w' := by
  go_enter Tryz.func8, Tryz.ntmps8
  go_wp2_with fail
  refine (find_same per hp _).mono ?_
  rintro e w1 ⟨rfl, hb1⟩
  go_wp2_with fail
  refine (ratio_one amt _ h0 h1).mono ?_
  rintro e w2 ⟨rfl, hb2⟩
  go_wp2_with fail
  go_ret2
  exact ⟨rfl, bthen hb1 (Nat.le_refl _) hb2⟩

end Go.Proofs.YtmaaehajficnhaaGreatDoor
