/- The statement ChartChecks, walked, at whatever chart. -/
import Derived.Test.YthmjkhlndphldaaDoorLawE
namespace Go.Proofs.YthmjkhlndphldaaDoor
open Go Go.RowKit
set_option linter.unusedVariables false

theorem checks_any (l : List Acc) (c : ByteArray) (A : Option Addr) (n cap : Nat) (w : World) (hcap : n ≤ cap) (hm : cap ≤ maxLen) (ha : Accs w A n l) (hok : AccOk l) (hg : ErrTy w) :
    Calls Tryd.prog 4 #[.slice A n cap, .string c] w fun e w' => e = .returned (.bool true) ∧ Below w.heap.size w w' := by
  by_cases he : chartE l = 0
  · have hn : l.length = n := ha.1
    subst hn
    cases hi : idxO l c with
    | none => exact checks_none l c A cap w hcap ha hok hg he hi
    | some i => exact checks_some l c i A cap w hcap ha hok hg he hi (idxO_lt hi)
  · exact checks_bad l c A n cap w (by unfold maxLen at hm; omega) hcap ha hok hg he (chartE_range l).1 (chartE_range l).2
end Go.Proofs.YthmjkhlndphldaaDoor
