/- The row of RevalueNone: its closed facts, by themselves (memory). -/
import Derived.Test.YtmaaehajficnhaaGreatDoorRows
import Derived.Test.YtmaaehajficnhaaGreatDoorCards
import Derived.Test.YtmaaehajficnhaaGreatDoorTie
import Derived.ProofKit
import Derived.OpenShut
import Derived.LaidMore
import Derived.Lay
import Derived.SevenTiedAt
import Derived.Stop.Joined
import Derived.ChangeOld
namespace Go.Proofs.YtmaaehajficnhaaGreatDoor.RevalueNoneRow
open Go.ChangeShapes Go.WideShapes Go.ChangeAt Go.RowKit
theorem closed : joinedFacts Tryz.pinned.checked.prog 3 Tryz.f3 Rows.revalueNoneSpec Rows.revalueNoneRow = true := by kernel_rfl
end Go.Proofs.YtmaaehajficnhaaGreatDoor.RevalueNoneRow
