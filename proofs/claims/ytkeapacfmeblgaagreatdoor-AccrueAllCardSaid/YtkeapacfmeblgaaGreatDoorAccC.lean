/- The row of AccrueAll: its closed facts, by themselves (memory). -/
import Derived.Test.YtkeapacfmeblgaaGreatDoorRows
import Derived.Test.YtkeapacfmeblgaaGreatDoorCards
import Derived.Test.YtkeapacfmeblgaaGreatDoorTie
import Derived.ProofKit
import Derived.OpenShut
import Derived.LaidMore
import Derived.Lay
import Derived.SevenTiedAt
import Derived.Stop.Joined
import Derived.ChangeOld
namespace Go.Proofs.YtkeapacfmeblgaaGreatDoor.AccrueAllRow
open Go.ChangeShapes Go.WideShapes Go.ChangeAt Go.RowKit
theorem closed : joinedFacts Tryz.pinned.checked.prog 3 Tryz.f3 Rows.accrueAllSpec Rows.accrueAllRow = true := by kernel_rfl
end Go.Proofs.YtkeapacfmeblgaaGreatDoor.AccrueAllRow
