/- The row of ReportEven: its closed facts, by themselves (memory). -/
import Derived.Test.YthmjkhlndphldaaGreatDoorRows
import Derived.Test.YthmjkhlndphldaaGreatDoorCards
import Derived.Test.YthmjkhlndphldaaGreatDoorTie
import Derived.ProofKit
import Derived.OpenShut
import Derived.LaidMore
import Derived.Lay
import Derived.SevenTiedAt
import Derived.Stop.Joined
import Derived.ChangeOld
namespace Go.Proofs.YthmjkhlndphldaaGreatDoor.ReportEvenRow
open Go.ChangeShapes Go.WideShapes Go.ChangeAt Go.RowKit
theorem closed : joinedFacts Tryz.pinned.checked.prog 8 Tryz.f8 Rows.reportEvenSpec Rows.reportEvenRow = true := by kernel_rfl
end Go.Proofs.YthmjkhlndphldaaGreatDoor.ReportEvenRow
