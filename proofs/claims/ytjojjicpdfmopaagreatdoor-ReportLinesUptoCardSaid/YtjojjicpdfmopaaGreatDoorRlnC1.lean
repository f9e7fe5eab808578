/- The row of ReportLines (Upto): its closed facts, by themselves (memory). -/
import Derived.Test.YtjojjicpdfmopaaGreatDoorRows
import Derived.Test.YtjojjicpdfmopaaGreatDoorCards
import Derived.Test.YtjojjicpdfmopaaGreatDoorTie
import Derived.ProofKit
import Derived.OpenShut
import Derived.LaidMore
import Derived.Lay
import Derived.SevenTiedAt
import Derived.Stop.Joined
import Derived.ChangeOld
import Derived.JoinedCond
namespace Go.Proofs.YtjojjicpdfmopaaGreatDoor.ReportLinesRow
open Go.ChangeShapes Go.WideShapes Go.ChangeAt Go.RowKit
theorem closed : joinedFacts Tryz.pinned.checked.prog 3 Tryz.f3 (Rows.OpenSpec.upto Rows.reportLinesSpec).bare Rows.reportLinesUptoRow = true := by kernel_rfl
end Go.Proofs.YtjojjicpdfmopaaGreatDoor.ReportLinesRow
