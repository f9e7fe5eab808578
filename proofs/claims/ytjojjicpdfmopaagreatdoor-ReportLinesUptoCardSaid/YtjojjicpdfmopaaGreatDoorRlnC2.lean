/- The card of ReportLines (Upto): its closed facts, each by itself (memory). -/
import Derived.Test.YtjojjicpdfmopaaGreatDoorRows
import Derived.Test.YtjojjicpdfmopaaGreatDoorCards
import Derived.Test.YtjojjicpdfmopaaGreatDoorTie
import Derived.ProofKit
import Derived.OpenShut
import Derived.LaidMore
import Derived.Lay
import Derived.SevenTiedAt
import Derived.Stop.Joined
import Derived.ChangeOld
namespace Go.Proofs.YtjojjicpdfmopaaGreatDoor.ReportLinesRow
open Go.ChangeShapes Go.WideShapes Go.ChangeAt Go.RowKit
theorem kw : Rows.reportLinesUptoRow.wfByText (Rows.OpenSpec.upto Rows.reportLinesSpec) = true := by kernel_rfl
theorem km : Tryz.pinned.checked.prog.mainIs = some (Rows.reportLinesUptoCard.stood.harness.1, Rows.reportLinesUptoCard.stood.harness.2.toList) := by kernel_rfl
theorem kn : Tryz.prog.funcNamed Rows.reportLinesUptoRow.func = some 3 := by kernel_rfl
theorem kl : true = Tryz.pinned.checked.prog.looks [] := by kernel_rfl
theorem ka : ([22, 23, 3].all fun u => !Tryz.prog.wantsStandIn u) = true := by kernel_rfl
theorem kg : false = Rows.reportLinesUptoRow.goesBy Tryz.pinned.checked.prog := by kernel_rfl
end Go.Proofs.YtjojjicpdfmopaaGreatDoor.ReportLinesRow
