/- The card of AllotGives: its closed facts, each by itself (memory). -/
import Derived.Test.YtbdbpcllndajgaaGreatDoorRows
import Derived.Test.YtbdbpcllndajgaaGreatDoorCards
import Derived.Test.YtbdbpcllndajgaaGreatDoorTie
import Derived.ProofKit
import Derived.OpenShut
import Derived.LaidMore
import Derived.Lay
import Derived.SevenTiedAt
import Derived.Stop.Joined
import Derived.ChangeOld
namespace Go.Proofs.YtbdbpcllndajgaaGreatDoor.AllotGivesRow
open Go.ChangeShapes Go.WideShapes Go.ChangeAt Go.RowKit
theorem kw : Rows.allotGivesRow.wfByText (OpenSpec.ofChange Rows.allotGivesSpec) = true := by kernel_rfl
theorem km : Tryz.pinned.checked.prog.mainIs = some (Rows.allotGivesCard.stood.harness.1, Rows.allotGivesCard.stood.harness.2.toList) := by kernel_rfl
theorem kn : Tryz.prog.funcNamed Rows.allotGivesRow.func = some 3 := by kernel_rfl
theorem kl : true = Tryz.pinned.checked.prog.looks [] := by kernel_rfl
theorem ka : ([22, 23, 24, 3].all fun u => !Tryz.prog.wantsStandIn u) = true := by kernel_rfl
theorem kg : false = Rows.allotGivesRow.goesBy Tryz.pinned.checked.prog := by kernel_rfl
end Go.Proofs.YtbdbpcllndajgaaGreatDoor.AllotGivesRow
