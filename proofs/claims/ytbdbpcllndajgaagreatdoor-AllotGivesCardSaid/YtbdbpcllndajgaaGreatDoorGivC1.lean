/- The row of AllotGives: its closed facts, each by itself (memory). -/
import Derived.Test.YtbdbpcllndajgaaGreatDoorRows
import Derived.Test.YtbdbpcllndajgaaGreatDoorCards
import Derived.Test.YtbdbpcllndajgaaGreatDoorTie
import Derived.Test.YtbdbpcllndajgaaGreatDoorJoinP
import Derived.ProofKit
import Derived.OpenShut
import Derived.LaidMore
import Derived.Lay
import Derived.SevenTiedAt
import Derived.Stop.Joined
import Derived.ChangeOld
namespace Go.Proofs.YtbdbpcllndajgaaGreatDoor.AllotGivesRow
open Go.ChangeShapes Go.WideShapes Go.ChangeAt Go.RowKit
theorem c1 : jf1 Tryz.pinned.checked.prog 3 Tryz.f3 Rows.allotGivesSpec Rows.allotGivesRow = true := by kernel_rfl
theorem c2 : jf2 Tryz.pinned.checked.prog 3 Rows.allotGivesRow = true := by kernel_rfl
theorem c3 : jf3 Tryz.pinned.checked.prog 3 Rows.allotGivesRow = true := by kernel_rfl
theorem c4 : jf4 Tryz.pinned.checked.prog 3 Rows.allotGivesRow = true := by kernel_rfl
theorem c5 : jf5 Tryz.pinned.checked.prog 3 Rows.allotGivesRow = true := by kernel_rfl
theorem c6 : jf6 Tryz.pinned.checked.prog 3 Tryz.f3 Rows.allotGivesSpec Rows.allotGivesRow = true := by kernel_rfl
theorem c7 : jf7 Tryz.pinned.checked.prog Rows.allotGivesRow = true := by kernel_rfl
theorem c8 : jf8 Tryz.pinned.checked.prog = true := by kernel_rfl
theorem c9 : jf9 Tryz.pinned.checked.prog Rows.allotGivesRow = true := by kernel_rfl
theorem c10 : jf10 Tryz.pinned.checked.prog 3 Tryz.f3 Rows.allotGivesSpec Rows.allotGivesRow = true := by kernel_rfl
theorem closed : joinedFacts Tryz.pinned.checked.prog 3 Tryz.f3 Rows.allotGivesSpec Rows.allotGivesRow = true := joined_split _ _ _ _ _ c1 c2 c3 c4 c5 c6 c7 c8 c9 c10
end Go.Proofs.YtbdbpcllndajgaaGreatDoor.AllotGivesRow
