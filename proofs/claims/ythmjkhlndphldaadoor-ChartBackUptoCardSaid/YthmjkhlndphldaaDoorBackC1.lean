/- The row of ChartBack (Upto): its closed facts, by themselves (memory). -/
import Derived.Test.YthmjkhlndphldaaDoorRows
import Derived.Test.YthmjkhlndphldaaDoorCards
import Derived.Test.YthmjkhlndphldaaDoorTie
import Derived.ProofKit
import Derived.OpenShut
import Derived.LaidMore
import Derived.Lay
import Derived.SevenTiedAt
import Derived.Stop.Joined
import Derived.ChangeOld
import Derived.JoinedCond
namespace Go.Proofs.YthmjkhlndphldaaDoor.ChartBackRow
open Go.ChangeShapes Go.WideShapes Go.ChangeAt Go.RowKit
theorem closed : joinedFacts Tryd.pinned.checked.prog 5 Tryd.f5 (Rows.OpenSpec.upto Rows.chartBackSpec).bare Rows.chartBackUptoRow = true := by kernel_rfl
end Go.Proofs.YthmjkhlndphldaaDoor.ChartBackRow
