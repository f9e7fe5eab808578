/- The row of ChartParses (Upto): its closed facts, by themselves (memory). -/
import Derived.Test.YthmjkhlndphldaaDoorRows
import Derived.Test.YthmjkhlndphldaaDoorCards
import Derived.Test.YthmjkhlndphldaaDoorTie
import Derived.ProofKit
import Derived.OpenShut
import Derived.LaidMore
import Derived.Lay
import Derived.SevenTiedAt
import Derived.Stop.Joined
import Derived.ChangeOld
import Derived.JoinedCond
namespace Go.Proofs.YthmjkhlndphldaaDoor.ChartParsesRow
open Go.ChangeShapes Go.WideShapes Go.ChangeAt Go.RowKit
theorem closed : joinedFacts Tryd.pinned.checked.prog 9 Tryd.f9 (Rows.OpenSpec.upto Rows.chartParsesSpec).bare Rows.chartParsesUptoRow = true := by kernel_rfl
end Go.Proofs.YthmjkhlndphldaaDoor.ChartParsesRow
