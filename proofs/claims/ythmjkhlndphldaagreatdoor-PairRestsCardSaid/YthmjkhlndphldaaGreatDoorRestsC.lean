/- The row of PairRests: its closed facts, by themselves (memory). -/
import Derived.Test.YthmjkhlndphldaaGreatDoorRows
import Derived.Test.YthmjkhlndphldaaGreatDoorCards
import Derived.Test.YthmjkhlndphldaaGreatDoorTie
import Derived.ProofKit
import Derived.OpenShut
import Derived.LaidMore
import Derived.Lay
import Derived.SevenTiedAt
import Derived.Stop.Joined
import Derived.ChangeOld
namespace Go.Proofs.YthmjkhlndphldaaGreatDoor.PairRestsRow
open Go.ChangeShapes Go.WideShapes Go.ChangeAt Go.RowKit
theorem closed : joinedFacts Tryz.pinned.checked.prog 11 Tryz.f11 Rows.pairRestsSpec Rows.pairRestsRow = true := by kernel_rfl
end Go.Proofs.YthmjkhlndphldaaGreatDoor.PairRestsRow
