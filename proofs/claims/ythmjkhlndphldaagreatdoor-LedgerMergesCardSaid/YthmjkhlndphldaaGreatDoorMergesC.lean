/- The row of LedgerMerges: its closed facts, by themselves (memory). -/
import Derived.Test.YthmjkhlndphldaaGreatDoorRows
import Derived.Test.YthmjkhlndphldaaGreatDoorCards
import Derived.Test.YthmjkhlndphldaaGreatDoorTie
import Derived.ProofKit
import Derived.OpenShut
import Derived.LaidMore
import Derived.Lay
import Derived.SevenTiedAt
import Derived.Stop.Joined
import Derived.ChangeOld
namespace Go.Proofs.YthmjkhlndphldaaGreatDoor.LedgerMergesRow
open Go.ChangeShapes Go.WideShapes Go.ChangeAt Go.RowKit
theorem closed : joinedFacts Tryz.pinned.checked.prog 10 Tryz.f10 Rows.ledgerMergesSpec Rows.ledgerMergesRow = true := by kernel_rfl
end Go.Proofs.YthmjkhlndphldaaGreatDoor.LedgerMergesRow
