/- The row of JournalPlays: its closed facts, by themselves (memory). -/
import Derived.Test.YthmjkhlndphldaaGreatDoorRows
import Derived.Test.YthmjkhlndphldaaGreatDoorCards
import Derived.Test.YthmjkhlndphldaaGreatDoorTie
import Derived.ProofKit
import Derived.OpenShut
import Derived.LaidMore
import Derived.Lay
import Derived.SevenTiedAt
import Derived.Stop.Joined
import Derived.ChangeOld
namespace Go.Proofs.YthmjkhlndphldaaGreatDoor.JournalPlaysRow
open Go.ChangeShapes Go.WideShapes Go.ChangeAt Go.RowKit
theorem closed : joinedFacts Tryz.pinned.checked.prog 7 Tryz.f7 Rows.journalPlaysSpec Rows.journalPlaysRow = true := by kernel_rfl
end Go.Proofs.YthmjkhlndphldaaGreatDoor.JournalPlaysRow
