/- dayref1.Account and dayref1.Chart: what each returns. -/
import Derived.Test.YtkeapacfmeblgaaGreatDoorRefB
import Derived.Test.YtkeapacfmeblgaaGreatDoorChartX
namespace Go.Proofs.YtkeapacfmeblgaaGreatDoor
open Go Go.RowKit
set_option linter.unusedVariables false

end Go.Proofs.YtkeapacfmeblgaaGreatDoor
