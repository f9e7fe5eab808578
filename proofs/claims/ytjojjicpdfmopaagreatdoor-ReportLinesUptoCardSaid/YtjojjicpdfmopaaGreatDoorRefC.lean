/- package dayref1: Leaf and In; daysame.Texts: what each returns. -/
import Derived.Test.YtjojjicpdfmopaaGreatDoorChartP
import Derived.Deep.QuietTactic
import Derived.BigQuiet
namespace Go.Proofs.YtjojjicpdfmopaaGreatDoor
open Go Go.RowKit
set_option linter.unusedVariables false

theorem idx_code {l : List Acc} (h : chartE l = 0) {p : Nat} (hp : p < l.length) {c : ByteArray} (e : l[p].code.toList = c.toList) : idxO l c = some p := by
  rw [← ch_idx h p hp]
  unfold idxO
  rw [e]

end Go.Proofs.YtjojjicpdfmopaaGreatDoor
