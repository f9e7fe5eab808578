/- What chart.Check may return: a number from 0 to 12. -/
import Derived.Test.YtjojjicpdfmopaaGreatDoorChartP
namespace Go.Proofs.YtjojjicpdfmopaaGreatDoor
open Go Go.RowKit
set_option linter.unusedVariables false

theorem accF_range (f : List Acc) (a : Acc) : 0 ≤ accF f a ∧ accF f a ≤ 12 := by
  unfold accF
  repeat' split
  all_goals omega
theorem accE_range (l : List Acc) (i : Nat) : 0 ≤ accE l i ∧ accE l i ≤ 12 := by
  unfold accE
  split
  · exact accF_range _ _
  · omega
theorem scanE_range (l : List Acc) : ∀ n i, 0 ≤ scanE l i n ∧ scanE l i n ≤ 12 := by
  intro n
  induction n with
  | zero => intro i; unfold scanE; omega
  | succ n ih =>
    intro i
    unfold scanE
    split
    · exact ih _
    · exact accE_range _ _
theorem chartE_range (l : List Acc) : 0 ≤ chartE l ∧ chartE l ≤ 12 := by
  unfold chartE
  split
  · omega
  · exact scanE_range _ _ _
end Go.Proofs.YtjojjicpdfmopaaGreatDoor
