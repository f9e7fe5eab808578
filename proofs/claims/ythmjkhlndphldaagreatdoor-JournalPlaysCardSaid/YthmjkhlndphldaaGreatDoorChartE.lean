/- chart.Under and chart.Find: what each returns. -/
import Derived.Test.YthmjkhlndphldaaGreatDoorChartD
namespace Go.Proofs.YthmjkhlndphldaaGreatDoor
open Go Go.RowKit
set_option linter.unusedVariables false

/-- is account k under account i? -/
def bel (l : List Acc) (i k : Nat) : Bool := belTo l i (l.length - i - 1) k
/-- the codes of those under i, ahead of k -/
def underTo (l : List Acc) (i k : Nat) : List ByteArray := ((List.range k).filter fun j => bel l i j).filterMap fun j => (l[j]?).map (·.code)
theorem underTo_yes {l : List Acc} {i k : Nat} (h : k < l.length) (he : bel l i k = true) : underTo l i (k + 1) = underTo l i k ++ [l[k].code] := by
  unfold underTo
  rw [List.range_succ, List.filter_append, List.filterMap_append]
  simp [he, h]
theorem underTo_no {l : List Acc} {i k : Nat} (he : bel l i k = false) : underTo l i (k + 1) = underTo l i k := by
  unfold underTo
  rw [List.range_succ, List.filter_append, List.filterMap_append]
  simp [he]
theorem underTo_len (l : List Acc) (i k : Nat) : (underTo l i k).length ≤ k := by
  unfold underTo
  refine Nat.le_trans (List.length_filterMap_le _ _) (Nat.le_trans (List.length_filter_le _ _) ?_)
  simp

end Go.Proofs.YthmjkhlndphldaaGreatDoor
