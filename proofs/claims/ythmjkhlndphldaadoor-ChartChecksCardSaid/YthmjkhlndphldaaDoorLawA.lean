/- ChartChecks: what was lacking of chart.Find. -/
import Derived.Test.YthmjkhlndphldaaDoorPrintB
import Derived.Test.YthmjkhlndphldaaDoorChartE
import Derived.Test.YthmjkhlndphldaaDoorRefD
import Derived.Test.YthmjkhlndphldaaDoorTold
namespace Go.Proofs.YthmjkhlndphldaaDoor
open Go Go.RowKit
set_option linter.unusedVariables false

def noAcc : Value := .agg #[.string ⟨#[]⟩, .string ⟨#[]⟩, .int .i64 0, .string ⟨#[]⟩, .bool false]
theorem find_bad (l : List Acc) (c : ByteArray) (A : Option Addr) (n cap : Nat) (w : World) (hl : n ≤ 9223372036854775807) (hcap : n ≤ cap) (ha : Accs w A n l) (hok : AccOk l) (he : chartE l ≠ 0) :
    Calls Tryd.prog 12 #[.slice A n cap, .string c] w fun e w' => e = .returned (.tuple #[noAcc, .iface 79 (.int .i64 (chartE l))]) ∧ Below w.heap.size w w' := by
  have HE := hide he
  clear he
  go_enter Tryd.func12, Tryd.ntmps12
  go_wp2_with (go_at_call 16; refine (check_bad l _ _ _ _ hl hcap (ha.alloc _) hok HE.out).mono ?_; rintro e w1 ⟨rfl, hb1⟩; have hc2 := (bcell hb1).1; have hf2 := (bcell hb1).2; have hz2 : w.heap.size < w1.heap.size := (by have := hb1.size; simp at this; omega))
  have hB := bof_alloc hb1
  refine bodyPost_ret (v := .tuple #[noAcc, .iface 79 (.int .i64 (chartE l))]) (by simp [results, noAcc, Tryd.results12, go_sem, hc2]) rfl ⟨rfl, ?_⟩
  first | exact hB | exact ((((hB.setCell (Nat.le_refl _) _).setCell (Nat.le_refl _) _).setCell (Nat.le_refl _) _).setCell (Nat.le_refl _) _).setCell (Nat.le_refl _) _
theorem find_none (l : List Acc) (c : ByteArray) (A : Option Addr) (n cap : Nat) (w : World) (hl : n ≤ 60) (hcap : n ≤ cap) (ha : Accs w A n l) (hok : AccOk l) (he : chartE l = 0) (hi : idxO l c = none) :
    Calls Tryd.prog 12 #[.slice A n cap, .string c] w fun e w' => e = .returned (.tuple #[noAcc, .iface 79 (.int .i64 6)]) ∧ Below w.heap.size w w' := by
  have HE := hide he
  have HI : Hid (idxI l c = -1) := by show idxI l c = -1; simp [idxI, hi]
  clear he hi
  go_enter Tryd.func12, Tryd.ntmps12
  go_wp2_with (first | (go_at_call 16; refine (check_ok l _ _ _ _ (by omega) hcap (ha.alloc _) hok HE.out).mono ?_; rintro e w1 ⟨rfl, hb1⟩) | (go_at_call 39; refine (index_at l c (-1) _ _ _ _ (by omega) ((ha.alloc _).below hb1) HI.out).mono ?_; rintro e w2 ⟨rfl, hb2⟩; have hb02 := bthen hb1 (Nat.le_refl _) hb2; have hc2 := (bcell hb02).1; have hf2 := (bcell hb02).2; have hz2 : w.heap.size < w2.heap.size := (by have := hb02.size; simp at this; omega)))
  have hB := bof_alloc hb02
  refine bodyPost_ret (v := .tuple #[noAcc, .iface 79 (.int .i64 6)]) (by simp [results, noAcc, Tryd.results12, go_sem, hc2]) rfl ⟨rfl, ?_⟩
  first | exact hB | exact ((((hB.setCell (Nat.le_refl _) _).setCell (Nat.le_refl _) _).setCell (Nat.le_refl _) _).setCell (Nat.le_refl _) _).setCell (Nat.le_refl _) _
end Go.Proofs.YthmjkhlndphldaaDoor
