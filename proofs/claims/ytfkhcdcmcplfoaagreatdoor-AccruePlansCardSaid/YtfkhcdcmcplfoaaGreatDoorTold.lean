/- plain.Told and daysame.Error. -/
import Derived.Test.YtfkhcdcmcplfoaaGreatDoorErr
namespace Go.Proofs.YtfkhcdcmcplfoaaGreatDoor
open Go Go.RowKit
set_option linter.unusedVariables false

theorem ErrTy.below {w w' : World} (h : ErrTy w) (hb : Below w.heap.size w w') : ErrTy w' := below_cell hb (World.block_lt_of_cell? _ _ h) h

theorem told_nil (w : World) : Calls Tryz.prog 14 #[.nilIface] w fun e w' => e = .returned (.int .i64 0) ∧ Below w.heap.size w w' := by
  go_enter Tryz.func14, Tryz.ntmps14
  go_wp2_with fail
  go_ret
  exact ⟨rfl, Below.refl _ _⟩

theorem told_some (n : Int) (w : World) (hg : ErrTy w) : Calls Tryz.prog 14 #[.iface 43 (.int .i64 n)] w fun e w' => e = .returned (.int .i64 n) ∧ Below w.heap.size w w' := by
  go_enter Tryz.func14, Tryz.ntmps14
  go_wp2_with fail
  refine (as_hit _ n (.int .i64 0) _ (hg.below ((Below.refl _ _).alloc (Nat.le_refl _) _)) (by simp) (by simp)).mono ?_
  rintro ev w' ⟨rfl, w1, hb1, rfl⟩
  have hc : w1.cell? ⟨w.heap.size, 0, none⟩ = some (.int .i64 0) := below_cell hb1 (by simp) (by simp)
  have hc2 := World.cell?_setCell_same w1 ⟨w.heap.size, 0, none⟩ (.int .i64 n) hc
  go_wp2_with fail
  go_ret
  exact ⟨rfl, (bof_alloc hb1).setCell (Nat.le_refl _) _⟩

theorem error_any (n e : Int) (w : World) (hg : ErrTy w) (h0 : 0 ≤ n) (h1 : n ≤ 12) : Calls Tryz.prog 4 #[errV n, .int .i64 e] w fun ev w' => ev = .returned (.bool (n == e)) ∧ Below w.heap.size w w' := by
  by_cases hn : n = 0
  · subst hn
    rw [show errV 0 = .nilIface from rfl]
    go_enter Tryz.func4, Tryz.ntmps4
    go_wp2_with fail
    refine (told_nil _).mono ?_
    rintro ev w1 ⟨rfl, hb1⟩
    go_wp2_with fail
    go_ret
    exact ⟨rfl, hb1⟩
  · rw [show errV n = .iface 43 (.int .i64 n) from by rw [errV, if_neg hn]]
    go_enter Tryz.func4, Tryz.ntmps4
    go_wp2_with fail
    refine (told_some n _ hg).mono ?_
    rintro ev w1 ⟨rfl, hb1⟩
    go_wp2_with fail
    go_ret
    exact ⟨rfl, hb1⟩
end Go.Proofs.YtfkhcdcmcplfoaaGreatDoor
