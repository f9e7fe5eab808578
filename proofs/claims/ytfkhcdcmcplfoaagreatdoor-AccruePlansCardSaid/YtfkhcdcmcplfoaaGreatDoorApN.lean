/- dayref2: When, PlanNumbers: what they return. -/
import Derived.Test.YtfkhcdcmcplfoaaGreatDoorAcrC
import Derived.Test.YtfkhcdcmcplfoaaGreatDoorRefX
namespace Go.Proofs.YtfkhcdcmcplfoaaGreatDoor
open Go Go.RowKit
set_option linter.unusedVariables false

theorem refWhen_any (ent per : Int) (w : World) : Calls Tryz.prog 21 #[.int .i64 ent, .int .i64 per] w fun e w' => e = .returned (.int .i64 (atEA ent per)) ∧ w = w' := by
  cases h1 : inB 1 12 ent <;> cases h2 : inB 1 120 per
  all_goals
    have H1 := hide h1
    have H2 := hide h2
    clear h1 h2
    go_enter Tryz.func21, Tryz.ntmps21
    go_wp2_with fail
    refine (refEntity_any _ _).mono ?_
    rintro e w1 ⟨rfl, rfl⟩
    rw [H1.out]
    go_wp2_with fail
    refine (refPeriod_any _ _).mono ?_
    rintro e w1 ⟨rfl, rfl⟩
    rw [H2.out]
    go_wp2_with fail
    go_ret
    exact ⟨by unfold atEA; rw [H1.out, H2.out]; rfl, rfl⟩

set_option maxRecDepth 100000 in
theorem refNums_any (x : Pln) (w : World) : Calls Tryz.prog 10 #[.agg #[.string x.ref, .int .i64 x.ent, .string x.fr, .string x.to, .string x.cur, .int .i64 x.amt, .int .i64 x.first, .int .i64 x.per]] w fun e w' => e = .returned (.int .i64 (numE x)) ∧ Below w.heap.size w w' := by
  have hb : Below w.heap.size w (w.alloc (.cells #[.string x.ref, .int .i64 x.ent, .string x.fr, .string x.to, .string x.cur, .int .i64 x.amt, .int .i64 x.first, .int .i64 x.per] 37)) := (Below.refl _ _).alloc (Nat.le_refl _) _
  cases h2 : inB (-1000000000000000) 1000000000000000 x.amt <;> cases h3 : inB 1 120 x.per <;> cases h4 : inB 1 120 x.first <;> cases h1 : (x.amt == 0)
  all_goals
    have H1 := hide h1
    have H2 := hide h2
    have H3 := hide h3
    have H4 := hide h4
    clear h2 h3 h4
    go_enter Tryz.func10, Tryz.ntmps10
    go_wp2_with fail
    refine (refAmount_any _ _).mono ?_
    rintro e w1 ⟨rfl, rfl⟩
    rw [H2.out]
    go_wp2_with fail
    refine (refPeriod_any _ _).mono ?_
    rintro e w1 ⟨rfl, rfl⟩
    rw [H4.out]
    go_wp2_with fail
    refine (refPeriod_any _ _).mono ?_
    rintro e w1 ⟨rfl, rfl⟩
    rw [H3.out]
    go_wp2_with fail
    go_ret
    refine ⟨?_, hb⟩
    first
      | (rw [numE, if_pos (by simpa using H1.out)]; rfl)
      | (rw [numE, if_neg (by simpa using H1.out)]; unfold amtB perB; rw [H2.out, H3.out, H4.out]; rfl)

end Go.Proofs.YtfkhcdcmcplfoaaGreatDoor
