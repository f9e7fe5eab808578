/- math.Log2 at 10, maxPow at 10: how many places a number has. -/
import Derived.Test.YtjojjicpdfmopaaGreatDoorStrP
import Derived.Test.YtjojjicpdfmopaaGreatDoorOwn
import Derived.WalkLawsBesides
namespace Go.Proofs.YtjojjicpdfmopaaGreatDoor
open Go Go.RowKit
set_option linter.unusedVariables false

theorem archLog_run (W : World) : (callFunc 166 #[.float .f64 4603804719079489536]).run Tryz.prog W = .ok (.value (.float .f64 13825510489450817230)) W := by
  rw [run_callFunc_extern Tryz.func166 (by kernel_rfl) (by kernel_rfl) (by kernel_rfl) (show Extern.find Tryz.f166 = some Extern.MathLog.archLog by kernel_rfl)]
  kernel_rfl
set_option maxRecDepth 100000 in
theorem log_any (w : World) : Calls Tryz.prog 144 #[.float .f64 4603804719079489536] w fun e w' => e = .returned (.float .f64 13825510489450817230) ∧ w' = w := by
  have h := archLog_run
  go_enter Tryz.func144, Tryz.ntmps144
  go_wp2_with fail
  go_ret
  exact ⟨rfl, rfl⟩
theorem fbits_run (x : Nat) (W : World) : (callFunc 208 #[.float .f64 x]).run Tryz.prog W = .ok (.value (.int .u64 (x : Int))) W := by
  rw [run_callFunc_extern Tryz.func208 (by kernel_rfl) (by kernel_rfl) (by kernel_rfl) (show Extern.find Tryz.f208 = some _ by rfl)]
  rfl
theorem fof_run (x : Nat) (W : World) : (callFunc 209 #[.int .u64 (x : Int)]).run Tryz.prog W = .ok (.value (.float .f64 x)) W := by
  rw [run_callFunc_extern Tryz.func209 (by kernel_rfl) (by kernel_rfl) (by kernel_rfl) (show Extern.find Tryz.f209 = some _ by rfl)]
  rfl
set_option maxRecDepth 100000 in
theorem abs_ten (w : World) : Calls Tryz.prog 247 #[.float .f64 4621819117588971520] w fun e w' => e = .returned (.float .f64 4621819117588971520) ∧ w' = w := by
  have h1 := fun W => fbits_run 4621819117588971520 W
  have h2 := fun W => fof_run 4621819117588971520 W
  simp only [show ((4621819117588971520 : Nat) : Int) = 4621819117588971520 by rfl] at h1 h2
  have h3 : bits BinOp.andNot IntKind.u64 4621819117588971520 9223372036854775808 = 4621819117588971520 := by kernel_rfl
  go_enter Tryz.func247, Tryz.ntmps247
  go_wp2_with fail
  go_ret
  exact ⟨rfl, rfl⟩
set_option maxRecDepth 100000 in
theorem isInf_ten (w : World) : Calls Tryz.prog 205 #[.float .f64 4621819117588971520, .int .i64 0] w fun e w' => e = .returned (.bool false) ∧ w' = w := by
  go_enter Tryz.func205, Tryz.ntmps205
  go_wp2_with fail
  refine (abs_ten _).mono ?_
  rintro e w1 ⟨rfl, rfl⟩
  go_wp2_with fail
  go_ret
  exact ⟨rfl, rfl⟩
set_option maxRecDepth 100000 in
theorem isNaN_ten (w : World) : Calls Tryz.prog 206 #[.float .f64 4621819117588971520] w fun e w' => e = .returned (.bool false) ∧ w' = w := by
  go_enter Tryz.func206, Tryz.ntmps206
  go_wp2_with fail
  go_ret
  exact ⟨rfl, rfl⟩
set_option maxRecDepth 100000 in
theorem normalize_ten (w : World) : Calls Tryz.prog 207 #[.float .f64 4621819117588971520] w fun e w' => e = .returned (.tuple #[.float .f64 4621819117588971520, .int .i64 0]) ∧ w' = w := by
  go_enter Tryz.func207, Tryz.ntmps207
  go_wp2_with fail
  refine (abs_ten _).mono ?_
  rintro e w1 ⟨rfl, rfl⟩
  go_wp2_with fail
  go_ret2
  exact ⟨rfl, rfl⟩
set_option maxRecDepth 100000 in
theorem frexp_ten (w : World) : Calls Tryz.prog 165 #[.float .f64 4621819117588971520] w fun e w' => e = .returned (.tuple #[.float .f64 4603804719079489536, .int .i64 4]) ∧ w' = w := by
  have h1 := fun W => fbits_run 4621819117588971520 W
  have h2 := fun W => fof_run 4603804719079489536 W
  simp only [show ((4621819117588971520 : Nat) : Int) = 4621819117588971520 by rfl, show ((4603804719079489536 : Nat) : Int) = 4603804719079489536 by rfl] at h1 h2
  have b1 : bits BinOp.and IntKind.u64 1026 2047 = 1026 := by kernel_rfl
  have b2 : bits BinOp.andNot IntKind.u64 4621819117588971520 9218868437227405312 = 1125899906842624 := by kernel_rfl
  have b3 : bits BinOp.or IntKind.u64 1125899906842624 4602678819172646912 = 4603804719079489536 := by kernel_rfl
  go_enter Tryz.func165, Tryz.ntmps165
  go_wp2_with fail
  refine (isInf_ten _).mono ?_
  rintro e w1 ⟨rfl, rfl⟩
  go_wp2_with fail
  refine (isNaN_ten _).mono ?_
  rintro e w1 ⟨rfl, rfl⟩
  go_wp2_with fail
  refine (normalize_ten _).mono ?_
  rintro e w1 ⟨rfl, rfl⟩
  go_wp2_with fail
  go_ret2
  exact ⟨rfl, rfl⟩
set_option maxRecDepth 100000 in
theorem frexpU_ten (w : World) : Calls Tryz.prog 143 #[.float .f64 4621819117588971520] w fun e w' => e = .returned (.tuple #[.float .f64 4603804719079489536, .int .i64 4]) ∧ w' = w := by
  go_enter Tryz.func143, Tryz.ntmps143
  go_wp2_with fail
  refine (frexp_ten _).mono ?_
  rintro e w1 ⟨rfl, rfl⟩
  go_wp2_with fail
  go_ret2
  exact ⟨rfl, rfl⟩
set_option maxRecDepth 100000 in
theorem log2_ten (w : World) : Calls Tryz.prog 126 #[.float .f64 4621819117588971520] w fun e w' => e = .returned (.float .f64 4614662735865160561) ∧ w' = w := by
  have f1 : floatOfInt .f64 4 = 4616189618054758400 := by kernel_rfl
  have f2 : floatBits .mul .f64 13825510489450817230 4609176140021203710 = some 13827654785158443579 := by kernel_rfl
  have f3 : floatBits .add .f64 13827654785158443579 4616189618054758400 = some 4614662735865160561 := by kernel_rfl
  have g2 := fun W : World => run_float_arith (P := Tryz.prog) W .mul 139 .f64 _ _ _ f2
  have g3 := fun W : World => run_float_arith (P := Tryz.prog) W .add 139 .f64 _ _ _ f3
  clear f2 f3
  go_enter Tryz.func126, Tryz.ntmps126
  go_wp2_with fail
  refine (frexpU_ten _).mono ?_
  rintro e w1 ⟨rfl, rfl⟩
  go_wp2_with fail
  refine (log_any _).mono ?_
  rintro e w1 ⟨rfl, rfl⟩
  go_wp2_with fail
  go_ret
  exact ⟨rfl, rfl⟩
set_option maxRecDepth 100000 in
theorem log2U_ten (w : World) : Calls Tryz.prog 105 #[.float .f64 4621819117588971520] w fun e w' => e = .returned (.float .f64 4614662735865160561) ∧ w' = w := by
  go_enter Tryz.func105, Tryz.ntmps105
  go_wp2_with fail
  refine (log2_ten _).mono ?_
  rintro e w1 ⟨rfl, rfl⟩
  go_wp2_with fail
  go_ret
  exact ⟨rfl, rfl⟩
end Go.Proofs.YtjojjicpdfmopaaGreatDoor
