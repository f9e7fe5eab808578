/- Great numbers: the product of two words. -/
import Derived.Test.YtkeapacfmeblgaaGreatDoorBigI
import Derived.Test.YtkeapacfmeblgaaGreatDoorShelf
namespace Go.Proofs.YtkeapacfmeblgaaGreatDoor
open Go Go.RowKit
set_option linter.unusedVariables false

theorem bits_mul (x y : Nat) (hx : x < W64) (hy : y < W64) (w : World) :
    Calls Tryz.prog 115 #[.int .u64 (x : Int), .int .u64 (y : Int)] w fun e w' => e = .returned (.tuple #[.int .u64 ((x * y / W64 : Nat) : Int), .int .u64 ((x * y % W64 : Nat) : Int)]) ∧ w' = w :=
  Any.bits_Mul (P := Tryz.prog) (ρ := Tryz.lays212_ren) Tryz.lays212 x y hx hy w

theorem mulAddVWW_enters (args : Array Value) (w : World) : (callFunc 124 args).run Tryz.prog w = .ok (.enter 36 args) w :=
  run_callFunc_twin (twin := Tryz.f36.name) Tryz.func124 (by kernel_rfl) (by kernel_rfl) (by kernel_rfl) (by kernel_rfl) Tryz.func36 (by kernel_rfl) (by kernel_rfl) (by kernel_rfl) args w

theorem mul_lt {x y : Nat} (hx : x < W64) (hy : y < W64) : x * y < W64 * W64 := by
  have h1 : x * y ≤ (W64 - 1) * (W64 - 1) := Nat.mul_le_mul (by omega) (by omega)
  exact Nat.lt_of_le_of_lt h1 (by decide)
theorem mul_hi_lt {x y : Nat} (hx : x < W64) (hy : y < W64) : x * y / W64 < W64 := Nat.div_lt_of_lt_mul (mul_lt hx hy)

theorem mulAddWWW0 (x y hi lo : Nat) (hx : x < W64) (hy : y < W64) (hhi : x * y / W64 = hi) (hlo : x * y % W64 = lo) (w : World) :
    Calls Tryz.prog 117 #[.int .u64 (x : Int), .int .u64 (y : Int), .int .u64 0] w
      fun e w' => e = .returned (.tuple #[.int .u64 (hi : Int), .int .u64 (lo : Int)]) ∧ ∃ n, w' = w.drewN n := by
  have h1 : hi < 18446744073709551616 := by rw [← hhi]; exact mul_hi_lt hx hy
  have h2 : lo < W64 := by rw [← hlo]; exact Nat.mod_lt _ (by decide)
  have hb := bits_mul x y hx hy
  rw [hhi, hlo] at hb
  have hb2 := bitsAdd_any lo 0 0 lo 0 h2 (by decide) (by omega) (Nat.mod_eq_of_lt h2) (Nat.div_eq_of_lt h2)
  clear hhi hlo hx hy
  go_enter Tryz.func117, Tryz.ntmps117
  go_wp2_with fail
  refine (hb _).mono ?_
  rintro e w1 ⟨rfl, rfl⟩
  go_wp2_with fail
  refine (hb2 _).mono ?_
  rintro e w2 ⟨rfl, n, rfl⟩
  go_wp2_with fail
  go_ret2
  exact ⟨by simp, n, rfl⟩

/-- one word by a word: the low word is stored, the high one handed back -/
theorem mulAddVWW1 (zb zo zc xb xo xc : Nat) (u : Value) (x y hi lo : Nat) (hx : x < W64) (hy : y < W64) (hhi : x * y / W64 = hi) (hlo : x * y % W64 = lo) (w : World)
    (hz : w.cell? ⟨zb, zo, none⟩ = some u) (hu : u.oneCell' = true) (hf : w.frozen? ⟨zb, zo, none⟩ = false) (hcx : w.cell? ⟨xb, xo, none⟩ = some (.int .u64 (x : Int))) :
    Calls Tryz.prog 36 #[.slice (some ⟨zb, zo, none⟩) 1 zc, .slice (some ⟨xb, xo, none⟩) 1 xc, .int .u64 (y : Int), .int .u64 0] w
      fun e w' => e = .returned (.int .u64 (hi : Int)) ∧ ∃ n, w' = (w.drewN n).setCell ⟨zb, zo, none⟩ (.int .u64 (lo : Int)) := by
  go_enter Tryz.func36, Tryz.ntmps36
  go_wp2_with fail
  go_loopw [8, 19] (fun cv iv wr => (iv = .int .i64 0 ∧ cv = .int .u64 0 ∧ wr = w) ∨ (iv = .int .i64 1 ∧ cv = .int .u64 (hi : Int) ∧ ∃ n, wr = (w.drewN n).setCell ⟨zb, zo, none⟩ (.int .u64 (lo : Int)))) (fun _ iv _ => 1 - (intOf iv).toNat)
  case atStart => exact .inl ⟨rfl, rfl, rfl⟩
  case round =>
    rcases hrel with ⟨rfl, rfl, rfl⟩ | ⟨rfl, rfl, n, rfl⟩
    · go_wp2_with fail
      refine (mulAddWWW0 x y hi lo hx hy hhi hlo _).mono ?_
      rintro e w1 ⟨rfl, n, rfl⟩
      have hz1 : (wr.drewN n).cell? ⟨zb, zo, none⟩ = some u := hz
      have hf1 : (wr.drewN n).frozen? ⟨zb, zo, none⟩ = false := hf
      clear hz hf hcx hx hy hhi hlo
      go_wp2_with fail
      go_roundw
      case rel => exact .inr ⟨by go_num, rfl, n, rfl⟩
      case measure => simp [intOf]
    · go_wp2_with fail
      go_ret
      exact ⟨rfl, n, rfl⟩
end Go.Proofs.YtkeapacfmeblgaaGreatDoor
