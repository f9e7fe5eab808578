/- maxPow at 10; divisors of a short number: none. -/
import Derived.Test.YtjojjicpdfmopaaGreatDoorStrA
namespace Go.Proofs.YtjojjicpdfmopaaGreatDoor
open Go Go.RowKit
set_option linter.unusedVariables false

theorem pow_tab : ∀ k : Fin 18, 10 ^ (k.val + 1) ≤ 1844674407370955161 ∧ 10 ^ (k.val + 1) * 10 < 18446744073709551616 := by decide +kernel
set_option maxHeartbeats 1000000 in
set_option maxRecDepth 100000 in
theorem maxPow_ten (w : World) : Calls Tryz.prog 109 #[.int .u64 10] w fun e w' => e = .returned (.tuple #[.int .u64 10000000000000000000, .int .i64 19]) ∧ w' = w := by
  have hm : (18446744073709551615 : Int).tdiv 10 = 1844674407370955161 := by decide
  have hz : ((10 : Int) == 0) = false := by decide
  go_enter Tryz.func109, Tryz.ntmps109
  go_wp2_with fail
  go_loopw [2, 3] (fun pv nv wr => w = wr ∧ ∃ (k p : Nat), k ≤ 18 ∧ nv = .int .i64 ((k : Int) + 1) ∧ pv = .int .u64 (p : Int) ∧ Hid (p = 10 ^ (k + 1))) (fun _ nv _ => 20 - (intOf nv).toNat)
  case atStart => exact ⟨rfl, 0, 10, by omega, rfl, rfl, hide rfl⟩
  case round =>
    obtain ⟨rfl, k, p, hk, rfl, rfl, hp⟩ := hrel
    by_cases h18 : k = 18
    · subst h18
      have hp' : p = 10000000000000000000 := hp.out
      subst hp'
      go_wp2_with fail
      go_ret2
      exact ⟨rfl, rfl⟩
    · obtain ⟨h1, h2⟩ := pow_tab ⟨k, by omega⟩
      simp only at h1 h2
      rw [← hp.out] at h1 h2
      have hn : Hid (p * 10 = 10 ^ (k + 1 + 1)) := hide (by rw [hp.out, ← Nat.pow_succ])
      have c1 : (p : Int) ≤ 1844674407370955161 := by omega
      have c2 : IntKind.u64.wrap ((p : Int) * 10) = ((p * 10 : Nat) : Int) := by rw [IntKind.wrap_u64]; omega
      have c3 : IntKind.i64.wrap ((k : Int) + 1 + 1) = ((k + 1 : Nat) : Int) + 1 := by simp [IntKind.wrap, IntKind.bits, IntKind.signed]; omega
      clear h1 h2
      go_wp2_with fail
      go_roundw
      case rel => exact ⟨trivial, k + 1, p * 10, by omega, by simp, by simp, hn⟩
      case measure => simp [intOf]; omega
set_option maxHeartbeats 1000000 in
set_option maxRecDepth 100000 in
/-- a number of eight words at most wants no table -/
theorem divisors_none (S : Value) (m : Nat) (n : Int) (bb : Int) (w : World) (hm : m ≤ 8) (hl : w.cell? ⟨2, 0, none⟩ = some (.int .i64 8)) :
    Calls Tryz.prog 110 #[S, .int .i64 (m : Int), .int .u64 10, .int .i64 n, .int .u64 bb] w fun e w' => e = .returned (.slice none 0 0) ∧ ∃ n, w' = w.drewN n := by
  have hc : (m : Int) ≤ 8 := by omega
  go_enter Tryz.func110, Tryz.ntmps110
  go_wp2_with fail
  go_ret
  exact ⟨rfl, 0, rfl⟩
end Go.Proofs.YtjojjicpdfmopaaGreatDoor
