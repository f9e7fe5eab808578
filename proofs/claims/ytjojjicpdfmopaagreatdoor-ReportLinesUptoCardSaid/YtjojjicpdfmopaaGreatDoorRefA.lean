/- package dayref1: digits, Account, Chart: what each returns. -/
import Derived.Test.YtjojjicpdfmopaaGreatDoorChartP
namespace Go.Proofs.YtjojjicpdfmopaaGreatDoor
open Go Go.RowKit
set_option linter.unusedVariables false

theorem all_bytes {p : UInt8 → Bool} (h : ∀ n, n < 256 → p (UInt8.ofNat n) = true) (b : UInt8) : p b = true := by
  have := h b.toNat (UInt8.toNat_lt b)
  rwa [UInt8.ofNat_toNat] at this
theorem decs_byte (b : UInt8) : decs.data.toList.contains b = decide (48 ≤ b.toNat ∧ b.toNat ≤ 57) := by
  have := all_bytes (p := fun b => decs.data.toList.contains b == decide (48 ≤ b.toNat ∧ b.toNat ≤ 57)) (by decide +kernel) b
  simpa using this
theorem name_byte (b : UInt8) : nameSet.data.toList.contains b = decide (b.toNat = 45 ∨ (48 ≤ b.toNat ∧ b.toNat ≤ 57) ∨ (65 ≤ b.toNat ∧ b.toNat ≤ 90) ∨ (97 ≤ b.toNat ∧ b.toNat ≤ 122)) := by
  have := all_bytes (p := fun b => nameSet.data.toList.contains b == decide (b.toNat = 45 ∨ (48 ≤ b.toNat ∧ b.toNat ≤ 57) ∨ (65 ≤ b.toNat ∧ b.toNat ≤ 90) ∨ (97 ≤ b.toNat ∧ b.toNat ≤ 122))) (by decide +kernel) b
  simpa using this

/-- each byte ahead of k is one of cs -/
def InTo (s cs : ByteArray) (k : Nat) : Prop := ∀ (j : Nat) (h : j < s.size), j < k → cs.data.toList.contains s[j] = true
theorem InTo.zero (s cs : ByteArray) : InTo s cs 0 := fun _ _ h => absurd h (by omega)
theorem InTo.succ {s cs : ByteArray} {k : Nat} (h : InTo s cs k) (hk : k < s.size) (hc : cs.data.toList.contains s[k] = true) : InTo s cs (k + 1) := by
  intro j hj hjk
  by_cases e : j = k
  · subst e; exact hc
  · exact h j hj (by omega)
theorem InTo.all {s cs : ByteArray} {k : Nat} (h : InTo s cs k) (hk : s.size ≤ k) : allIn s cs = true := by
  unfold allIn
  rw [List.all_eq_true]
  intro x hx
  obtain ⟨j, hj, rfl⟩ := List.getElem_of_mem hx
  have hj' : j < s.size := by simpa using hj
  exact h j hj' (by omega)
theorem InTo.not {s cs : ByteArray} {k : Nat} (hk : k < s.size) (hc : cs.data.toList.contains s[k] = false) : allIn s cs = false := by
  unfold allIn
  rw [List.all_eq_false]
  refine ⟨s[k], ?_, by rw [hc]; decide⟩
  exact List.getElem_mem (l := s.data.toList) (n := k) (by simpa using hk)

end Go.Proofs.YtjojjicpdfmopaaGreatDoor
