/- package dayref1: digits, Account, Chart: what each returns. -/
import Derived.Test.YtfkhcdcmcplfoaaGreatDoorChartP
namespace Go.Proofs.YtfkhcdcmcplfoaaGreatDoor
open Go Go.RowKit
set_option linter.unusedVariables false

theorem all_bytes {p : UInt8 → Bool} (h : ∀ n, n < 256 → p (UInt8.ofNat n) = true) (b : UInt8) : p b = true := by
  have := h b.toNat (UInt8.toNat_lt b)
  rwa [UInt8.ofNat_toNat] at this
theorem decs_byte (b : UInt8) : decs.data.toList.contains b = decide (48 ≤ b.toNat ∧ b.toNat ≤ 57) := by
  have := all_bytes (p := fun b => decs.data.toList.contains b == decide (48 ≤ b.toNat ∧ b.toNat ≤ 57)) (by decide +kernel) b
  simpa using this
theorem name_byte (b : UInt8) : nameSet.data.toList.contains b = decide (b.toNat = 45 ∨ (48 ≤ b.toNat ∧ b.toNat ≤ 57) ∨ (65 ≤ b.toNat ∧ b.toNat ≤ 90) ∨ (97 ≤ b.toNat ∧ b.toNat ≤ 122)) := by
  have := all_bytes (p := fun b => nameSet.data.toList.contains b == decide (b.toNat = 45 ∨ (48 ≤ b.toNat ∧ b.toNat ≤ 57) ∨ (65 ≤ b.toNat ∧ b.toNat ≤ 90) ∨ (97 ≤ b.toNat ∧ b.toNat ≤ 122))) (by decide +kernel) b
  simpa using this

/-- each byte ahead of k is one of cs -/
def InTo (s cs : ByteArray) (k : Nat) : Prop := ∀ (j : Nat) (h : j < s.size), j < k → cs.data.toList.contains s[j] = true
theorem InTo.zero (s cs : ByteArray) : InTo s cs 0 := fun _ _ h => absurd h (by omega)
theorem InTo.succ {s cs : ByteArray} {k : Nat} (h : InTo s cs k) (hk : k < s.size) (hc : cs.data.toList.contains s[k] = true) : InTo s cs (k + 1) := by
  intro j hj hjk
  by_cases e : j = k
  · subst e; exact hc
  · exact h j hj (by omega)
theorem InTo.all {s cs : ByteArray} {k : Nat} (h : InTo s cs k) (hk : s.size ≤ k) : allIn s cs = true := by
  unfold allIn
  rw [List.all_eq_true]
  intro x hx
  obtain ⟨j, hj, rfl⟩ := List.getElem_of_mem hx
  have hj' : j < s.size := by simpa using hj
  exact h j hj' (by omega)
theorem InTo.not {s cs : ByteArray} {k : Nat} (hk : k < s.size) (hc : cs.data.toList.contains s[k] = false) : allIn s cs = false := by
  unfold allIn
  rw [List.all_eq_false]
  refine ⟨s[k], ?_, by rw [hc]; decide⟩
  exact List.getElem_mem (l := s.data.toList) (n := k) (by simpa using hk)

theorem refDigits_any (s : ByteArray) (most : Int) (w : World) (hs : s.size ≤ 9223372036854775807) :
    Calls Tryz.prog 73 #[.string s, .int .i64 most] w fun e w' => e = .returned (.bool (digitsB s most)) ∧ w = w' := by
  by_cases h0 : s.toList.isEmpty = true
  · have hf : digitsB s most = false := by simp [digitsB, h0]
    rw [hf]; clear hf
    go_enter Tryz.func73, Tryz.ntmps73
    go_wp2_with fail
    go_ret
    exact ⟨rfl, rfl⟩
  · have h0' : s.toList.isEmpty = false := by simpa using h0
    clear h0
    by_cases h1 : (s.size : Int) ≤ most
    · have hf : digitsB s most = allIn s decs := by simp [digitsB, h0', h1]
      rw [hf]; clear hf
      go_enter Tryz.func73, Tryz.ntmps73
      go_wp2_with fail
      go_loop [5] (fun i => ∃ k : Nat, k ≤ s.size ∧ i = .int .i64 k ∧ InTo s decs k) (fun i => s.size - (intOf i).toNat)
      case atStart => exact ⟨0, by omega, rfl, InTo.zero _ _⟩
      case round =>
        obtain ⟨k, hk, rfl, hin⟩ := hrel
        by_cases hlt : k < s.size
        · have hb := decs_byte s[k]
          have HB := hide hb
          clear hb
          go_wp2_with fail
          · go_ret
            exact ⟨ret_bool (InTo.not hlt (by rw [HB.out]; simp; omega)).symm, rfl⟩
          · go_round
            case rel => exact ⟨k + 1, by omega, by go_num, hin.succ hlt (by rw [HB.out]; simp; omega)⟩
            case measure => simp [intOf]; omega
          · go_ret
            exact ⟨ret_bool (InTo.not hlt (by rw [HB.out]; simp; omega)).symm, rfl⟩
        · go_wp2_with fail
          go_ret
          exact ⟨ret_bool (hin.all (by omega)).symm, rfl⟩
    · have h1' : most < (s.size : Int) := by omega
      have hf : digitsB s most = false := by simp [digitsB, h1]
      rw [hf]; clear hf h1
      go_enter Tryz.func73, Tryz.ntmps73
      go_wp2_with fail
      go_ret
      exact ⟨rfl, rfl⟩
end Go.Proofs.YtfkhcdcmcplfoaaGreatDoor
