/- package dayref1: Ref, Cur, Entity, Period, Amount: what each returns. -/
import Derived.Test.YtjojjicpdfmopaaGreatDoorRefA
import Derived.Test.YtjojjicpdfmopaaGreatDoorEntD
import Derived.Test.YtjojjicpdfmopaaGreatDoorRefC
namespace Go.Proofs.YtjojjicpdfmopaaGreatDoor
open Go Go.RowKit
set_option linter.unusedVariables false

theorem ref_byte (b : UInt8) : refSet.data.toList.contains b = decide (b.toNat = 45 ∨ (48 ≤ b.toNat ∧ b.toNat ≤ 57) ∨ (97 ≤ b.toNat ∧ b.toNat ≤ 122)) := by
  have := all_bytes (p := fun b => refSet.data.toList.contains b == decide (b.toNat = 45 ∨ (48 ≤ b.toNat ∧ b.toNat ≤ 57) ∨ (97 ≤ b.toNat ∧ b.toNat ≤ 122))) (by decide +kernel) b
  simpa using this
theorem upper_byte (b : UInt8) : uppers.data.toList.contains b = decide (65 ≤ b.toNat ∧ b.toNat ≤ 90) := by
  have := all_bytes (p := fun b => uppers.data.toList.contains b == decide (65 ≤ b.toNat ∧ b.toNat ≤ 90)) (by decide +kernel) b
  simpa using this

theorem refCur_any (s : ByteArray) (w : World) (hs : s.size ≤ 9223372036854775807) :
    Calls Tryz.prog 6 #[.string s] w fun e w' => e = .returned (.bool (curB s)) ∧ w = w' := by
  by_cases h1 : (s.size : Int) = 3
  · have hf : curB s = allIn s uppers := by simp only [curB, h1, decide_true, Bool.true_and]
    have h1' : ((s.size : Int) != 3) = false := by rw [bne_eq_false_iff_eq]; exact h1
    have h1n : s.size = 3 := by omega
    have H1 := hide h1n
    rw [hf]; clear hf h1 h1n
    go_enter Tryz.func6, Tryz.ntmps6
    go_wp2_with fail
    go_loop [3] (fun i => ∃ k : Nat, k ≤ 3 ∧ i = .int .i64 k ∧ InTo s uppers k) (fun i => 3 - (intOf i).toNat)
    case atStart => exact ⟨0, by omega, rfl, InTo.zero _ _⟩
    case round =>
      obtain ⟨k, hk, rfl, hin⟩ := hrel
      by_cases hlt : k < 3
      · have hks : k < s.size := by have := H1.out; omega
        have HB := hide (upper_byte s[k])
        have k0 : (0 : Int) ≤ (k : Int) := by omega
        have k1 : (k : Int) < (s.size : Int) := by omega
        by_cases h2 : (s[k].toNat : Int) < 65
        · have HX := hide (InTo.not (cs := uppers) hks (by rw [HB.out]; simp; omega)).symm
          go_wp2_with fail
          go_ret
          exact ⟨ret_bool HX.out, rfl⟩
        · have h2d : decide ((s[k].toNat : Int) < 65) = false := by simpa using h2
          by_cases h3 : (90 : Int) < (s[k].toNat : Int)
          · have HX := hide (InTo.not (cs := uppers) hks (by rw [HB.out]; simp; omega)).symm
            go_wp2_with fail
            go_ret
            exact ⟨ret_bool HX.out, rfl⟩
          · have HX := hide (hin.succ hks (by rw [HB.out]; simp; omega))
            go_wp2_with fail
            go_round
            case rel => exact ⟨k + 1, by omega, by go_num, HX.out⟩
            case measure => simp [intOf]; omega
      · go_wp2_with fail
        go_ret
        exact ⟨ret_bool (hin.all (by have := H1.out; omega)).symm, rfl⟩
  · have hf : curB s = false := by simp [curB, h1]
    have h1' : ((s.size : Int) != 3) = true := by simpa using h1
    rw [hf]; clear hf h1
    go_enter Tryz.func6, Tryz.ntmps6
    go_wp2_with fail
    go_ret
    exact ⟨rfl, rfl⟩

end Go.Proofs.YtjojjicpdfmopaaGreatDoor
