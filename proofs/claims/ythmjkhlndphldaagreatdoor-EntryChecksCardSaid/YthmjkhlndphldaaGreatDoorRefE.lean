/- package dayref1: Ref, Cur, Entity, Period, Amount: what each returns. -/
import Derived.Test.YthmjkhlndphldaaGreatDoorEntD
import Derived.Test.YthmjkhlndphldaaGreatDoorRefC
namespace Go.Proofs.YthmjkhlndphldaaGreatDoor
open Go Go.RowKit
set_option linter.unusedVariables false

theorem ref_byte (b : UInt8) : refSet.data.toList.contains b = decide (b.toNat = 45 ∨ (48 ≤ b.toNat ∧ b.toNat ≤ 57) ∨ (97 ≤ b.toNat ∧ b.toNat ≤ 122)) := by
  have := all_bytes (p := fun b => refSet.data.toList.contains b == decide (b.toNat = 45 ∨ (48 ≤ b.toNat ∧ b.toNat ≤ 57) ∨ (97 ≤ b.toNat ∧ b.toNat ≤ 122))) (by decide +kernel) b
  simpa using this
theorem upper_byte (b : UInt8) : uppers.data.toList.contains b = decide (65 ≤ b.toNat ∧ b.toNat ≤ 90) := by
  have := all_bytes (p := fun b => uppers.data.toList.contains b == decide (65 ≤ b.toNat ∧ b.toNat ≤ 90)) (by decide +kernel) b
  simpa using this

theorem refCur_any (s : ByteArray) (w : World) (hs : s.size ≤ 9223372036854775807) :
    Calls Tryz.prog 63 #[.string s] w fun e w' => e = .returned (.bool (curB s)) ∧ w = w' := by
  by_cases h1 : (s.size : Int) = 3
  · have hf : curB s = allIn s uppers := by simp only [curB, h1, decide_true, Bool.true_and]
    have h1' : ((s.size : Int) != 3) = false := by rw [bne_eq_false_iff_eq]; exact h1
    have h1n : s.size = 3 := by omega
    have H1 := hide h1n
    rw [hf]; clear hf h1 h1n
    go_enter Tryz.func63, Tryz.ntmps63
    go_wp2_with fail
    go_loop [3] (fun i => ∃ k : Nat, k ≤ 3 ∧ i = .int .i64 k ∧ InTo s uppers k) (fun i => 3 - (intOf i).toNat)
    case atStart => exact ⟨0, by omega, rfl, InTo.zero _ _⟩
    case round =>
      obtain ⟨k, hk, rfl, hin⟩ := hrel
      by_cases hlt : k < 3
      · have hks : k < s.size := by have := H1.out; omega
        have HB := hide (upper_byte s[k])
        have k0 : (0 : Int) ≤ (k : Int) := by omega
        have k1 : (k : Int) < (s.size : Int) := by omega
        by_cases h2 : (s[k].toNat : Int) < 65
        · have HX := hide (InTo.not (cs := uppers) hks (by rw [HB.out]; simp; omega)).symm
          go_wp2_with fail
          go_ret
          exact ⟨ret_bool HX.out, rfl⟩
        · have h2d : decide ((s[k].toNat : Int) < 65) = false := by simpa using h2
          by_cases h3 : (90 : Int) < (s[k].toNat : Int)
          · have HX := hide (InTo.not (cs := uppers) hks (by rw [HB.out]; simp; omega)).symm
            go_wp2_with fail
            go_ret
            exact ⟨ret_bool HX.out, rfl⟩
          · have HX := hide (hin.succ hks (by rw [HB.out]; simp; omega))
            go_wp2_with fail
            go_round
            case rel => exact ⟨k + 1, by omega, by go_num, HX.out⟩
            case measure => simp [intOf]; omega
      · go_wp2_with fail
        go_ret
        exact ⟨ret_bool (hin.all (by have := H1.out; omega)).symm, rfl⟩
  · have hf : curB s = false := by simp [curB, h1]
    have h1' : ((s.size : Int) != 3) = true := by simpa using h1
    rw [hf]; clear hf h1
    go_enter Tryz.func63, Tryz.ntmps63
    go_wp2_with fail
    go_ret
    exact ⟨rfl, rfl⟩

theorem refRef_any (s : ByteArray) (w : World) (hs : s.size ≤ 9223372036854775807) :
    Calls Tryz.prog 59 #[.string s] w fun e w' => e = .returned (.bool (refB s)) ∧ w = w' := by
  cases h0 : s.toList.isEmpty with
  | true =>
    have hf : refB s = false := by simp [refB, h0]
    rw [hf]; clear hf
    go_enter Tryz.func59, Tryz.ntmps59
    go_wp2_with fail
    go_ret
    exact ⟨rfl, rfl⟩
  | false =>
    have hp : 0 < s.size := by
      rw [ByteArray.toList_eq] at h0
      rcases Nat.eq_zero_or_pos s.size with h | h
      · have : s.data.toList = [] := List.eq_nil_of_length_eq_zero (by simpa using h)
        rw [this] at h0; cases h0
      · exact h
    by_cases h1 : (s.size : Int) ≤ 12
    · have HD := hide (dash_get s hp)
      have h1n : ¬ (12 : Int) < (s.size : Int) := by omega
      have h1d : decide ((12 : Int) < (s.size : Int)) = false := by simpa using h1n
      cases h3 : dashB s with
      | true =>
        have hf : refB s = false := by simp [refB, h3]
        have hq : (s[0].toNat : Int) = 45 := by
          rw [HD.out, beq_iff_eq] at h3
          rw [h3]; rfl
        rw [hf]
        clear hf h3
        go_enter Tryz.func59, Tryz.ntmps59
        go_wp2_with fail
        go_ret
        exact ⟨rfl, rfl⟩
      | false =>
        have hq : ¬ (s[0].toNat : Int) = 45 := by
          rw [HD.out, beq_eq_false_iff_ne] at h3
          intro e
          exact h3 (UInt8.toNat_inj.1 (by have h45 : (45 : UInt8).toNat = 45 := rfl; omega))
        have hqb : ((s[0].toNat : Int) == 45) = false := by rw [beq_eq_false_iff_ne]; exact hq
        have hf : refB s = allIn s refSet := by simp [refB, h0, h1, h3]
        rw [hf]
        clear hf h3 HD
        go_enter Tryz.func59, Tryz.ntmps59
        go_wp2_with fail
        go_loop [3] (fun i => ∃ k : Nat, k ≤ s.size ∧ i = .int .i64 k ∧ InTo s refSet k) (fun i => s.size - (intOf i).toNat)
        case atStart => exact ⟨0, by omega, rfl, InTo.zero _ _⟩
        case round =>
          obtain ⟨k, hk, rfl, hin⟩ := hrel
          by_cases hlt : k < s.size
          · have HB := hide (ref_byte s[k])
            have k0 : (0 : Int) ≤ (k : Int) := by omega
            have k1 : (k : Int) < (s.size : Int) := by omega
            cases hc : refSet.data.toList.contains s[k] with
            | true =>
              have HX := hide (hin.succ hlt hc)
              rw [HB.out] at hc
              have hc' : s[k].toNat = 45 ∨ (48 ≤ s[k].toNat ∧ s[k].toNat ≤ 57) ∨ (97 ≤ s[k].toNat ∧ s[k].toNat ≤ 122) := by simpa using hc
              have HC := hide hc'
              clear hc hc' HB hin
              go_wp2_with fail
              all_goals first
                | (exfalso; have := HC.out; omega)
                | (go_round; (case rel => exact ⟨k + 1, by omega, by go_num, HX.out⟩); (case measure => simp [intOf]; omega))
                | (go_ret; exfalso; have := HC.out; omega)
            | false =>
              have HX := hide (InTo.not hlt hc).symm
              rw [HB.out] at hc
              have hc' : ¬ (s[k].toNat = 45 ∨ (48 ≤ s[k].toNat ∧ s[k].toNat ≤ 57) ∨ (97 ≤ s[k].toNat ∧ s[k].toNat ≤ 122)) := by simpa using hc
              have HC := hide hc'
              clear hc hc' HB hin
              go_wp2_with fail
              all_goals first
                | (exfalso; have := HC.out; omega)
                | (exfalso; have := HC.out; simp only [bne_iff_ne, bne_eq_false_iff_eq, ne_eq] at *; omega)
                | (go_ret; exact ⟨ret_bool HX.out, rfl⟩)
          · go_wp2_with fail
            go_ret
            exact ⟨ret_bool (hin.all (by omega)).symm, rfl⟩
    · have hf : refB s = false := by simp [refB, h1]
      rw [hf]
      have h1' : (12 : Int) < (s.size : Int) := by omega
      clear hf h1
      go_enter Tryz.func59, Tryz.ntmps59
      go_wp2_with fail
      go_ret
      exact ⟨rfl, rfl⟩

theorem refEntity_any (n : Int) (w : World) : Calls Tryz.prog 60 #[.int .i64 n] w fun e w' => e = .returned (.bool (inB 1 12 n)) ∧ w = w' := by
  unfold inB
  by_cases h1 : 1 ≤ n
  · go_enter Tryz.func60, Tryz.ntmps60
    go_wp2_with fail
    go_ret
    exact ⟨by simp [h1], rfl⟩
  · have h1' : n < 1 := by omega
    have h1d : decide (1 ≤ n) = false := by simpa using h1
    clear h1
    go_enter Tryz.func60, Tryz.ntmps60
    go_wp2_with fail
    go_ret
    exact ⟨by simp [h1d], rfl⟩
theorem refPeriod_any (n : Int) (w : World) : Calls Tryz.prog 61 #[.int .i64 n] w fun e w' => e = .returned (.bool (inB 1 120 n)) ∧ w = w' := by
  unfold inB
  by_cases h1 : 1 ≤ n
  · go_enter Tryz.func61, Tryz.ntmps61
    go_wp2_with fail
    go_ret
    exact ⟨by simp [h1], rfl⟩
  · have h1' : n < 1 := by omega
    have h1d : decide (1 ≤ n) = false := by simpa using h1
    clear h1
    go_enter Tryz.func61, Tryz.ntmps61
    go_wp2_with fail
    go_ret
    exact ⟨by simp [h1d], rfl⟩
theorem refAmount_any (n : Int) (w : World) : Calls Tryz.prog 64 #[.int .i64 n] w fun e w' => e = .returned (.bool (inB (-1000000000000000) 1000000000000000 n)) ∧ w = w' := by
  unfold inB
  by_cases h1 : (-1000000000000000) ≤ n
  · go_enter Tryz.func64, Tryz.ntmps64
    go_wp2_with fail
    go_ret
    exact ⟨by simp [h1], rfl⟩
  · have h1' : n < (-1000000000000000) := by omega
    have h1d : decide ((-1000000000000000) ≤ n) = false := by simpa using h1
    clear h1
    go_enter Tryz.func64, Tryz.ntmps64
    go_wp2_with fail
    go_ret
    exact ⟨by simp [h1d], rfl⟩

end Go.Proofs.YthmjkhlndphldaaGreatDoor
