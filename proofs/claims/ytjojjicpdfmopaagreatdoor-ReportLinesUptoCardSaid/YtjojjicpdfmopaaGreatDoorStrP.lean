/- Plain: the digits that (*big.Int).String writes: how many places, and what stands in them. -/
import Derived.Lib.ItoaNum
import Derived.Laws.FloatArith
namespace Go.Proofs.YtjojjicpdfmopaaGreatDoor
open Go Go.Lib
set_option linter.unusedVariables false

/-- float64(b) / math.Log2(10), cut to an int. -/
def dqV (b : Nat) : Option Int := (floatBits .quo .f64 (floatOfInt .f64 (b : Int)) 4614662735865160561).bind fun r => floatToIntVal .f64 r .i64
def dqOk (b : Nat) : Bool := match dqV b with | some n => decide (0 ≤ n) && decide (2 ^ b ≤ 10 ^ (n.toNat + 1)) && decide (n ≤ 19) | none => false
set_option maxRecDepth 100000 in
theorem dq_all : ∀ b : Nat, b < 65 → dqOk b = true := by decide +kernel
theorem dq_some {b : Nat} (h : b < 65) : ∃ f n : Nat, floatBits .quo .f64 (floatOfInt .f64 (b : Int)) 4614662735865160561 = some f ∧ floatToIntVal .f64 f .i64 = some (n : Int) ∧ n ≤ 19 ∧ 2 ^ b ≤ 10 ^ (n + 1) := by
  have h1 := dq_all b h
  unfold dqOk at h1
  cases hv : dqV b with
  | none => rw [hv] at h1; cases h1
  | some z =>
    rw [hv] at h1
    simp only [Bool.and_eq_true, decide_eq_true_eq] at h1
    unfold dqV at hv
    cases hf : floatBits .quo .f64 (floatOfInt .f64 (b : Int)) 4614662735865160561 with
    | none => rw [hf] at hv; cases hv
    | some f =>
      rw [hf] at hv
      obtain ⟨n, rfl⟩ : ∃ n : Nat, z = (n : Int) := ⟨z.toNat, by omega⟩
      exact ⟨f, n, rfl, hv, by omega, h1.1.2⟩

/-- x's last m digits, the first ahead. -/
def pad (m x : Nat) : List UInt8 := (List.range m).map fun t => dg x (m - 1 - t)
theorem pad_length (m x : Nat) : (pad m x).length = m := by simp [pad]
theorem pad_zero (x : Nat) : pad 0 x = [] := rfl
theorem pad_cons (m x : Nat) : pad (m + 1) x = dg x m :: pad m x := by
  unfold pad
  rw [List.range_succ_eq_map, List.map_cons, List.map_map]
  congr 1
  refine List.map_congr_left fun t ht => ?_
  have := List.mem_range.1 ht
  simp only [Function.comp]
  rw [show m + 1 - 1 - (t + 1) = m - 1 - t by omega]
theorem pad_split (a : Nat) : ∀ (b x : Nat), pad (a + b) x = pad a (x / 10 ^ b) ++ pad b x := by
  induction a with
  | zero => intro b x; simp [pad_zero]
  | succ a ih =>
    intro b x
    rw [show a + 1 + b = (a + b) + 1 by omega, pad_cons, pad_cons, ih, List.cons_append]
    congr 1
    unfold dg
    rw [Nat.pow_add, Nat.mul_comm, ← Nat.div_div_eq_div_mul]
theorem dg_zero (j : Nat) : dg 0 j = 48 := by simp [dg]
theorem pad_nought (m : Nat) : pad m 0 = List.replicate m 48 := by
  induction m with
  | zero => rfl
  | succ m ih => rw [pad_cons, ih, dg_zero, List.replicate_succ]
theorem pad_lead {m k x : Nat} (h : x < 10 ^ k) (hk : k ≤ m) : pad m x = List.replicate (m - k) 48 ++ pad k x := by
  obtain ⟨a, rfl⟩ : ∃ a, m = a + k := ⟨m - k, by omega⟩
  rw [pad_split, Nat.div_eq_of_lt h, pad_nought]
  simp
theorem pad_dec (x : Nat) : pad (nDigits x) x = decDigits x := by rw [decDigits_eq]; rfl
theorem nDigits_le {x m : Nat} (h : x < 10 ^ m) (hm : 0 < m) : nDigits x ≤ m := by
  rcases Nat.lt_or_ge m (nDigits x) with h1 | h1
  · exfalso
    have key : ∀ (n y : Nat), n = nDigits y → 1 < n → 10 ^ (n - 1) ≤ y := by
      intro n
      induction n with
      | zero => intro y _ h; omega
      | succ n ih =>
        intro y hy h
        by_cases h10 : y < 10
        · rw [nDigits_small h10] at hy; omega
        · rw [nDigits_big h10] at hy
          have hy' : n = nDigits (y / 10) := by omega
          rcases Nat.eq_or_lt_of_le (show 1 ≤ n by omega) with h2 | h2
          · rw [← h2]; simp; omega
          · have := ih (y / 10) hy' h2
            obtain ⟨k, rfl⟩ : ∃ k, n = k + 1 := ⟨n - 1, by omega⟩
            simp only [Nat.add_sub_cancel] at this ⊢
            rw [Nat.pow_succ]
            omega
    have := key _ x rfl (by omega)
    have h2 : 10 ^ m ≤ 10 ^ (nDigits x - 1) := Nat.pow_le_pow_right (by omega) (by omega)
    omega
  · exact h1
/-- the row, the noughts ahead of the digits -/
theorem pad_full {x m : Nat} (h : x < 10 ^ m) (hm : 0 < m) : pad m x = List.replicate (m - nDigits x) 48 ++ decDigits x := by
  rw [pad_lead (lt_pow_nDigits x) (nDigits_le h hm), pad_dec]
/-- the first digit is no nought -/
theorem dec_head {x : Nat} (h : x ≠ 0) : ∃ b l, decDigits x = b :: l ∧ b ≠ 48 := by
  induction x using Nat.strongRecOn with
  | _ x ih =>
    by_cases h10 : x < 10
    · refine ⟨UInt8.ofNat (48 + x), [], by rw [decDigits_one h10], ?_⟩
      have : ∀ y : Fin 10, y.val ≠ 0 → UInt8.ofNat (48 + y.val) ≠ 48 := by decide
      exact this ⟨x, h10⟩ h
    · obtain ⟨b, l, e, hb⟩ := ih (x / 10) (by omega) (by omega)
      refine ⟨b, l ++ [UInt8.ofNat (48 + x % 10)], ?_, hb⟩
      rw [decDigits, dif_neg h10, e]
      rfl
/-- the digits of x, the low 19 by themselves -/
theorem dg_mod {x j k : Nat} (h : j < k) : dg (x % 10 ^ k) j = dg x j := by
  unfold dg
  obtain ⟨d, rfl⟩ : ∃ d, k = j + 1 + d := ⟨k - j - 1, by omega⟩
  have e : x % 10 ^ (j + 1 + d) / 10 ^ j % 10 = x / 10 ^ j % 10 := by
    have h1 : x = x % 10 ^ (j + 1 + d) + 10 ^ (j + 1 + d) * (x / 10 ^ (j + 1 + d)) := (Nat.mod_add_div _ _).symm
    generalize x % 10 ^ (j + 1 + d) = r at h1 ⊢
    generalize x / 10 ^ (j + 1 + d) = q at h1
    have hp : 10 ^ (j + 1 + d) = 10 ^ j * (10 * 10 ^ d) := by rw [Nat.pow_add, Nat.pow_succ, Nat.mul_assoc]
    rw [h1, hp, Nat.mul_assoc, Nat.add_mul_div_left _ _ (Nat.pow_pos (by omega)), Nat.mul_assoc, Nat.add_mul_mod_self_left]
  rw [e]
theorem pad_mod {x m k : Nat} (h : m ≤ k) : pad m (x % 10 ^ k) = pad m x := by
  unfold pad
  refine List.map_congr_left fun t ht => ?_
  have := List.mem_range.1 ht
  exact dg_mod (by omega)
/-- a digit as the code reckons it -/
theorem dg_step (r : Nat) : UInt8.ofNat (48 + (r - r / 10 * 10)) = dg r 0 := by
  unfold dg
  rw [Nat.pow_zero, Nat.div_one]
  congr 2
  omega
end Go.Proofs.YtjojjicpdfmopaaGreatDoor
