/- Plain facts of what comes a part at a time. -/
import Derived.Test.YtfkhcdcmcplfoaaGreatDoorMem
namespace Go.Proofs.YtfkhcdcmcplfoaaGreatDoor
set_option linter.unusedVariables false

/-- how much came by the k-th of p parts -/
def uptoI (a p k : Int) : Int := (a * k).tdiv p
/-- the part from k to k + 1 -/
def partI (a p k : Int) : Int := uptoI a p (k + 1) - uptoI a p k

theorem part_nat (A p k : Nat) (hp : 0 < p) : A / p ≤ A * (k + 1) / p - A * k / p ∧ A * (k + 1) / p - A * k / p ≤ A / p + 1 ∧ A * k / p ≤ A * (k + 1) / p := by
  have h0 : A * (k + 1) = (A * k + A % p) + A / p * p := by
    have := Nat.div_add_mod A p
    rw [Nat.mul_add, Nat.mul_one, Nat.mul_comm (A / p) p]
    omega
  have h1 : A * (k + 1) / p = (A * k + A % p) / p + A / p := by rw [h0, Nat.add_mul_div_right _ _ hp]
  have h2 : A * k + A % p = (A * k % p + A % p) + A * k / p * p := by
    have := Nat.div_add_mod (A * k) p
    rw [Nat.mul_comm (A * k / p) p]
    omega
  have h3 : (A * k + A % p) / p = (A * k % p + A % p) / p + A * k / p := by
    conv => lhs; rw [h2]
    rw [Nat.add_mul_div_right _ _ hp]
  have h4 : (A * k % p + A % p) / p ≤ 1 := by
    have e1 := Nat.mod_lt (A * k) hp
    have e2 := Nat.mod_lt A hp
    have : (A * k % p + A % p) / p < 2 := Nat.div_lt_of_lt_mul (by omega)
    omega
  rw [h3] at h1
  clear h0 h2 h3
  generalize (A * k % p + A % p) / p = D at h1 h4
  generalize A * (k + 1) / p = X at *
  generalize A * k / p = Y at *
  generalize A / p = Z at *
  omega

theorem upto_pos (A p k : Nat) : uptoI (A : Int) (p : Int) (k : Int) = ((A * k / p : Nat) : Int) := by
  unfold uptoI
  rw [← Int.natCast_mul, ← Int.ofNat_tdiv]
theorem upto_neg (A p k : Nat) : uptoI (-(A : Int)) (p : Int) (k : Int) = -((A * k / p : Nat) : Int) := by
  unfold uptoI
  rw [Int.neg_mul, Int.neg_tdiv, ← Int.natCast_mul, ← Int.ofNat_tdiv]

/-- two parts differ by no more than one, and none is on the other side of 0 -/
theorem parts_near (a p : Int) (hp : 1 ≤ p) : ∃ lo, ∀ k : Nat, (lo ≤ partI a p k ∧ partI a p k ≤ lo + 1) ∧ (0 < a → 0 ≤ partI a p k) ∧ (a < 0 → partI a p k ≤ 0) := by
  obtain ⟨P, rfl⟩ := Int.eq_ofNat_of_zero_le (show 0 ≤ p by omega)
  have hP : 0 < P := by omega
  by_cases h : 0 ≤ a
  · obtain ⟨A, rfl⟩ := Int.eq_ofNat_of_zero_le h
    refine ⟨((A / P : Nat) : Int), fun k => ?_⟩
    have hk := part_nat A P k hP
    have e1 := upto_pos A P k
    have e2 := upto_pos A P (k + 1)
    rw [Int.natCast_add] at e2
    unfold partI
    rw [e1, show ((k : Int) + 1) = ((k : Int) + ((1 : Nat) : Int)) from rfl, e2]
    omega
  · obtain ⟨A, hA⟩ := Int.eq_ofNat_of_zero_le (show 0 ≤ -a by omega)
    obtain rfl : a = -(A : Int) := by omega
    refine ⟨-((A / P : Nat) : Int) - 1, fun k => ?_⟩
    have hk := part_nat A P k hP
    have e1 := upto_neg A P k
    have e2 := upto_neg A P (k + 1)
    rw [Int.natCast_add] at e2
    unfold partI
    rw [e1, show ((k : Int) + 1) = ((k : Int) + ((1 : Nat) : Int)) from rfl, e2]
    omega
theorem upto_zero (a p : Int) : uptoI a p 0 = 0 := by unfold uptoI; rw [Int.mul_zero, Int.zero_tdiv]
theorem upto_all (a p : Int) (hp : 1 ≤ p) : uptoI a p p = a := by unfold uptoI; rw [Int.mul_tdiv_cancel _ (by omega)]
theorem part_step (a p k : Int) : uptoI a p k + partI a p k = uptoI a p (k + 1) := by unfold partI; omega
theorem upto_abs (a p k : Int) : (uptoI a p k).natAbs = a.natAbs * k.natAbs / p.natAbs := by
  unfold uptoI
  rw [Int.natAbs_tdiv, Int.natAbs_mul]
  rfl
theorem upto_bnd (a p k : Int) (h0 : 0 ≤ k) (hk : k ≤ 120) (hp : 1 ≤ p) (ha : a.natAbs ≤ 1000000000000000) : (uptoI a p k).natAbs ≤ 120000000000000000 := by
  rw [upto_abs]
  have h1 : a.natAbs * k.natAbs ≤ 1000000000000000 * 120 := Nat.mul_le_mul ha (by omega)
  exact Nat.le_trans (Nat.div_le_self _ _) h1
end Go.Proofs.YtfkhcdcmcplfoaaGreatDoor
