/- Plain facts about the division of two words by one: the reciprocal, the guess of half a word. -/
import Derived.Test.YtggmbjdonlbfkaaGreatDoorBesafterMulX
import Derived.Lib.ItoaNum
namespace Go.Proofs.YtggmbjdonlbfkaaGreatDoorBesafter
open Go Go.RowKit
set_option linter.unusedVariables false

/-- the two-by-one division by a reciprocal: what is left is bounded -/
theorem divWW_bound {B d X1 X0 v q a e : Nat} (hB : 0 < B) (hd : d ≤ B) (h1 : X1 < d) (h0 : X0 < B) (hv : v * d + 1 + e = B * B) (he : e < d) (hq : q * B + a = v * X1 + X0) (ha : a < B) :
    d * q ≤ X1 * B + X0 ∧ X1 * B + X0 < d * q + B + d := by
  have key : B * (d * q) + (X1 * (1 + e) + X0 * (B - d) + d * a) = B * (X1 * B + X0) := by
    obtain ⟨f, rfl⟩ : ∃ f, B = d + f := ⟨B - d, by omega⟩
    rw [Nat.add_sub_cancel_left]
    have h2 : d * (q * (d + f) + a) = d * (v * X1 + X0) := by rw [hq]
    have h3 : X1 * (v * d + 1 + e) = X1 * ((d + f) * (d + f)) := by rw [hv]
    have e1 : d * (q * (d + f) + a) = (d + f) * (d * q) + d * a := by
      rw [Nat.mul_add, Nat.mul_comm q, ← Nat.mul_assoc, Nat.mul_comm d (d + f), Nat.mul_assoc]
    have e2 : d * (v * X1 + X0) = X1 * (v * d) + X0 * d := by
      rw [Nat.mul_add, Nat.mul_comm X0 d, Nat.mul_comm d (v * X1), Nat.mul_assoc, Nat.mul_comm (v) (X1 * d), Nat.mul_assoc, Nat.mul_comm d v]
    have e3 : X1 * (v * d + 1 + e) = X1 * (v * d) + X1 * (1 + e) := by rw [Nat.add_assoc, Nat.mul_add]
    have e4 : (d + f) * (X1 * (d + f) + X0) = X1 * ((d + f) * (d + f)) + (X0 * d + X0 * f) := by
      rw [Nat.mul_add, Nat.mul_comm (d + f) (X1 * (d + f)), Nat.mul_assoc, Nat.mul_comm (d + f) X0, Nat.mul_add X0]
    rw [e4, ← h3, e3]
    rw [e1, e2] at h2
    omega
  have hs : X1 * (1 + e) + X0 * (B - d) + d * a < B * (B + d) := by
    have a1 : X1 * (1 + e) ≤ X1 * d := Nat.mul_le_mul_left _ (by omega)
    have a2 : X1 * d ≤ B * X1 := by rw [Nat.mul_comm B]; exact Nat.mul_le_mul_left _ hd
    have a3 : d * a ≤ d * B := Nat.mul_le_mul_left _ (by omega)
    have a4 : B * X1 + B ≤ B * d := by rw [← Nat.mul_succ]; exact Nat.mul_le_mul_left _ h1
    have a5 : X0 * (B - d) ≤ B * (B - d) := Nat.mul_le_mul_right _ (by omega)
    have a6 : B * (B - d) + B * d = B * B := by rw [← Nat.mul_add]; congr 1; omega
    have a7 : d * B = B * d := Nat.mul_comm _ _
    rw [Nat.mul_add B B d]
    omega
  constructor
  · have : B * (d * q) ≤ B * (X1 * B + X0) := by omega
    exact Nat.le_of_mul_le_mul_left this hB
  · have : B * (X1 * B + X0) < B * (d * q + B + d) := by
      rw [Nat.add_assoc, Nat.mul_add B (d * q) (B + d)]
      omega
    exact Nat.lt_of_mul_lt_mul_left this

def HW : Nat := 4294967296
/-- the guess is too great -/
theorem half_dec {y1 y0 U u q qh rh : Nat} (hU : U = qh * y1 + rh) (hq : q * (y1 * HW + y0) ≤ U * HW + u) (hlt : q < HW) (h : HW ≤ qh ∨ rh * HW + u < qh * y0) : q < qh := by
  rcases h with h | h
  · omega
  · apply Decidable.byContradiction
    intro hn
    have h1 : qh * (y1 * HW + y0) ≤ q * (y1 * HW + y0) := Nat.mul_le_mul_right _ (by omega)
    have h2 : qh * (y1 * HW + y0) = qh * y1 * HW + qh * y0 := by rw [Nat.mul_add, Nat.mul_assoc]
    have h3 : U * HW = qh * y1 * HW + rh * HW := by rw [hU, Nat.add_mul]
    omega
/-- the guess is right -/
theorem half_end {y1 y0 U u q qh rh : Nat} (hU : U = qh * y1 + rh) (hq2 : U * HW + u < (q + 1) * (y1 * HW + y0)) (hge : q ≤ qh) (h : qh * y0 ≤ rh * HW + u) : qh = q := by
  have h2 : qh * (y1 * HW + y0) = qh * y1 * HW + qh * y0 := by rw [Nat.mul_add, Nat.mul_assoc]
  have h3 : U * HW = qh * y1 * HW + rh * HW := by rw [hU, Nat.add_mul]
  have h4 : qh * (y1 * HW + y0) < (q + 1) * (y1 * HW + y0) := by omega
  have := Nat.lt_of_mul_lt_mul_right h4
  omega
theorem half_end2 {y1 y0 U u q qh rh : Nat} (hU : U = qh * y1 + rh) (hq2 : U * HW + u < (q + 1) * (y1 * HW + y0)) (hge : q ≤ qh) (hqh : qh ≤ HW) (hy0 : y0 < HW) (hr : HW ≤ rh) : qh = q := by
  apply half_end hU hq2 hge
  have h1 : qh * y0 ≤ HW * y0 := Nat.mul_le_mul_right _ hqh
  have h2 : HW * y0 ≤ HW * HW := Nat.mul_le_mul_left _ (by omega)
  have h3 : HW * HW ≤ rh * HW := Nat.mul_le_mul_right _ hr
  omega
/-- the first guess -/
theorem half_first {y1 y0 U u q : Nat} (hy1 : 2147483648 ≤ y1) (hy0 : y0 < HW) (hU : U < y1 * HW + y0) (hu : u < HW) (hq : q * (y1 * HW + y0) ≤ U * HW + u) : q ≤ U / y1 ∧ U / y1 ≤ HW + 1 := by
  have hp : 0 < y1 := by omega
  have hd : U = y1 * (U / y1) + U % y1 := (Nat.div_add_mod U y1).symm
  have hm : U % y1 < y1 := Nat.mod_lt _ hp
  constructor
  · rw [Nat.le_div_iff_mul_le hp]
    have h2 : q * (y1 * HW + y0) = q * y1 * HW + q * y0 := by rw [Nat.mul_add, Nat.mul_assoc]
    have h3 : q * y1 * HW ≤ U * HW + u := by omega
    have h4 : q * y1 * HW < (U + 1) * HW := by rw [Nat.add_mul]; omega
    have := Nat.lt_of_mul_lt_mul_right h4
    omega
  · have h1 : U / y1 * y1 ≤ U := Nat.div_mul_le_self _ _
    have h5 : HW ≤ 2 * y1 := by unfold HW; omega
    have h2 : U / y1 * y1 < (HW + 2) * y1 := by
      rw [Nat.add_mul, Nat.mul_comm HW y1]
      omega
    have := Nat.lt_of_mul_lt_mul_right h2
    omega
/-- the quotient of a half is less than half a word -/
theorem half_lt {y U u q : Nat} (hU : U < y) (hu : u < HW) (hq : q * y ≤ U * HW + u) : q < HW := by
  have h1 : q * y < HW * y := by
    have h2 : (U + 1) * HW ≤ y * HW := Nat.mul_le_mul_right _ hU
    rw [Nat.add_mul] at h2
    rw [Nat.mul_comm HW y]
    omega
  exact Nat.lt_of_mul_lt_mul_right h1
theorem bitLen_bd {x : Nat} (h : x < W64) (h0 : x ≠ 0) : 1 ≤ Lib.bitLen x ∧ Lib.bitLen x ≤ 64 ∧ 2 ^ (Lib.bitLen x - 1) ≤ x ∧ x < 2 ^ Lib.bitLen x := by
  obtain ⟨a, b, c⟩ := Lib.bitLenAux_bounds 64 x h h0
  exact ⟨a, Lib.bitLen_le x 64 (Nat.le_refl _) h, b, c⟩
theorem bitLen_top {x : Nat} (h : x < W64) (h1 : 9223372036854775808 ≤ x) : Lib.bitLen x = 64 := by
  obtain ⟨a, b, c, d⟩ := bitLen_bd h (by omega)
  have h2 : 2 ^ 63 < 2 ^ Lib.bitLen x := Nat.lt_of_le_of_lt h1 d
  have := (Nat.pow_lt_pow_iff_right (by omega : 1 < 2)).1 h2
  omega
/-- shifted till its first bit stands -/
theorem norm_top {x : Nat} (h : x < W64) (h0 : x ≠ 0) : 9223372036854775808 ≤ x * 2 ^ (64 - Lib.bitLen x) ∧ x * 2 ^ (64 - Lib.bitLen x) < W64 := by
  obtain ⟨a, b, c, d⟩ := bitLen_bd h h0
  constructor
  · have h1 : 2 ^ (Lib.bitLen x - 1) * 2 ^ (64 - Lib.bitLen x) ≤ x * 2 ^ (64 - Lib.bitLen x) := Nat.mul_le_mul_right _ c
    rw [← Nat.pow_add, show Lib.bitLen x - 1 + (64 - Lib.bitLen x) = 63 by omega] at h1
    exact h1
  · have h1 : x * 2 ^ (64 - Lib.bitLen x) < 2 ^ Lib.bitLen x * 2 ^ (64 - Lib.bitLen x) := Nat.mul_lt_mul_of_pos_right d (Nat.pow_pos (by omega))
    rw [← Nat.pow_add, show Lib.bitLen x + (64 - Lib.bitLen x) = 64 by omega] at h1
    exact h1
end Go.Proofs.YtggmbjdonlbfkaaGreatDoorBesafter
