/- Plain facts about the division of two words by one: the reciprocal, the guess of half a word. -/
import Derived.Test.YtjojjicpdfmopaaGreatDoorMulX
import Derived.Lib.ItoaNum
import Derived.Laws.Bits64b
namespace Go.Proofs.YtjojjicpdfmopaaGreatDoor
open Go Go.RowKit
set_option linter.unusedVariables false

/-- the two-by-one division by a reciprocal: what is left is bounded -/
theorem divWW_bound {B d X1 X0 v q a e : Nat} (hB : 0 < B) (hd : d ≤ B) (h1 : X1 < d) (h0 : X0 < B) (hv : v * d + 1 + e = B * B) (he : e < d) (hq : q * B + a = v * X1 + X0) (ha : a < B) :
    d * q ≤ X1 * B + X0 ∧ X1 * B + X0 < d * q + B + d := by
  have key : B * (d * q) + (X1 * (1 + e) + X0 * (B - d) + d * a) = B * (X1 * B + X0) := by
    obtain ⟨f, rfl⟩ : ∃ f, B = d + f := ⟨B - d, by omega⟩
    rw [Nat.add_sub_cancel_left]
    have h2 : d * (q * (d + f) + a) = d * (v * X1 + X0) := by rw [hq]
    have h3 : X1 * (v * d + 1 + e) = X1 * ((d + f) * (d + f)) := by rw [hv]
    have e1 : d * (q * (d + f) + a) = (d + f) * (d * q) + d * a := by
      rw [Nat.mul_add, Nat.mul_comm q, ← Nat.mul_assoc, Nat.mul_comm d (d + f), Nat.mul_assoc]
    have e2 : d * (v * X1 + X0) = X1 * (v * d) + X0 * d := by
      rw [Nat.mul_add, Nat.mul_comm X0 d, Nat.mul_comm d (v * X1), Nat.mul_assoc, Nat.mul_comm (v) (X1 * d), Nat.mul_assoc, Nat.mul_comm d v]
    have e3 : X1 * (v * d + 1 + e) = X1 * (v * d) + X1 * (1 + e) := by rw [Nat.add_assoc, Nat.mul_add]
    have e4 : (d + f) * (X1 * (d + f) + X0) = X1 * ((d + f) * (d + f)) + (X0 * d + X0 * f) := by
      rw [Nat.mul_add, Nat.mul_comm (d + f) (X1 * (d + f)), Nat.mul_assoc, Nat.mul_comm (d + f) X0, Nat.mul_add X0]
    rw [e4, ← h3, e3]
    rw [e1, e2] at h2
    omega
  have hs : X1 * (1 + e) + X0 * (B - d) + d * a < B * (B + d) := by
    have a1 : X1 * (1 + e) ≤ X1 * d := Nat.mul_le_mul_left _ (by omega)
    have a2 : X1 * d ≤ B * X1 := by rw [Nat.mul_comm B]; exact Nat.mul_le_mul_left _ hd
    have a3 : d * a ≤ d * B := Nat.mul_le_mul_left _ (by omega)
    have a4 : B * X1 + B ≤ B * d := by rw [← Nat.mul_succ]; exact Nat.mul_le_mul_left _ h1
    have a5 : X0 * (B - d) ≤ B * (B - d) := Nat.mul_le_mul_right _ (by omega)
    have a6 : B * (B - d) + B * d = B * B := by rw [← Nat.mul_add]; congr 1; omega
    have a7 : d * B = B * d := Nat.mul_comm _ _
    rw [Nat.mul_add B B d]
    omega
  constructor
  · have : B * (d * q) ≤ B * (X1 * B + X0) := by omega
    exact Nat.le_of_mul_le_mul_left this hB
  · have : B * (X1 * B + X0) < B * (d * q + B + d) := by
      rw [Nat.add_assoc, Nat.mul_add B (d * q) (B + d)]
      omega
    exact Nat.lt_of_mul_lt_mul_left this

def HW : Nat := 4294967296
/-- the guess is too great -/
theorem half_dec {y1 y0 U u q qh rh : Nat} (hU : U = qh * y1 + rh) (hq : q * (y1 * HW + y0) ≤ U * HW + u) (hlt : q < HW) (h : HW ≤ qh ∨ rh * HW + u < qh * y0) : q < qh := by
  rcases h with h | h
  · omega
  · apply Decidable.byContradiction
    intro hn
    have h1 : qh * (y1 * HW + y0) ≤ q * (y1 * HW + y0) := Nat.mul_le_mul_right _ (by omega)
    have h2 : qh * (y1 * HW + y0) = qh * y1 * HW + qh * y0 := by rw [Nat.mul_add, Nat.mul_assoc]
    have h3 : U * HW = qh * y1 * HW + rh * HW := by rw [hU, Nat.add_mul]
    omega
/-- the guess is right -/
theorem half_end {y1 y0 U u q qh rh : Nat} (hU : U = qh * y1 + rh) (hq2 : U * HW + u < (q + 1) * (y1 * HW + y0)) (hge : q ≤ qh) (h : qh * y0 ≤ rh * HW + u) : qh = q := by
  have h2 : qh * (y1 * HW + y0) = qh * y1 * HW + qh * y0 := by rw [Nat.mul_add, Nat.mul_assoc]
  have h3 : U * HW = qh * y1 * HW + rh * HW := by rw [hU, Nat.add_mul]
  have h4 : qh * (y1 * HW + y0) < (q + 1) * (y1 * HW + y0) := by omega
  have := Nat.lt_of_mul_lt_mul_right h4
  omega
theorem half_end2 {y1 y0 U u q qh rh : Nat} (hU : U = qh * y1 + rh) (hq2 : U * HW + u < (q + 1) * (y1 * HW + y0)) (hge : q ≤ qh) (hqh : qh ≤ HW) (hy0 : y0 < HW) (hr : HW ≤ rh) : qh = q := by
  apply half_end hU hq2 hge
  have h1 : qh * y0 ≤ HW * y0 := Nat.mul_le_mul_right _ hqh
  have h2 : HW * y0 ≤ HW * HW := Nat.mul_le_mul_left _ (by omega)
  have h3 : HW * HW ≤ rh * HW := Nat.mul_le_mul_right _ hr
  omega
/-- the first guess -/
theorem half_first {y1 y0 U u q : Nat} (hy1 : 2147483648 ≤ y1) (hy0 : y0 < HW) (hU : U < y1 * HW + y0) (hu : u < HW) (hq : q * (y1 * HW + y0) ≤ U * HW + u) : q ≤ U / y1 ∧ U / y1 ≤ HW + 1 := by
  have hp : 0 < y1 := by omega
  have hd : U = y1 * (U / y1) + U % y1 := (Nat.div_add_mod U y1).symm
  have hm : U % y1 < y1 := Nat.mod_lt _ hp
  constructor
  · rw [Nat.le_div_iff_mul_le hp]
    have h2 : q * (y1 * HW + y0) = q * y1 * HW + q * y0 := by rw [Nat.mul_add, Nat.mul_assoc]
    have h3 : q * y1 * HW ≤ U * HW + u := by omega
    have h4 : q * y1 * HW < (U + 1) * HW := by rw [Nat.add_mul]; omega
    have := Nat.lt_of_mul_lt_mul_right h4
    omega
  · have h1 : U / y1 * y1 ≤ U := Nat.div_mul_le_self _ _
    have h5 : HW ≤ 2 * y1 := by unfold HW; omega
    have h2 : U / y1 * y1 < (HW + 2) * y1 := by
      rw [Nat.add_mul, Nat.mul_comm HW y1]
      omega
    have := Nat.lt_of_mul_lt_mul_right h2
    omega
/-- the quotient of a half is less than half a word -/
theorem half_lt {y U u q : Nat} (hU : U < y) (hu : u < HW) (hq : q * y ≤ U * HW + u) : q < HW := by
  have h1 : q * y < HW * y := by
    have h2 : (U + 1) * HW ≤ y * HW := Nat.mul_le_mul_right _ hU
    rw [Nat.add_mul] at h2
    rw [Nat.mul_comm HW y]
    omega
  exact Nat.lt_of_mul_lt_mul_right h1
theorem bitLen_bd {x : Nat} (h : x < W64) (h0 : x ≠ 0) : 1 ≤ Lib.bitLen x ∧ Lib.bitLen x ≤ 64 ∧ 2 ^ (Lib.bitLen x - 1) ≤ x ∧ x < 2 ^ Lib.bitLen x := by
  obtain ⟨a, b, c⟩ := Lib.bitLenAux_bounds 64 x h h0
  exact ⟨a, Lib.bitLen_le x 64 (Nat.le_refl _) h, b, c⟩
theorem bitLen_top {x : Nat} (h : x < W64) (h1 : 9223372036854775808 ≤ x) : Lib.bitLen x = 64 := by
  obtain ⟨a, b, c, d⟩ := bitLen_bd h (by omega)
  have h2 : 2 ^ 63 < 2 ^ Lib.bitLen x := Nat.lt_of_le_of_lt h1 d
  have := (Nat.pow_lt_pow_iff_right (by omega : 1 < 2)).1 h2
  omega
/-- shifted till its first bit stands -/
theorem norm_top {x : Nat} (h : x < W64) (h0 : x ≠ 0) : 9223372036854775808 ≤ x * 2 ^ (64 - Lib.bitLen x) ∧ x * 2 ^ (64 - Lib.bitLen x) < W64 := by
  obtain ⟨a, b, c, d⟩ := bitLen_bd h h0
  constructor
  · have h1 : 2 ^ (Lib.bitLen x - 1) * 2 ^ (64 - Lib.bitLen x) ≤ x * 2 ^ (64 - Lib.bitLen x) := Nat.mul_le_mul_right _ c
    rw [← Nat.pow_add, show Lib.bitLen x - 1 + (64 - Lib.bitLen x) = 63 by omega] at h1
    exact h1
  · have h1 : x * 2 ^ (64 - Lib.bitLen x) < 2 ^ Lib.bitLen x * 2 ^ (64 - Lib.bitLen x) := Nat.mul_lt_mul_of_pos_right d (Nat.pow_pos (by omega))
    rw [← Nat.pow_add, show Lib.bitLen x + (64 - Lib.bitLen x) = 64 by omega] at h1
    exact h1
end Go.Proofs.YtjojjicpdfmopaaGreatDoor

namespace Go.Proofs.YtjojjicpdfmopaaGreatDoor
open Go Go.RowKit
set_option linter.unusedVariables false

theorem lz64_top (y : Nat) (hy : y < W64) (htop : 9223372036854775808 ≤ y) (w : World) :
    Calls Tryz.prog 257 #[.int .u64 (y : Int)] w fun e w' => e = .returned (.int .i64 0) ∧ w' = w := by
  refine (Tryz.bits_LeadingZeros64 (y : Int) w (by omega) (by unfold W64 at hy; omega)).mono ?_
  rintro e w' ⟨rfl, rfl⟩
  exact ⟨by rw [show ((y : Int)).toNat = y from rfl, bitLen_top hy htop]; rfl, rfl⟩
theorem and_lo (x : Nat) (hx : x < 18446744073709551616) : bits BinOp.and IntKind.u64 (x : Int) 4294967295 = ((x % 4294967296 : Nat) : Int) := by
  have h := Go.bits_and_u64_nat x 4294967295 hx (by omega)
  rw [show ((4294967295 : Nat) : Int) = 4294967295 from rfl] at h
  rw [h, show (4294967295 : Nat) = 2 ^ 32 - 1 from rfl, Nat.and_two_pow_sub_one_eq_mod]
theorem or_0 (x : Nat) (hx : x < 18446744073709551616) : bits BinOp.or IntKind.u64 (x : Int) 0 = (x : Int) := by
  have h := Go.bits_or_u64_nat x 0 hx (by omega)
  rw [Nat.or_zero] at h
  exact h
theorem wrap_nat {x : Nat} (h : x < 18446744073709551616) : IntKind.u64.wrap (x : Int) = (x : Int) := by rw [IntKind.wrap_u64]; omega
/-- a guess: quotient and rest by the upper half -/
theorem guess_u64 {U y1 a r : Nat} (hU : U < 18446744073709551616) (hy : 0 < y1) (ha : a = U / y1) (hr : r = U % y1) : IntKind.u64.wrap ((U : Int) / (y1 : Int)) = (a : Int) ∧ ∃ p : Nat, IntKind.u64.wrap ((a : Int) * (y1 : Int)) = (p : Int) ∧ IntKind.u64.wrap ((U : Int) - (p : Int)) = (r : Int) := by
  subst ha hr
  have h1 : U / y1 ≤ U := Nat.div_le_self _ _
  have h2 : y1 * (U / y1) + U % y1 = U := Nat.div_add_mod U y1
  refine ⟨?_, U / y1 * y1, ?_, ?_⟩
  · rw [← Int.natCast_ediv]
    exact wrap_nat (by omega)
  · rw [← Int.natCast_mul]
    exact wrap_nat (by rw [Nat.mul_comm]; omega)
  · rw [Nat.mul_comm, IntKind.wrap_u64]
    generalize y1 * (U / y1) = m at h2
    omega
/-- what is left behind a half step -/
theorem left_u64 {U u q y R : Nat} (hR : U * 4294967296 + u = q * y + R) (hu : u < 4294967296) (hRl : R < 18446744073709551616) :
    ∃ A B C : Nat, IntKind.u64.wrap ((U : Int) * 4294967296) = (A : Int) ∧ IntKind.u64.wrap ((A : Int) + (u : Int)) = (B : Int) ∧ IntKind.u64.wrap ((q : Int) * (y : Int)) = (C : Int) ∧ IntKind.u64.wrap ((B : Int) - (C : Int)) = (R : Int) := by
  refine ⟨U * 4294967296 % 18446744073709551616, (U * 4294967296 % 18446744073709551616 + u) % 18446744073709551616, q * y % 18446744073709551616, ?_, ?_, ?_, ?_⟩
  · rw [IntKind.wrap_u64]; omega
  · rw [IntKind.wrap_u64]; omega
  · rw [IntKind.wrap_u64, ← Int.natCast_mul]; omega
  · rw [IntKind.wrap_u64]
    generalize q * y = m at hR ⊢
    omega
/-- what the loop asks -/
theorem ask_u64 {qh rh y0 u : Nat} (hq : qh < 4294967296) (hr : rh < 4294967296) (hy : y0 < 4294967296) (hu : u < 4294967296) :
    ∃ m k s : Nat, m = qh * y0 ∧ s = rh * HW + u ∧ IntKind.u64.wrap ((qh : Int) * (y0 : Int)) = (m : Int) ∧ IntKind.u64.wrap (4294967296 * (rh : Int)) = (k : Int) ∧ IntKind.u64.wrap ((k : Int) + (u : Int)) = (s : Int) := by
  have h1 : qh * y0 ≤ 4294967295 * 4294967295 := Nat.mul_le_mul (by omega) (by omega)
  refine ⟨qh * y0, rh * 4294967296, rh * HW + u, rfl, rfl, ?_, ?_, ?_⟩
  · rw [← Int.natCast_mul]; exact wrap_nat (by omega)
  · rw [IntKind.wrap_u64]; omega
  · unfold HW; rw [IntKind.wrap_u64]; omega

set_option maxHeartbeats 1000000 in
set_option maxRecDepth 100000 in
theorem div64_norm (hi lo y : Nat) (hhi : hi < y) (hlo : lo < W64) (hy : y < W64) (htop : 9223372036854775808 ≤ y) (h0 : hi ≠ 0) (w : World) :
    Calls Tryz.prog 245 #[.int .u64 (hi : Int), .int .u64 (lo : Int), .int .u64 (y : Int)] w fun e w' => e = .returned (.tuple #[.int .u64 (((hi * W64 + lo) / y : Nat) : Int), .int .u64 (((hi * W64 + lo) % y : Nat) : Int)]) ∧ ∃ n, w' = w.drewN n := by
  have hx1 : lo < 18446744073709551616 := hlo
  have hy1 : y < 18446744073709551616 := hy
  have n1 : ((y : Int) == 0) = false := by rw [beq_eq_false_iff_ne]; omega
  have n2 : ¬ (y : Int) ≤ (hi : Int) := by omega
  have n3 : ((hi : Int) == 0) = false := by rw [beq_eq_false_iff_ne]; omega
  have HLZ := lz64_top y hy htop
  obtain ⟨y1, e1⟩ : ∃ y1, y1 = y / 4294967296 := ⟨_, rfl⟩
  obtain ⟨y0, e2⟩ : ∃ y0, y0 = y % 4294967296 := ⟨_, rfl⟩
  obtain ⟨u1, e3⟩ : ∃ u1, u1 = lo / 4294967296 := ⟨_, rfl⟩
  obtain ⟨u0, e4⟩ : ∃ u0, u0 = lo % 4294967296 := ⟨_, rfl⟩
  have hyy : y = y1 * HW + y0 := by unfold HW; omega
  have by1 : 2147483648 ≤ y1 := by omega
  have by1' : y1 < 4294967296 := by omega
  have by0 : y0 < 4294967296 := by omega
  have bu1 : u1 < 4294967296 := by omega
  have bu0 : u0 < 4294967296 := by omega
  have f1 : (y : Int) / 4294967296 = (y1 : Int) := by omega
  have f2 : bits BinOp.and IntKind.u64 (y : Int) 4294967295 = (y0 : Int) := by rw [and_lo y hy1, e2]
  have f3 : bits BinOp.or IntKind.u64 (hi : Int) 0 = (hi : Int) := or_0 hi (by omega)
  have f4 : (lo : Int) / 4294967296 = (u1 : Int) := by omega
  have f5 : bits BinOp.and IntKind.u64 (lo : Int) 4294967295 = (u0 : Int) := by rw [and_lo lo hx1, e4]
  have f7 : IntKind.u64.wrap (hi : Int) = (hi : Int) := wrap_nat (by omega)
  have f8 : IntKind.u64.wrap (lo : Int) = (lo : Int) := wrap_nat hx1
  have f9 : IntKind.u64.wrap (y : Int) = (y : Int) := wrap_nat hy1
  have f6 : (lo : Int) / 18446744073709551616 = 0 := by omega
  -- the numbers of both halves
  obtain ⟨q, hq⟩ : ∃ q, q = (hi * HW + u1) / y := ⟨_, rfl⟩
  obtain ⟨V, hV⟩ : ∃ V, V = (hi * HW + u1) % y := ⟨_, rfl⟩
  have hVd : hi * HW + u1 = q * y + V := by rw [hq, hV]; exact (Nat.div_add_mod' _ _).symm
  have hVl : V < y := by rw [hV]; exact Nat.mod_lt _ (by omega)
  clear hq hV
  obtain ⟨p, hp⟩ : ∃ p, p = (V * HW + u0) / y := ⟨_, rfl⟩
  obtain ⟨R, hR⟩ : ∃ R, R = (V * HW + u0) % y := ⟨_, rfl⟩
  have hRd : V * HW + u0 = p * y + R := by rw [hp, hR]; exact (Nat.div_add_mod' _ _).symm
  have hRl : R < y := by rw [hR]; exact Nat.mod_lt _ (by omega)
  clear hp hR
  have hqH : q < HW := half_lt hhi (show u1 < HW from bu1) (by omega)
  have hpH : p < HW := half_lt hVl (show u0 < HW from bu0) (by omega)
  have hN : hi * W64 + lo = (q * HW + p) * y + R := by
    have a1 : hi * W64 + lo = (hi * HW + u1) * HW + u0 := by unfold HW W64; omega
    have a2 : (q * HW + p) * y = q * y * HW + p * y := by rw [Nat.add_mul, Nat.mul_right_comm]
    rw [a1, hVd, a2, Nat.add_mul]
    omega
  have hQ : (hi * W64 + lo) / y = q * HW + p := by rw [hN]; exact (Nat.div_eq_of_lt_le (by omega) (by rw [Nat.succ_mul]; omega))
  have hM : (hi * W64 + lo) % y = R := by rw [hN, Nat.mul_add_mod', Nat.mod_eq_of_lt hRl]
  rw [hQ, hM]
  have hF : IntKind.u64.wrap (IntKind.u64.wrap ((q : Int) * 4294967296) + (p : Int)) = ((q * HW + p : Nat) : Int) := by
    unfold HW at hqH hpH ⊢
    simp only [IntKind.wrap_u64]
    omega
  obtain ⟨A1, B1, C1, l1, l2, l3, l4⟩ := left_u64 (U := hi) (u := u1) (q := q) (y := y) (R := V) hVd bu1 (by omega)
  obtain ⟨A2, B2, C2, l5, l6, l7, l8⟩ := left_u64 (U := V) (u := u0) (q := p) (y := y) (R := R) hRd bu0 (by omega)
  obtain ⟨hg1, hg2⟩ := half_first (U := hi) (u := u1) (q := q) by1 (show y0 < HW from by0) (by omega) (show u1 < HW from bu1) (by rw [← hyy]; omega)
  obtain ⟨hg3, hg4⟩ := half_first (U := V) (u := u0) (q := p) by1 (show y0 < HW from by0) (by omega) (show u0 < HW from bu0) (by rw [← hyy]; omega)
  obtain ⟨a1, ha1⟩ : ∃ a1, a1 = hi / y1 := ⟨_, rfl⟩
  obtain ⟨r1, hr1⟩ : ∃ r1, r1 = hi % y1 := ⟨_, rfl⟩
  obtain ⟨a2, ha2⟩ : ∃ a2, a2 = V / y1 := ⟨_, rfl⟩
  obtain ⟨r2, hr2⟩ : ∃ r2, r2 = V % y1 := ⟨_, rfl⟩
  obtain ⟨j1, P1, j2, j3⟩ := guess_u64 (U := hi) (y1 := y1) (by omega) (by omega) ha1 hr1
  obtain ⟨j4, P2, j5, j6⟩ := guess_u64 (U := V) (y1 := y1) (by omega) (by omega) ha2 hr2
  have hd1 : hi = a1 * y1 + r1 := by rw [ha1, hr1]; exact (Nat.div_add_mod' _ _).symm
  have hd2 : V = a2 * y1 + r2 := by rw [ha2, hr2]; exact (Nat.div_add_mod' _ _).symm
  have hrl1 : r1 < y1 := by rw [hr1]; exact Nat.mod_lt _ (by omega)
  have hrl2 : r2 < y1 := by rw [hr2]; exact Nat.mod_lt _ (by omega)
  rw [← ha1] at hg1 hg2
  rw [← ha2] at hg3 hg4
  clear ha1 hr1 ha2 hr2
  have HD1 := hide (fun (qh rh : Nat) (hU : hi = qh * y1 + rh) => half_dec (U := hi) (u := u1) (q := q) hU (by rw [← hyy]; omega) hqH)
  have HE1 := hide (fun (qh rh : Nat) (hU : hi = qh * y1 + rh) => half_end (U := hi) (u := u1) (q := q) (y0 := y0) hU (by rw [← hyy, Nat.succ_mul]; omega))
  have HX1 := hide (fun (qh rh : Nat) (hU : hi = qh * y1 + rh) => half_end2 (U := hi) (u := u1) (q := q) (y0 := y0) hU (by rw [← hyy, Nat.succ_mul]; omega))
  have HD2 := hide (fun (qh rh : Nat) (hU : V = qh * y1 + rh) => half_dec (U := V) (u := u0) (q := p) hU (by rw [← hyy]; omega) hpH)
  have HE2 := hide (fun (qh rh : Nat) (hU : V = qh * y1 + rh) => half_end (U := V) (u := u0) (q := p) (y0 := y0) hU (by rw [← hyy, Nat.succ_mul]; omega))
  have HX2 := hide (fun (qh rh : Nat) (hU : V = qh * y1 + rh) => half_end2 (U := V) (u := u0) (q := p) (y0 := y0) hU (by rw [← hyy, Nat.succ_mul]; omega))
  have HF := hide hF
  have G1 := hide hg1
  have G2 := hide hg2
  have G3 := hide hg3
  have G4 := hide hg4
  have D1 := hide hd1
  have D2 := hide hd2
  have K1 := hide hrl1
  have K2 := hide hrl2
  have QH := hide hqH
  have PH := hide hpH
  have Y1 := hide by1'
  have Y0 := hide by0
  have U1 := hide bu1
  have U0 := hide bu0
  clear hF hg1 hg2 hg3 hg4 hd1 hd2 hrl1 hrl2 hqH hpH by1' by0 bu1 bu0 hQ hM hN hRd hRl hVd hVl hyy e1 e2 e3 e4 htop hhi hlo hy hx1 h0
  go_enter Tryz.func245, Tryz.ntmps245
  go_wp2_with fail
  refine (HLZ _).mono ?_
  rintro e w1 ⟨rfl, rfl⟩
  clear HLZ n1 n2 n3
  go_wp2_with fail
  go_loopw [15, 16] (fun qv rv wr => w1 = wr ∧ ∃ qh rh : Nat, qv = .int .u64 (qh : Int) ∧ rv = .int .u64 (rh : Int) ∧ Hid (hi = qh * y1 + rh) ∧ Hid (q ≤ qh) ∧ Hid (qh ≤ HW + 1) ∧ Hid (rh < 4294967296)) (fun qv _ _ => (intOf qv).toNat)
  case atStart => exact ⟨rfl, a1, r1, rfl, rfl, D1, G1, G2, hide (by have := K1.out; have := Y1.out; omega)⟩
  case round =>
    obtain ⟨rfl, qh, rh, rfl, rfl, hU, hge, hle, hrh⟩ := hrel
    by_cases hA : 4294967296 ≤ qh
    · have c0 : (4294967296 : Int) ≤ (qh : Int) := by omega
      have hdec := hide (HD1.out qh rh hU.out (.inl hA))
      have d1 : IntKind.u64.wrap ((qh : Int) - 1) = ((qh - 1 : Nat) : Int) := by have := hdec.out; have := hle.out; unfold HW at this; rw [IntKind.wrap_u64]; omega
      have d2 : IntKind.u64.wrap ((rh : Int) + (y1 : Int)) = ((rh + y1 : Nat) : Int) := by have := hrh.out; have := Y1.out; rw [IntKind.wrap_u64]; omega
      have hU2 : Hid (hi = (qh - 1) * y1 + (rh + y1)) := by
        have h1 := hU.out
        have h2 := hdec.out
        obtain ⟨t, rfl⟩ : ∃ t, qh = t + 1 := ⟨qh - 1, by omega⟩
        show _ = _
        rw [Nat.succ_mul] at h1
        rw [Nat.add_sub_cancel]
        omega
      have hge2 : Hid (q ≤ qh - 1) := hide (by have := hdec.out; omega)
      have hle2 : Hid (qh - 1 ≤ HW + 1) := hide (by have := hle.out; omega)
      have hle3 : Hid (qh - 1 ≤ HW) := hide (by have := hle.out; omega)
      have hdc := hide (show qh - 1 < qh by have := hdec.out; omega)
      obtain ⟨t, ht⟩ : ∃ t, t = qh - 1 := ⟨_, rfl⟩
      obtain ⟨x, hx⟩ : ∃ x, x = rh + y1 := ⟨_, rfl⟩
      rw [← ht] at d1 hU2 hge2 hle2 hle3 hdc
      rw [← hx] at d2 hU2
      clear ht hx
      by_cases hC : 4294967296 ≤ x
      · have c5 : (4294967296 : Int) ≤ (x : Int) := by omega
        have hqe := HX1.out t x hU2.out hge2.out hle3.out Y0.out (show HW ≤ x from hC)
        subst hqe
        go_wp2_with fail
        clear hA c0 d1 d2 hdec hdc hU hle hrh hC c5
        go_loopw [18, 16] (fun qv rv wr => w1 = wr ∧ ∃ qh rh : Nat, qv = .int .u64 (qh : Int) ∧ rv = .int .u64 (rh : Int) ∧ Hid (V = qh * y1 + rh) ∧ Hid (p ≤ qh) ∧ Hid (qh ≤ HW + 1) ∧ Hid (rh < 4294967296)) (fun qv _ _ => (intOf qv).toNat)
        case atStart => exact ⟨rfl, a2, r2, rfl, rfl, D2, G3, G4, hide (by have := K2.out; have := Y1.out; omega)⟩
        case round =>
          obtain ⟨rfl, qh, rh, rfl, rfl, hU, hge, hle, hrh⟩ := hrel
          by_cases hA : 4294967296 ≤ qh
          · have c0 : (4294967296 : Int) ≤ (qh : Int) := by omega
            have hdec := hide (HD2.out qh rh hU.out (.inl hA))
            have d1 : IntKind.u64.wrap ((qh : Int) - 1) = ((qh - 1 : Nat) : Int) := by have := hdec.out; have := hle.out; unfold HW at this; rw [IntKind.wrap_u64]; omega
            have d2 : IntKind.u64.wrap ((rh : Int) + (y1 : Int)) = ((rh + y1 : Nat) : Int) := by have := hrh.out; have := Y1.out; rw [IntKind.wrap_u64]; omega
            have hU2 : Hid (V = (qh - 1) * y1 + (rh + y1)) := by
              have h1 := hU.out
              have h2 := hdec.out
              obtain ⟨t, rfl⟩ : ∃ t, qh = t + 1 := ⟨qh - 1, by omega⟩
              show _ = _
              rw [Nat.succ_mul] at h1
              rw [Nat.add_sub_cancel]
              omega
            have hge2 : Hid (p ≤ qh - 1) := hide (by have := hdec.out; omega)
            have hle2 : Hid (qh - 1 ≤ HW + 1) := hide (by have := hle.out; omega)
            have hle3 : Hid (qh - 1 ≤ HW) := hide (by have := hle.out; omega)
            have hdc := hide (show qh - 1 < qh by have := hdec.out; omega)
            obtain ⟨t, ht⟩ : ∃ t, t = qh - 1 := ⟨_, rfl⟩
            obtain ⟨x, hx⟩ : ∃ x, x = rh + y1 := ⟨_, rfl⟩
            rw [← ht] at d1 hU2 hge2 hle2 hle3 hdc
            rw [← hx] at d2 hU2
            clear ht hx
            by_cases hC : 4294967296 ≤ x
            · have c5 : (4294967296 : Int) ≤ (x : Int) := by omega
              have hqe := HX2.out t x hU2.out hge2.out hle3.out Y0.out (show HW ≤ x from hC)
              subst hqe
              go_wp2_with fail
              go_ret2
              exact ⟨by simp [HF.out], 0, rfl⟩
            · have c5 : ¬ (4294967296 : Int) ≤ (x : Int) := by omega
              have hxl := hide (show x < 4294967296 by omega)
              go_wp2_with fail
              go_roundw
              case rel => exact ⟨by first | rfl | trivial, t, x, rfl, rfl, hU2, hge2, hle2, hxl⟩
              case measure => have := hdc.out; simp only [intOf]; omega
          · obtain ⟨m, kk, s, hm, hs, c1, c2, c3⟩ := ask_u64 (qh := qh) (rh := rh) (by omega) hrh.out Y0.out U0.out
            have c0 : ¬ (4294967296 : Int) ≤ (qh : Int) := by omega
            by_cases hB : s < m
            · have c4 : (s : Int) < (m : Int) := by omega
              have hdec := hide (HD2.out qh rh hU.out (.inr (by rw [← hm, ← hs]; exact hB)))
              have d1 : IntKind.u64.wrap ((qh : Int) - 1) = ((qh - 1 : Nat) : Int) := by have := hdec.out; have := hle.out; unfold HW at this; rw [IntKind.wrap_u64]; omega
              have d2 : IntKind.u64.wrap ((rh : Int) + (y1 : Int)) = ((rh + y1 : Nat) : Int) := by have := hrh.out; have := Y1.out; rw [IntKind.wrap_u64]; omega
              have hU2 : Hid (V = (qh - 1) * y1 + (rh + y1)) := by
                have h1 := hU.out
                have h2 := hdec.out
                obtain ⟨t, rfl⟩ : ∃ t, qh = t + 1 := ⟨qh - 1, by omega⟩
                show _ = _
                rw [Nat.succ_mul] at h1
                rw [Nat.add_sub_cancel]
                omega
              have hge2 : Hid (p ≤ qh - 1) := hide (by have := hdec.out; omega)
              have hle2 : Hid (qh - 1 ≤ HW + 1) := hide (by have := hle.out; omega)
              have hle3 : Hid (qh - 1 ≤ HW) := hide (by have := hle.out; omega)
              have hdc := hide (show qh - 1 < qh by have := hdec.out; omega)
              obtain ⟨t, ht⟩ : ∃ t, t = qh - 1 := ⟨_, rfl⟩
              obtain ⟨x, hx⟩ : ∃ x, x = rh + y1 := ⟨_, rfl⟩
              rw [← ht] at d1 hU2 hge2 hle2 hle3 hdc
              rw [← hx] at d2 hU2
              clear ht hx
              by_cases hC : 4294967296 ≤ x
              · have c5 : (4294967296 : Int) ≤ (x : Int) := by omega
                have hqe := HX2.out t x hU2.out hge2.out hle3.out Y0.out (show HW ≤ x from hC)
                subst hqe
                go_wp2_with fail
                go_ret2
                exact ⟨by simp [HF.out], 0, rfl⟩
              · have c5 : ¬ (4294967296 : Int) ≤ (x : Int) := by omega
                have hxl := hide (show x < 4294967296 by omega)
                go_wp2_with fail
                go_roundw
                case rel => exact ⟨by first | rfl | trivial, t, x, rfl, rfl, hU2, hge2, hle2, hxl⟩
                case measure => have := hdc.out; simp only [intOf]; omega
            · have c4 : ¬ (s : Int) < (m : Int) := by omega
              have hqe := HE2.out qh rh hU.out hge.out (by rw [← hm, ← hs]; omega)
              subst hqe
              go_wp2_with fail
              go_ret2
              exact ⟨by simp [HF.out], 0, rfl⟩
      · have c5 : ¬ (4294967296 : Int) ≤ (x : Int) := by omega
        have hxl := hide (show x < 4294967296 by omega)
        go_wp2_with fail
        go_roundw
        case rel => exact ⟨by first | rfl | trivial, t, x, rfl, rfl, hU2, hge2, hle2, hxl⟩
        case measure => have := hdc.out; simp only [intOf]; omega
    · obtain ⟨m, kk, s, hm, hs, c1, c2, c3⟩ := ask_u64 (qh := qh) (rh := rh) (by omega) hrh.out Y0.out U1.out
      have c0 : ¬ (4294967296 : Int) ≤ (qh : Int) := by omega
      by_cases hB : s < m
      · have c4 : (s : Int) < (m : Int) := by omega
        have hdec := hide (HD1.out qh rh hU.out (.inr (by rw [← hm, ← hs]; exact hB)))
        have d1 : IntKind.u64.wrap ((qh : Int) - 1) = ((qh - 1 : Nat) : Int) := by have := hdec.out; have := hle.out; unfold HW at this; rw [IntKind.wrap_u64]; omega
        have d2 : IntKind.u64.wrap ((rh : Int) + (y1 : Int)) = ((rh + y1 : Nat) : Int) := by have := hrh.out; have := Y1.out; rw [IntKind.wrap_u64]; omega
        have hU2 : Hid (hi = (qh - 1) * y1 + (rh + y1)) := by
          have h1 := hU.out
          have h2 := hdec.out
          obtain ⟨t, rfl⟩ : ∃ t, qh = t + 1 := ⟨qh - 1, by omega⟩
          show _ = _
          rw [Nat.succ_mul] at h1
          rw [Nat.add_sub_cancel]
          omega
        have hge2 : Hid (q ≤ qh - 1) := hide (by have := hdec.out; omega)
        have hle2 : Hid (qh - 1 ≤ HW + 1) := hide (by have := hle.out; omega)
        have hle3 : Hid (qh - 1 ≤ HW) := hide (by have := hle.out; omega)
        have hdc := hide (show qh - 1 < qh by have := hdec.out; omega)
        obtain ⟨t, ht⟩ : ∃ t, t = qh - 1 := ⟨_, rfl⟩
        obtain ⟨x, hx⟩ : ∃ x, x = rh + y1 := ⟨_, rfl⟩
        rw [← ht] at d1 hU2 hge2 hle2 hle3 hdc
        rw [← hx] at d2 hU2
        clear ht hx
        by_cases hC : 4294967296 ≤ x
        · have c5 : (4294967296 : Int) ≤ (x : Int) := by omega
          have hqe := HX1.out t x hU2.out hge2.out hle3.out Y0.out (show HW ≤ x from hC)
          subst hqe
          go_wp2_with fail
          clear hA c0 d1 d2 hdec hdc hU hle hrh hC c5 hm hs hB c1 c2 c3 c4
          go_loopw [18, 16] (fun qv rv wr => w1 = wr ∧ ∃ qh rh : Nat, qv = .int .u64 (qh : Int) ∧ rv = .int .u64 (rh : Int) ∧ Hid (V = qh * y1 + rh) ∧ Hid (p ≤ qh) ∧ Hid (qh ≤ HW + 1) ∧ Hid (rh < 4294967296)) (fun qv _ _ => (intOf qv).toNat)
          case atStart => exact ⟨rfl, a2, r2, rfl, rfl, D2, G3, G4, hide (by have := K2.out; have := Y1.out; omega)⟩
          case round =>
            obtain ⟨rfl, qh, rh, rfl, rfl, hU, hge, hle, hrh⟩ := hrel
            by_cases hA : 4294967296 ≤ qh
            · have c0 : (4294967296 : Int) ≤ (qh : Int) := by omega
              have hdec := hide (HD2.out qh rh hU.out (.inl hA))
              have d1 : IntKind.u64.wrap ((qh : Int) - 1) = ((qh - 1 : Nat) : Int) := by have := hdec.out; have := hle.out; unfold HW at this; rw [IntKind.wrap_u64]; omega
              have d2 : IntKind.u64.wrap ((rh : Int) + (y1 : Int)) = ((rh + y1 : Nat) : Int) := by have := hrh.out; have := Y1.out; rw [IntKind.wrap_u64]; omega
              have hU2 : Hid (V = (qh - 1) * y1 + (rh + y1)) := by
                have h1 := hU.out
                have h2 := hdec.out
                obtain ⟨t, rfl⟩ : ∃ t, qh = t + 1 := ⟨qh - 1, by omega⟩
                show _ = _
                rw [Nat.succ_mul] at h1
                rw [Nat.add_sub_cancel]
                omega
              have hge2 : Hid (p ≤ qh - 1) := hide (by have := hdec.out; omega)
              have hle2 : Hid (qh - 1 ≤ HW + 1) := hide (by have := hle.out; omega)
              have hle3 : Hid (qh - 1 ≤ HW) := hide (by have := hle.out; omega)
              have hdc := hide (show qh - 1 < qh by have := hdec.out; omega)
              obtain ⟨t, ht⟩ : ∃ t, t = qh - 1 := ⟨_, rfl⟩
              obtain ⟨x, hx⟩ : ∃ x, x = rh + y1 := ⟨_, rfl⟩
              rw [← ht] at d1 hU2 hge2 hle2 hle3 hdc
              rw [← hx] at d2 hU2
              clear ht hx
              by_cases hC : 4294967296 ≤ x
              · have c5 : (4294967296 : Int) ≤ (x : Int) := by omega
                have hqe := HX2.out t x hU2.out hge2.out hle3.out Y0.out (show HW ≤ x from hC)
                subst hqe
                go_wp2_with fail
                go_ret2
                exact ⟨by simp [HF.out], 0, rfl⟩
              · have c5 : ¬ (4294967296 : Int) ≤ (x : Int) := by omega
                have hxl := hide (show x < 4294967296 by omega)
                go_wp2_with fail
                go_roundw
                case rel => exact ⟨by first | rfl | trivial, t, x, rfl, rfl, hU2, hge2, hle2, hxl⟩
                case measure => have := hdc.out; simp only [intOf]; omega
            · obtain ⟨m, kk, s, hm, hs, c1, c2, c3⟩ := ask_u64 (qh := qh) (rh := rh) (by omega) hrh.out Y0.out U0.out
              have c0 : ¬ (4294967296 : Int) ≤ (qh : Int) := by omega
              by_cases hB : s < m
              · have c4 : (s : Int) < (m : Int) := by omega
                have hdec := hide (HD2.out qh rh hU.out (.inr (by rw [← hm, ← hs]; exact hB)))
                have d1 : IntKind.u64.wrap ((qh : Int) - 1) = ((qh - 1 : Nat) : Int) := by have := hdec.out; have := hle.out; unfold HW at this; rw [IntKind.wrap_u64]; omega
                have d2 : IntKind.u64.wrap ((rh : Int) + (y1 : Int)) = ((rh + y1 : Nat) : Int) := by have := hrh.out; have := Y1.out; rw [IntKind.wrap_u64]; omega
                have hU2 : Hid (V = (qh - 1) * y1 + (rh + y1)) := by
                  have h1 := hU.out
                  have h2 := hdec.out
                  obtain ⟨t, rfl⟩ : ∃ t, qh = t + 1 := ⟨qh - 1, by omega⟩
                  show _ = _
                  rw [Nat.succ_mul] at h1
                  rw [Nat.add_sub_cancel]
                  omega
                have hge2 : Hid (p ≤ qh - 1) := hide (by have := hdec.out; omega)
                have hle2 : Hid (qh - 1 ≤ HW + 1) := hide (by have := hle.out; omega)
                have hle3 : Hid (qh - 1 ≤ HW) := hide (by have := hle.out; omega)
                have hdc := hide (show qh - 1 < qh by have := hdec.out; omega)
                obtain ⟨t, ht⟩ : ∃ t, t = qh - 1 := ⟨_, rfl⟩
                obtain ⟨x, hx⟩ : ∃ x, x = rh + y1 := ⟨_, rfl⟩
                rw [← ht] at d1 hU2 hge2 hle2 hle3 hdc
                rw [← hx] at d2 hU2
                clear ht hx
                by_cases hC : 4294967296 ≤ x
                · have c5 : (4294967296 : Int) ≤ (x : Int) := by omega
                  have hqe := HX2.out t x hU2.out hge2.out hle3.out Y0.out (show HW ≤ x from hC)
                  subst hqe
                  go_wp2_with fail
                  go_ret2
                  exact ⟨by simp [HF.out], 0, rfl⟩
                · have c5 : ¬ (4294967296 : Int) ≤ (x : Int) := by omega
                  have hxl := hide (show x < 4294967296 by omega)
                  go_wp2_with fail
                  go_roundw
                  case rel => exact ⟨by first | rfl | trivial, t, x, rfl, rfl, hU2, hge2, hle2, hxl⟩
                  case measure => have := hdc.out; simp only [intOf]; omega
              · have c4 : ¬ (s : Int) < (m : Int) := by omega
                have hqe := HE2.out qh rh hU.out hge.out (by rw [← hm, ← hs]; omega)
                subst hqe
                go_wp2_with fail
                go_ret2
                exact ⟨by simp [HF.out], 0, rfl⟩
        · have c5 : ¬ (4294967296 : Int) ≤ (x : Int) := by omega
          have hxl := hide (show x < 4294967296 by omega)
          go_wp2_with fail
          go_roundw
          case rel => exact ⟨by first | rfl | trivial, t, x, rfl, rfl, hU2, hge2, hle2, hxl⟩
          case measure => have := hdc.out; simp only [intOf]; omega
      · have c4 : ¬ (s : Int) < (m : Int) := by omega
        have hqe := HE1.out qh rh hU.out hge.out (by rw [← hm, ← hs]; omega)
        subst hqe
        go_wp2_with fail
        clear hA hB c0 c1 c2 c3 c4 hm hs
        go_loopw [18, 16] (fun qv rv wr => w1 = wr ∧ ∃ qh rh : Nat, qv = .int .u64 (qh : Int) ∧ rv = .int .u64 (rh : Int) ∧ Hid (V = qh * y1 + rh) ∧ Hid (p ≤ qh) ∧ Hid (qh ≤ HW + 1) ∧ Hid (rh < 4294967296)) (fun qv _ _ => (intOf qv).toNat)
        case atStart => exact ⟨rfl, a2, r2, rfl, rfl, D2, G3, G4, hide (by have := K2.out; have := Y1.out; omega)⟩
        case round =>
          obtain ⟨rfl, qh, rh, rfl, rfl, hU, hge, hle, hrh⟩ := hrel
          by_cases hA : 4294967296 ≤ qh
          · have c0 : (4294967296 : Int) ≤ (qh : Int) := by omega
            have hdec := hide (HD2.out qh rh hU.out (.inl hA))
            have d1 : IntKind.u64.wrap ((qh : Int) - 1) = ((qh - 1 : Nat) : Int) := by have := hdec.out; have := hle.out; unfold HW at this; rw [IntKind.wrap_u64]; omega
            have d2 : IntKind.u64.wrap ((rh : Int) + (y1 : Int)) = ((rh + y1 : Nat) : Int) := by have := hrh.out; have := Y1.out; rw [IntKind.wrap_u64]; omega
            have hU2 : Hid (V = (qh - 1) * y1 + (rh + y1)) := by
              have h1 := hU.out
              have h2 := hdec.out
              obtain ⟨t, rfl⟩ : ∃ t, qh = t + 1 := ⟨qh - 1, by omega⟩
              show _ = _
              rw [Nat.succ_mul] at h1
              rw [Nat.add_sub_cancel]
              omega
            have hge2 : Hid (p ≤ qh - 1) := hide (by have := hdec.out; omega)
            have hle2 : Hid (qh - 1 ≤ HW + 1) := hide (by have := hle.out; omega)
            have hle3 : Hid (qh - 1 ≤ HW) := hide (by have := hle.out; omega)
            have hdc := hide (show qh - 1 < qh by have := hdec.out; omega)
            obtain ⟨t, ht⟩ : ∃ t, t = qh - 1 := ⟨_, rfl⟩
            obtain ⟨x, hx⟩ : ∃ x, x = rh + y1 := ⟨_, rfl⟩
            rw [← ht] at d1 hU2 hge2 hle2 hle3 hdc
            rw [← hx] at d2 hU2
            clear ht hx
            by_cases hC : 4294967296 ≤ x
            · have c5 : (4294967296 : Int) ≤ (x : Int) := by omega
              have hqe := HX2.out t x hU2.out hge2.out hle3.out Y0.out (show HW ≤ x from hC)
              subst hqe
              go_wp2_with fail
              go_ret2
              exact ⟨by simp [HF.out], 0, rfl⟩
            · have c5 : ¬ (4294967296 : Int) ≤ (x : Int) := by omega
              have hxl := hide (show x < 4294967296 by omega)
              go_wp2_with fail
              go_roundw
              case rel => exact ⟨by first | rfl | trivial, t, x, rfl, rfl, hU2, hge2, hle2, hxl⟩
              case measure => have := hdc.out; simp only [intOf]; omega
          · obtain ⟨m, kk, s, hm, hs, c1, c2, c3⟩ := ask_u64 (qh := qh) (rh := rh) (by omega) hrh.out Y0.out U0.out
            have c0 : ¬ (4294967296 : Int) ≤ (qh : Int) := by omega
            by_cases hB : s < m
            · have c4 : (s : Int) < (m : Int) := by omega
              have hdec := hide (HD2.out qh rh hU.out (.inr (by rw [← hm, ← hs]; exact hB)))
              have d1 : IntKind.u64.wrap ((qh : Int) - 1) = ((qh - 1 : Nat) : Int) := by have := hdec.out; have := hle.out; unfold HW at this; rw [IntKind.wrap_u64]; omega
              have d2 : IntKind.u64.wrap ((rh : Int) + (y1 : Int)) = ((rh + y1 : Nat) : Int) := by have := hrh.out; have := Y1.out; rw [IntKind.wrap_u64]; omega
              have hU2 : Hid (V = (qh - 1) * y1 + (rh + y1)) := by
                have h1 := hU.out
                have h2 := hdec.out
                obtain ⟨t, rfl⟩ : ∃ t, qh = t + 1 := ⟨qh - 1, by omega⟩
                show _ = _
                rw [Nat.succ_mul] at h1
                rw [Nat.add_sub_cancel]
                omega
              have hge2 : Hid (p ≤ qh - 1) := hide (by have := hdec.out; omega)
              have hle2 : Hid (qh - 1 ≤ HW + 1) := hide (by have := hle.out; omega)
              have hle3 : Hid (qh - 1 ≤ HW) := hide (by have := hle.out; omega)
              have hdc := hide (show qh - 1 < qh by have := hdec.out; omega)
              obtain ⟨t, ht⟩ : ∃ t, t = qh - 1 := ⟨_, rfl⟩
              obtain ⟨x, hx⟩ : ∃ x, x = rh + y1 := ⟨_, rfl⟩
              rw [← ht] at d1 hU2 hge2 hle2 hle3 hdc
              rw [← hx] at d2 hU2
              clear ht hx
              by_cases hC : 4294967296 ≤ x
              · have c5 : (4294967296 : Int) ≤ (x : Int) := by omega
                have hqe := HX2.out t x hU2.out hge2.out hle3.out Y0.out (show HW ≤ x from hC)
                subst hqe
                go_wp2_with fail
                go_ret2
                exact ⟨by simp [HF.out], 0, rfl⟩
              · have c5 : ¬ (4294967296 : Int) ≤ (x : Int) := by omega
                have hxl := hide (show x < 4294967296 by omega)
                go_wp2_with fail
                go_roundw
                case rel => exact ⟨by first | rfl | trivial, t, x, rfl, rfl, hU2, hge2, hle2, hxl⟩
                case measure => have := hdc.out; simp only [intOf]; omega
            · have c4 : ¬ (s : Int) < (m : Int) := by omega
              have hqe := HE2.out qh rh hU.out hge.out (by rw [← hm, ← hs]; omega)
              subst hqe
              go_wp2_with fail
              go_ret2
              exact ⟨by simp [HF.out], 0, rfl⟩
end Go.Proofs.YtjojjicpdfmopaaGreatDoor

namespace Go.Proofs.YtjojjicpdfmopaaGreatDoor
open Go Go.RowKit
set_option linter.unusedVariables false

theorem nlz_any (x : Nat) (hx : x < W64) (w : World) : Calls Tryz.prog 184 #[.int .u64 (x : Int)] w fun e w' => e = .returned (.int .u64 ((64 - Lib.bitLen x : Nat) : Int)) ∧ ∃ n, w' = w.drewN n := by
  have hx1 : x < 18446744073709551616 := hx
  have hl := Lib.bitLen_le x 64 (Nat.le_refl _) hx
  have HL : ∀ W : World, Calls Tryz.prog 230 #[.int .u64 (x : Int)] W fun e w' => e = .returned (.int .i64 ((64 - Lib.bitLen x : Nat) : Int)) ∧ w' = W := by
    intro W
    refine (Tryz.bits_LeadingZeros (x : Int) W (by omega) (by omega)).mono ?_
    rintro e w' ⟨rfl, rfl⟩
    exact ⟨by rw [show ((x : Int)).toNat = x from rfl]; congr 2; omega, rfl⟩
  obtain ⟨s, hs⟩ : ∃ s, s = 64 - Lib.bitLen x := ⟨_, rfl⟩
  rw [← hs] at HL ⊢
  have hs2 : s ≤ 64 := by omega
  have f1 : IntKind.u64.wrap (s : Int) = (s : Int) := wrap_nat (by omega)
  clear hl hs
  go_enter Tryz.func184, Tryz.ntmps184
  go_wp2_with fail
  refine (HL _).mono ?_
  rintro e w1 ⟨rfl, rfl⟩
  go_wp2_with fail
  go_ret
  exact ⟨rfl, 0, rfl⟩

set_option maxRecDepth 100000 in
theorem bits_divN (hi lo y : Nat) (hhi : hi < y) (hlo : lo < W64) (hy : y < W64) (htop : 9223372036854775808 ≤ y) (w : World) :
    Calls Tryz.prog 201 #[.int .u64 (hi : Int), .int .u64 (lo : Int), .int .u64 (y : Int)] w fun e w' => e = .returned (.tuple #[.int .u64 (((hi * W64 + lo) / y : Nat) : Int), .int .u64 (((hi * W64 + lo) % y : Nat) : Int)]) ∧ ∃ n, w' = w.drewN n := by
  by_cases h0 : hi = 0
  · subst h0
    rw [Nat.zero_mul, Nat.zero_add]
    exact bits_div lo y hlo hy (by omega) w
  · have hc := div64_norm hi lo y hhi hlo hy htop h0
    have hx1 : lo < 18446744073709551616 := hlo
    have hy1 : y < 18446744073709551616 := hy
    have hh1 : hi < 18446744073709551616 := by omega
    have hq : (hi * W64 + lo) / y < 18446744073709551616 := by
      apply Nat.div_lt_of_lt_mul
      have : (hi + 1) * W64 ≤ y * W64 := Nat.mul_le_mul_right _ hhi
      rw [Nat.add_mul] at this
      unfold W64 at *
      omega
    have hr : (hi * W64 + lo) % y < 18446744073709551616 := Nat.lt_trans (Nat.mod_lt _ (by omega)) hy1
    generalize (hi * W64 + lo) / y = q at hq hc ⊢
    generalize (hi * W64 + lo) % y = r at hr hc ⊢
    have f1 := wrap_nat hq
    have f2 := wrap_nat hr
    clear hhi htop h0 hlo hy
    go_enter Tryz.func201, Tryz.ntmps201
    go_wp2_with fail
    refine (hc _).mono ?_
    rintro e w1 ⟨rfl, n, rfl⟩
    go_wp2_with fail
    go_ret2
    exact ⟨by simp, n, rfl⟩

theorem xor_all (u : Nat) (hu : u < 18446744073709551616) : bits BinOp.xor IntKind.u64 IntKind.u64.max (u : Int) = ((18446744073709551615 - u : Nat) : Int) := by
  have h2 : (BitVec.ofInt 64 (u : Int)) = BitVec.ofNat 64 u := by rw [BitVec.ofInt_natCast]
  have h1 : BitVec.ofInt 64 IntKind.u64.max = BitVec.allOnes 64 := by decide +kernel
  show IntKind.u64.wrap ((BitVec.ofInt 64 IntKind.u64.max ^^^ BitVec.ofInt 64 (u : Int)).toNat : Int) = _
  rw [h1, h2, ← BitVec.not_def]
  rw [BitVec.toNat_not, BitVec.toNat_ofNat, Nat.mod_eq_of_lt (by omega), IntKind.wrap_u64]
  omega

set_option maxRecDepth 100000 in
theorem recip_any (y s u : Nat) (hy : y < W64) (h0 : y ≠ 0) (hs : s = 64 - Lib.bitLen y) (hu : u = y * 2 ^ s) (w : World) :
    Calls Tryz.prog 202 #[.int .u64 (y : Int)] w fun e w' => (∃ v e0 : Nat, e = .returned (.int .u64 (v : Int)) ∧ v < W64 ∧ (v + W64) * u + 1 + e0 = W64 * W64 ∧ e0 < u) ∧ ∃ n, w' = w.drewN n := by
  have hy1 : y < 18446744073709551616 := hy
  obtain ⟨t1, t2⟩ := norm_top hy h0
  rw [← hs, ← hu] at t1 t2
  have t2' : u < 18446744073709551616 := t2
  have hs2 : s ≤ 63 := by have := (bitLen_bd hy h0).1; omega
  have HN := hide (nlz_any y hy)
  rw [← hs] at HN
  have f1 : IntKind.u64.wrap ((y : Int) * 2 ^ s) = (u : Int) := by
    have : (y : Int) * 2 ^ s = ((y * 2 ^ s : Nat) : Int) := by simp
    rw [this, ← hu]
    exact wrap_nat t2'
  have f2 := xor_all u t2'
  have f3 : IntKind.u64.signed = false := rfl
  have f4 : ¬ (64 : Int) ≤ (s : Int) := by omega
  obtain ⟨c, hc⟩ : ∃ c, c = 18446744073709551615 - u := ⟨_, rfl⟩
  rw [← hc] at f2
  have HD := hide (bits_divN c 18446744073709551615 u (by omega) (by decide) t2 t1)
  have e1 : c * W64 + 18446744073709551615 + u * W64 + 1 = W64 * W64 := by unfold W64; omega
  have e2 : u * ((c * W64 + 18446744073709551615) / u) + (c * W64 + 18446744073709551615) % u = c * W64 + 18446744073709551615 := Nat.div_add_mod _ _
  have e3 : (c * W64 + 18446744073709551615) % u < u := Nat.mod_lt _ (by omega)
  have e4 : (c * W64 + 18446744073709551615) / u < W64 := by
    apply Nat.div_lt_of_lt_mul
    have : (c + 1) * W64 ≤ u * W64 := Nat.mul_le_mul_right _ (by omega)
    rw [Nat.add_mul] at this
    unfold W64 at *
    omega
  generalize (c * W64 + 18446744073709551615) / u = v at HD e2 e4
  generalize (c * W64 + 18446744073709551615) % u = r at HD e2 e3
  have E := hide (show (v + W64) * u + 1 + r = W64 * W64 by rw [Nat.add_mul, Nat.mul_comm v, Nat.mul_comm W64 u]; omega)
  have E3 := hide e3
  have E4 := hide e4
  clear hs hu hy h0 hy1 t1 t2 t2' hc e1 e2 e3 e4 hs2
  go_enter Tryz.func202, Tryz.ntmps202
  go_wp2_with fail
  refine (HN.out _).mono ?_
  rintro e w1 ⟨rfl, n1, rfl⟩
  go_wp2_with fail
  refine (HD.out _).mono ?_
  rintro e w2 ⟨rfl, n2, rfl⟩
  go_wp2_with fail
  go_ret
  exact ⟨⟨v, r, rfl, E4.out, E.out, E3.out⟩, n1 + n2, rfl⟩

/-- the sums of the division of two words by one -/
theorem dw_facts {X1 X0 u v e0 t1 t0 a cc q d1 d0 : Nat} (h1 : X1 < u) (h0 : X0 < W64) (hu : u < W64) (hv : (v + W64) * u + 1 + e0 = W64 * W64) (he : e0 < u) (ht1 : t1 = v * X1 / W64) (ht0 : t0 = v * X1 % W64)
    (ha : a = (t0 + X0) % W64) (hc : cc = (t0 + X0) / W64) (hq : q = t1 + X1 + cc) (hd1 : d1 = u * q / W64) (hd0 : d0 = u * q % W64) :
    q < W64 ∧ u * q ≤ X1 * W64 + X0 ∧ X1 * W64 + X0 < u * q + W64 + u ∧ d1 ≤ X1 ∧ cc ≤ 1 ∧ d0 < W64 ∧ t0 < W64 := by
  have e1 : q * W64 + a = (v + W64) * X1 + X0 := by
    rw [Nat.add_mul, Nat.mul_comm W64 X1]
    generalize v * X1 = m at ht1 ht0
    unfold W64 at *
    omega
  have la : a < W64 := by rw [ha]; exact Nat.mod_lt _ (by decide)
  obtain ⟨b1, b2⟩ := divWW_bound (B := W64) (d := u) (by decide) (by omega) h1 h0 hv he e1 la
  have hN : X1 * W64 + X0 < u * W64 := by
    have : (X1 + 1) * W64 ≤ u * W64 := Nat.mul_le_mul_right _ h1
    rw [Nat.add_mul] at this
    unfold W64 at *
    omega
  have hq3 : q < W64 := by
    have : u * q < u * W64 := Nat.lt_of_le_of_lt b1 hN
    exact Nat.lt_of_mul_lt_mul_left this
  refine ⟨hq3, b1, b2, ?_, ?_, ?_, ?_⟩
  · rw [hd1]
    apply Nat.le_of_lt_succ
    apply Nat.div_lt_of_lt_mul
    rw [Nat.mul_succ]
    unfold W64 at *
    omega
  · rw [hc]
    have : t0 < W64 := by rw [ht0]; exact Nat.mod_lt _ (by decide)
    unfold W64 at *
    omega
  · rw [hd0]; exact Nat.mod_lt _ (by decide)
  · rw [ht0]; exact Nat.mod_lt _ (by decide)
/-- shifted alike: the same quotient; the rest is shifted -/
theorem dw_shift {X y N u s Q R : Nat} (hN : N = X * 2 ^ s) (hu : u = y * 2 ^ s) (hy : y ≠ 0) (h : N = u * Q + R) (hR : R < u) : X / y = Q ∧ X % y = R / 2 ^ s := by
  have hp : 0 < 2 ^ s := Nat.pow_pos (by omega)
  have hQ : N / u = Q := by rw [h]; exact Nat.div_eq_of_lt_le (by rw [Nat.mul_comm]; omega) (by rw [Nat.succ_mul, Nat.mul_comm Q u]; omega)
  have h1 : N / u = X / y := by rw [hN, hu, Nat.mul_comm y, Nat.mul_comm X, Nat.mul_div_mul_left _ _ hp]
  have hM : N % u = R := by rw [h, Nat.mul_add_mod, Nat.mod_eq_of_lt hR]
  have h2 : N % u = X % y * 2 ^ s := by rw [hN, hu, Nat.mul_comm y, Nat.mul_comm X, Nat.mul_mod_mul_left, Nat.mul_comm]
  refine ⟨by omega, ?_⟩
  rw [← hM, h2, Nat.mul_div_cancel _ hp]
/-- the two words, shifted -/
theorem dw_words {x1 x0 y s u X1 X0 : Nat} (hs : s ≤ 63) (hx1 : x1 < y) (hx0 : x0 < W64) (hu : u = y * 2 ^ s) (hul : u < W64) (hX1 : X1 = x1 * 2 ^ s + x0 / 2 ^ (64 - s)) (hX0 : X0 = x0 * 2 ^ s % W64) :
    X1 * W64 + X0 = (x1 * W64 + x0) * 2 ^ s ∧ X1 < u ∧ X0 < W64 ∧ x0 / 2 ^ (64 - s) < 2 ^ s := by
  have hp : 0 < 2 ^ s := Nat.pow_pos (by omega)
  have hp2 : 0 < 2 ^ (64 - s) := Nat.pow_pos (by omega)
  have hW : W64 = 2 ^ s * 2 ^ (64 - s) := by rw [← Nat.pow_add, show s + (64 - s) = 64 by omega]; rfl
  have hd : x0 * 2 ^ s / W64 = x0 / 2 ^ (64 - s) := by
    rw [hW, Nat.mul_comm x0, Nat.mul_div_mul_left _ _ hp]
  have e1 : X1 * W64 + X0 = (x1 * W64 + x0) * 2 ^ s := by
    have := Nat.div_add_mod (x0 * 2 ^ s) W64
    rw [hd, ← hX0] at this
    rw [hX1, Nat.add_mul, Nat.add_mul, Nat.mul_right_comm, Nat.add_assoc, ← this, Nat.mul_comm W64]
  have hX0l : X0 < W64 := by rw [hX0]; exact Nat.mod_lt _ (by decide)
  refine ⟨e1, ?_, hX0l, ?_⟩
  · have a1 : (x1 * W64 + x0) * 2 ^ s < y * W64 * 2 ^ s := by
      apply Nat.mul_lt_mul_of_pos_right _ hp
      have : (x1 + 1) * W64 ≤ y * W64 := Nat.mul_le_mul_right _ hx1
      rw [Nat.add_mul] at this
      unfold W64 at *
      omega
    have a2 : X1 * W64 < u * W64 := by
      rw [hu, Nat.mul_right_comm y]
      omega
    exact Nat.lt_of_mul_lt_mul_right a2
  · apply Nat.div_lt_of_lt_mul
    rw [Nat.mul_comm, ← hW]
    exact hx0
theorem or_shift {a b s : Nat} (hb : b < 2 ^ s) (ha : a * 2 ^ s + b < 18446744073709551616) : bits BinOp.or IntKind.u64 ((a * 2 ^ s : Nat) : Int) (b : Int) = ((a * 2 ^ s + b : Nat) : Int) := by
  rw [Go.bits_or_u64_nat _ _ (by omega) (by omega), ← Nat.shiftLeft_eq, ← Nat.shiftLeft_add_eq_or_of_lt hb]

set_option maxHeartbeats 1000000 in
set_option maxRecDepth 100000 in
/-- behind the shift -/
theorem dw_core (X1 X0 u v e0 : Nat) (h1 : X1 < u) (h0 : X0 < W64) (hu : u < W64) (htop : 9223372036854775808 ≤ u) (hvl : v < W64) (hv : (v + W64) * u + 1 + e0 = W64 * W64) (he : e0 < u) :
    ∃ t1 t0 a cc q d1 d0 r0 b r1 b2 : Nat, t1 = v * X1 / W64 ∧ t0 = v * X1 % W64 ∧ t1 < W64 ∧ t0 < W64 ∧ (t0 + X0 + 0) % W64 = a ∧ (t0 + X0 + 0) / W64 = cc ∧ cc ≤ 1 ∧ (t1 + X1 + cc) % W64 = q ∧ (t1 + X1 + cc) / W64 = 0 ∧ q < W64 ∧
      d1 = u * q / W64 ∧ d0 = u * q % W64 ∧ d1 < W64 ∧ d0 < W64 ∧ (X0 + W64 - d0 - 0) % W64 = r0 ∧ (if X0 < d0 + 0 then 1 else 0 : Nat) = b ∧ b ≤ 1 ∧ (X1 + W64 - d1 - b) % W64 = r1 ∧ (if X1 < d1 + b then 1 else 0 : Nat) = b2 ∧
      r0 < W64 ∧ ((r1 = 0 ∧ X1 * W64 + X0 = u * q + r0) ∨ (r1 = 1 ∧ X1 * W64 + X0 = u * q + (W64 + r0) ∧ r0 < u)) := by
  obtain ⟨t1, ht1⟩ : ∃ t1, t1 = v * X1 / W64 := ⟨_, rfl⟩
  obtain ⟨t0, ht0⟩ : ∃ t0, t0 = v * X1 % W64 := ⟨_, rfl⟩
  obtain ⟨a, ha⟩ : ∃ a, a = (t0 + X0) % W64 := ⟨_, rfl⟩
  obtain ⟨cc, hc⟩ : ∃ cc, cc = (t0 + X0) / W64 := ⟨_, rfl⟩
  obtain ⟨q, hq⟩ : ∃ q, q = t1 + X1 + cc := ⟨_, rfl⟩
  obtain ⟨d1, hd1⟩ : ∃ d1, d1 = u * q / W64 := ⟨_, rfl⟩
  obtain ⟨d0, hd0⟩ : ∃ d0, d0 = u * q % W64 := ⟨_, rfl⟩
  obtain ⟨k1, k2, k3, k4, k5, k6, k7⟩ := dw_facts h1 h0 hu hv he ht1 ht0 ha hc hq hd1 hd0
  have kt : t1 < W64 := by omega
  have hdd : u * q = d1 * W64 + d0 := by rw [hd1, hd0]; exact (Nat.div_add_mod' _ _).symm
  refine ⟨t1, t0, a, cc, q, d1, d0, _, _, _, _, ht1, ht0, kt, k7, by rw [Nat.add_zero, ← ha], by rw [Nat.add_zero, ← hc], k5, by rw [← hq]; exact Nat.mod_eq_of_lt k1, by rw [← hq]; exact Nat.div_eq_of_lt k1, k1, hd1, hd0, by omega, k6, rfl, rfl, ?_, rfl, rfl, Nat.mod_lt _ (by decide), ?_⟩
  · split <;> omega
  · clear ht1 ht0 ha hc hq hd1 hd0
    generalize u * q = m at k2 k3 hdd ⊢
    unfold W64 at *
    by_cases hb : X0 < d0 + 0
    · rw [if_pos hb]
      omega
    · rw [if_neg hb]
      omega
end Go.Proofs.YtjojjicpdfmopaaGreatDoor
