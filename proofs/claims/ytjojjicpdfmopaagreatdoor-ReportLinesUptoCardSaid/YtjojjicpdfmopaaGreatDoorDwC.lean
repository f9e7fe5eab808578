/- Great numbers: two words divided by one, by the reciprocal. -/
import Derived.Test.YtjojjicpdfmopaaGreatDoorDwX
namespace Go.Proofs.YtjojjicpdfmopaaGreatDoor
open Go Go.RowKit
set_option linter.unusedVariables false
set_option linter.unusedSimpArgs false

set_option maxHeartbeats 2000000 in
set_option maxRecDepth 100000 in
theorem divWW_any (x1 x0 y s u v e0 : Nat) (hx1 : x1 < y) (hx0 : x0 < W64) (hy : y < W64) (hs : s = 64 - Lib.bitLen y) (hu : u = y * 2 ^ s) (hvl : v < W64) (hv : (v + W64) * u + 1 + e0 = W64 * W64) (he : e0 < u) (w : World) :
    Calls Tryz.prog 203 #[.int .u64 (x1 : Int), .int .u64 (x0 : Int), .int .u64 (y : Int), .int .u64 (v : Int)] w fun e w' => e = .returned (.tuple #[.int .u64 (((x1 * W64 + x0) / y : Nat) : Int), .int .u64 (((x1 * W64 + x0) % y : Nat) : Int)]) ∧ ∃ n, w' = w.drewN n := by
  have hy0 : y ≠ 0 := by omega
  obtain ⟨top1, top2⟩ := norm_top hy hy0
  rw [← hs, ← hu] at top1 top2
  have hs2 : s ≤ 63 := by have := (bitLen_bd hy hy0).1; omega
  obtain ⟨X1, hX1⟩ : ∃ X1, X1 = x1 * 2 ^ s + x0 / 2 ^ (64 - s) := ⟨_, rfl⟩
  obtain ⟨X0, hX0⟩ : ∃ X0, X0 = x0 * 2 ^ s % W64 := ⟨_, rfl⟩
  obtain ⟨hN, hX1l, hX0l, hsm⟩ := dw_words hs2 hx1 hx0 hu top2 hX1 hX0
  obtain ⟨t1, t0, a, cc, q, d1, d0, r0, b, r1, b2, g1, g2, g3, g4, g5, g6, g7, g8, g9, g10, g11, g12, g13, g14, g15, g16, g17, g18, g19, g20, g21⟩ := dw_core X1 X0 u v e0 hX1l hX0l top2 top1 hvl hv he
  have HM1 := hide (fun W => bits_mul v X1 hvl (Nat.lt_trans hX1l top2) W)
  rw [← g1, ← g2] at HM1
  have HA1 := hide (fun W => bitsAdd_any t0 X0 0 a cc g4 hX0l (by omega) g5 g6 W)
  have HA2 := hide (fun W => bitsAdd_any t1 X1 cc q 0 g3 (Nat.lt_trans hX1l top2) g7 g8 g9 W)
  have HM2 := hide (fun W => bits_mul u q top2 g10 W)
  rw [← g11, ← g12] at HM2
  have HS1 := hide (fun W => bitsSub_any X0 d0 0 r0 b hX0l g14 (by omega) g15 g16 W)
  have HS2 := hide (fun W => bitsSub_any X1 d1 b r1 b2 (Nat.lt_trans hX1l top2) g13 g17 g18 g19 W)
  have HL := hide (nlz_any y hy)
  rw [← hs] at HL
  have hNl : X1 * W64 + X0 < u * W64 := by
    have : (X1 + 1) * W64 ≤ u * W64 := Nat.mul_le_mul_right _ hX1l
    rw [Nat.add_mul] at this
    unfold W64 at *
    omega
  have HE := hide (fun (Q R : Nat) (h : X1 * W64 + X0 = u * Q + R) (hR : R < u) => dw_shift (X := x1 * W64 + x0) (y := y) (N := X1 * W64 + X0) (u := u) (s := s) hN hu hy0 h hR)
  have HQ := hide (fun (Q R : Nat) (h : X1 * W64 + X0 = u * Q + R) => show Q < W64 from by
    have : u * Q < u * W64 := by omega
    exact Nat.lt_of_mul_lt_mul_left this)
  have T63 := hide top1
  have hu1 : u < 18446744073709551616 := top2
  have hy1 : y < 18446744073709551616 := hy
  have hx01 : x0 < 18446744073709551616 := hx0
  have hr01 : r0 < 18446744073709551616 := g20
  have f1 : IntKind.u64.wrap ((y : Int) * 2 ^ s) = (u : Int) := by
    have : (y : Int) * 2 ^ s = ((y * 2 ^ s : Nat) : Int) := by simp
    rw [this, ← hu]
    exact wrap_nat hu1
  have hX11 : x1 * 2 ^ s + x0 / 2 ^ (64 - s) < 18446744073709551616 := by rw [← hX1]; exact Nat.lt_trans hX1l top2
  obtain ⟨A, hA⟩ : ∃ A, A = x1 * 2 ^ s := ⟨_, rfl⟩
  obtain ⟨B, hB⟩ : ∃ B, B = x0 / 2 ^ (64 - s) := ⟨_, rfl⟩
  have f2 : IntKind.u64.wrap ((x1 : Int) * 2 ^ s) = (A : Int) := by
    have : (x1 : Int) * 2 ^ s = ((x1 * 2 ^ s : Nat) : Int) := by simp
    rw [this, ← hA]
    exact wrap_nat (by rw [hA]; omega)
  have f3 : (x0 : Int) / 2 ^ (64 - s) = (B : Int) := by rw [hB]; simp [Int.natCast_ediv]
  have f4 : bits BinOp.or IntKind.u64 (A : Int) (B : Int) = (X1 : Int) := by
    rw [hA, hB, or_shift hsm hX11, hX1]
  have f5 : IntKind.u64.wrap ((x0 : Int) * 2 ^ s) = (X0 : Int) := by
    have : (x0 : Int) * 2 ^ s = ((x0 * 2 ^ s : Nat) : Int) := by simp
    rw [this, hX0, IntKind.wrap_u64]
    unfold W64
    omega
  have f6 : ¬ (64 : Int) ≤ (s : Int) := by omega
  have g21 := hide g21
  have SH := hide hs2
  have Z : Hid (s = 0 → X1 = x1 ∧ X0 = x0) := by
    intro h
    subst h
    constructor
    · rw [hX1]; simp; exact hx01
    · rw [hX0]; simp; exact Nat.mod_eq_of_lt hx0
  clear hs hu hvl hv he hx1 hx0 hy hy0 top1 top2 hX1 hX0 hN hX1l hX0l hsm g1 g2 g3 g4 g5 g6 g7 g8 g9 g10 g11 g12 g13 g14 g15 g16 g17 g18 g19 g20 hNl hX11 hA hB hs2
  by_cases hs0 : s = 0
  · subst hs0
    obtain ⟨z1, z2⟩ := Z.out rfl
    subst z1 z2
    have f1 : u = y := by have := f1; simp at this; rw [wrap_nat hy1] at this; omega
    subst f1
    clear f2 f3 f4 f5 f6 Z SH
    rcases g21.out with ⟨hr, hN⟩ | ⟨hr, hN, hlt⟩
    · subst hr
      by_cases hlt : u ≤ r0
      · obtain ⟨R, hR⟩ : ∃ R, R = r0 - u := ⟨_, rfl⟩
        have hN2 : X1 * W64 + X0 = u * (q + 1) + R := by rw [Nat.mul_succ]; omega
        have hql : q + 1 < 18446744073709551616 := HQ.out _ _ hN2
        have hRl : R < u := by have h63 := T63.out; unfold W64 at *; omega
        obtain ⟨E1, E2⟩ := HE.out _ _ hN2 hRl
        have HE1 := hide E1
        have HE2 := hide E2
        have m1 : (u : Int) ≤ (r0 : Int) := by omega
        have m2 : IntKind.u64.wrap ((r0 : Int) - (u : Int)) = (R : Int) := by rw [IntKind.wrap_u64]; omega
        have m3 : IntKind.u64.wrap ((q : Int) + 1) = ((q + 1 : Nat) : Int) := by rw [IntKind.wrap_u64]; omega
        obtain ⟨Q, hQ⟩ : ∃ Q, Q = q + 1 := ⟨_, rfl⟩
        rw [← hQ] at m3 HE1
        obtain ⟨F, hF⟩ : ∃ F, F = R / 2 ^ 0 := ⟨_, rfl⟩
        rw [← hF] at HE2
        have hk : (R : Int) / 2 ^ 0 = (F : Int) := by rw [hF]; simp
        clear hF
        clear hN hN2 hql hRl hlt hR hQ E1 E2 hr01
        go_enter Tryz.func203, Tryz.ntmps203
        go_wp2_with fail
        refine (HL.out _).mono ?_
        rintro e w1 ⟨rfl, n1, rfl⟩
        go_wp2_with fail
        refine (HM1.out _).mono ?_
        rintro e w2 ⟨rfl, rfl⟩
        go_wp2_with fail
        refine (HA1.out _).mono ?_
        rintro e w3 ⟨rfl, n3, rfl⟩
        go_wp2_with fail
        refine (HA2.out _).mono ?_
        rintro e w4 ⟨rfl, n4, rfl⟩
        go_wp2_with fail
        refine (HM2.out _).mono ?_
        rintro e w5 ⟨rfl, rfl⟩
        go_wp2_with fail
        refine (HS1.out _).mono ?_
        rintro e w6 ⟨rfl, n6, rfl⟩
        go_wp2_with fail
        refine (HS2.out _).mono ?_
        rintro e w7 ⟨rfl, n7, rfl⟩
        go_wp2_with fail
        go_ret2
        rw [HE1.out, HE2.out]
        exact ⟨by first | rfl | (simp [hk]; done) | (simp; done) | (simp at hk; simp [hk]), n1 + n3 + n4 + n6 + n7, rfl⟩
      · obtain ⟨E1, E2⟩ := HE.out _ _ hN (by omega)
        have HE1 := hide E1
        have HE2 := hide E2
        have m1 : ¬ (u : Int) ≤ (r0 : Int) := by omega
        obtain ⟨F, hF⟩ : ∃ F, F = r0 / 2 ^ 0 := ⟨_, rfl⟩
        rw [← hF] at HE2
        have hk : (r0 : Int) / 2 ^ 0 = (F : Int) := by rw [hF]; simp
        clear hF
        clear hN hlt E1 E2 hr01
        go_enter Tryz.func203, Tryz.ntmps203
        go_wp2_with fail
        refine (HL.out _).mono ?_
        rintro e w1 ⟨rfl, n1, rfl⟩
        go_wp2_with fail
        refine (HM1.out _).mono ?_
        rintro e w2 ⟨rfl, rfl⟩
        go_wp2_with fail
        refine (HA1.out _).mono ?_
        rintro e w3 ⟨rfl, n3, rfl⟩
        go_wp2_with fail
        refine (HA2.out _).mono ?_
        rintro e w4 ⟨rfl, n4, rfl⟩
        go_wp2_with fail
        refine (HM2.out _).mono ?_
        rintro e w5 ⟨rfl, rfl⟩
        go_wp2_with fail
        refine (HS1.out _).mono ?_
        rintro e w6 ⟨rfl, n6, rfl⟩
        go_wp2_with fail
        refine (HS2.out _).mono ?_
        rintro e w7 ⟨rfl, n7, rfl⟩
        go_wp2_with fail
        go_ret2
        rw [HE1.out, HE2.out]
        exact ⟨by first | rfl | (simp [hk]; done) | (simp; done) | (simp at hk; simp [hk]), n1 + n3 + n4 + n6 + n7, rfl⟩
    · subst hr
      obtain ⟨R1, hR1⟩ : ∃ R1, R1 = W64 + r0 - u := ⟨_, rfl⟩
      have hN1 : X1 * W64 + X0 = u * (q + 1) + R1 := by rw [Nat.mul_succ]; have : u < W64 := hu1; omega
      have m4 : IntKind.u64.wrap ((r0 : Int) - (u : Int)) = (R1 : Int) := by rw [IntKind.wrap_u64]; unfold W64 at hR1; omega
      have hR1l : R1 < 18446744073709551616 := by unfold W64 at hR1; omega
      have hql1 : q + 1 < 18446744073709551616 := HQ.out _ _ hN1
      have m3 : IntKind.u64.wrap ((q : Int) + 1) = ((q + 1 : Nat) : Int) := by rw [IntKind.wrap_u64]; omega
      obtain ⟨Q1, hQ1⟩ : ∃ Q1, Q1 = q + 1 := ⟨_, rfl⟩
      rw [← hQ1] at m3 hN1
      by_cases hlt2 : u ≤ R1
      · obtain ⟨R, hR⟩ : ∃ R, R = R1 - u := ⟨_, rfl⟩
        have hN2 : X1 * W64 + X0 = u * (Q1 + 1) + R := by rw [Nat.mul_succ]; omega
        have hql : Q1 + 1 < 18446744073709551616 := HQ.out _ _ hN2
        have hRl : R < u := by have h63 := T63.out; unfold W64 at *; omega
        obtain ⟨E1, E2⟩ := HE.out _ _ hN2 hRl
        have HE1 := hide E1
        have HE2 := hide E2
        have m1 : (u : Int) ≤ (R1 : Int) := by omega
        have m2 : IntKind.u64.wrap ((R1 : Int) - (u : Int)) = (R : Int) := by rw [IntKind.wrap_u64]; omega
        have m5 : IntKind.u64.wrap ((Q1 : Int) + 1) = ((Q1 + 1 : Nat) : Int) := by rw [IntKind.wrap_u64]; omega
        obtain ⟨Q, hQ⟩ : ∃ Q, Q = Q1 + 1 := ⟨_, rfl⟩
        rw [← hQ] at m5 HE1
        obtain ⟨F, hF⟩ : ∃ F, F = R / 2 ^ 0 := ⟨_, rfl⟩
        rw [← hF] at HE2
        have hk : (R : Int) / 2 ^ 0 = (F : Int) := by rw [hF]; simp
        clear hF
        clear hN hN1 hN2 hql hql1 hRl hlt hlt2 hR hR1 hR1l hQ hQ1 E1 E2 hr01
        go_enter Tryz.func203, Tryz.ntmps203
        go_wp2_with fail
        refine (HL.out _).mono ?_
        rintro e w1 ⟨rfl, n1, rfl⟩
        go_wp2_with fail
        refine (HM1.out _).mono ?_
        rintro e w2 ⟨rfl, rfl⟩
        go_wp2_with fail
        refine (HA1.out _).mono ?_
        rintro e w3 ⟨rfl, n3, rfl⟩
        go_wp2_with fail
        refine (HA2.out _).mono ?_
        rintro e w4 ⟨rfl, n4, rfl⟩
        go_wp2_with fail
        refine (HM2.out _).mono ?_
        rintro e w5 ⟨rfl, rfl⟩
        go_wp2_with fail
        refine (HS1.out _).mono ?_
        rintro e w6 ⟨rfl, n6, rfl⟩
        go_wp2_with fail
        refine (HS2.out _).mono ?_
        rintro e w7 ⟨rfl, n7, rfl⟩
        go_wp2_with fail
        go_ret2
        rw [HE1.out, HE2.out]
        exact ⟨by first | rfl | (simp [hk]; done) | (simp; done) | (simp at hk; simp [hk]), n1 + n3 + n4 + n6 + n7, rfl⟩
      · obtain ⟨E1, E2⟩ := HE.out _ _ hN1 (by omega)
        have HE1 := hide E1
        have HE2 := hide E2
        have m1 : ¬ (u : Int) ≤ (R1 : Int) := by omega
        obtain ⟨F, hF⟩ : ∃ F, F = R1 / 2 ^ 0 := ⟨_, rfl⟩
        rw [← hF] at HE2
        have hk : (R1 : Int) / 2 ^ 0 = (F : Int) := by rw [hF]; simp
        clear hF
        clear hN hN1 hlt hlt2 hR1 hR1l hql1 hQ1 E1 E2 hr01
        go_enter Tryz.func203, Tryz.ntmps203
        go_wp2_with fail
        refine (HL.out _).mono ?_
        rintro e w1 ⟨rfl, n1, rfl⟩
        go_wp2_with fail
        refine (HM1.out _).mono ?_
        rintro e w2 ⟨rfl, rfl⟩
        go_wp2_with fail
        refine (HA1.out _).mono ?_
        rintro e w3 ⟨rfl, n3, rfl⟩
        go_wp2_with fail
        refine (HA2.out _).mono ?_
        rintro e w4 ⟨rfl, n4, rfl⟩
        go_wp2_with fail
        refine (HM2.out _).mono ?_
        rintro e w5 ⟨rfl, rfl⟩
        go_wp2_with fail
        refine (HS1.out _).mono ?_
        rintro e w6 ⟨rfl, n6, rfl⟩
        go_wp2_with fail
        refine (HS2.out _).mono ?_
        rintro e w7 ⟨rfl, n7, rfl⟩
        go_wp2_with fail
        go_ret2
        rw [HE1.out, HE2.out]
        exact ⟨by first | rfl | (simp [hk]; done) | (simp; done) | (simp at hk; simp [hk]), n1 + n3 + n4 + n6 + n7, rfl⟩
  · have s0 : ¬ (s : Int) = 0 := by omega
    have s1 : IntKind.u64.wrap (64 - (s : Int)) = ((64 - s : Nat) : Int) := by have := SH.out; rw [IntKind.wrap_u64]; omega
    have s2 : ¬ (64 : Int) ≤ ((64 - s : Nat) : Int) := by omega
    clear Z SH hs0
    rcases g21.out with ⟨hr, hN⟩ | ⟨hr, hN, hlt⟩
    · subst hr
      by_cases hlt : u ≤ r0
      · obtain ⟨R, hR⟩ : ∃ R, R = r0 - u := ⟨_, rfl⟩
        have hN2 : X1 * W64 + X0 = u * (q + 1) + R := by rw [Nat.mul_succ]; omega
        have hql : q + 1 < 18446744073709551616 := HQ.out _ _ hN2
        have hRl : R < u := by have h63 := T63.out; unfold W64 at *; omega
        obtain ⟨E1, E2⟩ := HE.out _ _ hN2 hRl
        have HE1 := hide E1
        have HE2 := hide E2
        have m1 : (u : Int) ≤ (r0 : Int) := by omega
        have m2 : IntKind.u64.wrap ((r0 : Int) - (u : Int)) = (R : Int) := by rw [IntKind.wrap_u64]; omega
        have m3 : IntKind.u64.wrap ((q : Int) + 1) = ((q + 1 : Nat) : Int) := by rw [IntKind.wrap_u64]; omega
        obtain ⟨Q, hQ⟩ : ∃ Q, Q = q + 1 := ⟨_, rfl⟩
        rw [← hQ] at m3 HE1
        obtain ⟨F, hF⟩ : ∃ F, F = R / 2 ^ s := ⟨_, rfl⟩
        rw [← hF] at HE2
        have hk : (R : Int) / 2 ^ s = (F : Int) := by rw [hF]; simp
        clear hF
        clear hN hN2 hql hRl hlt hR hQ E1 E2 hr01
        go_enter Tryz.func203, Tryz.ntmps203
        go_wp2_with fail
        refine (HL.out _).mono ?_
        rintro e w1 ⟨rfl, n1, rfl⟩
        go_wp2_with fail
        refine (HM1.out _).mono ?_
        rintro e w2 ⟨rfl, rfl⟩
        go_wp2_with fail
        refine (HA1.out _).mono ?_
        rintro e w3 ⟨rfl, n3, rfl⟩
        go_wp2_with fail
        refine (HA2.out _).mono ?_
        rintro e w4 ⟨rfl, n4, rfl⟩
        go_wp2_with fail
        refine (HM2.out _).mono ?_
        rintro e w5 ⟨rfl, rfl⟩
        go_wp2_with fail
        refine (HS1.out _).mono ?_
        rintro e w6 ⟨rfl, n6, rfl⟩
        go_wp2_with fail
        refine (HS2.out _).mono ?_
        rintro e w7 ⟨rfl, n7, rfl⟩
        go_wp2_with fail
        go_ret2
        rw [HE1.out, HE2.out]
        exact ⟨by first | rfl | (simp [hk]; done) | (simp; done) | (simp at hk; simp [hk]), n1 + n3 + n4 + n6 + n7, rfl⟩
      · obtain ⟨E1, E2⟩ := HE.out _ _ hN (by omega)
        have HE1 := hide E1
        have HE2 := hide E2
        have m1 : ¬ (u : Int) ≤ (r0 : Int) := by omega
        obtain ⟨F, hF⟩ : ∃ F, F = r0 / 2 ^ s := ⟨_, rfl⟩
        rw [← hF] at HE2
        have hk : (r0 : Int) / 2 ^ s = (F : Int) := by rw [hF]; simp
        clear hF
        clear hN hlt E1 E2 hr01
        go_enter Tryz.func203, Tryz.ntmps203
        go_wp2_with fail
        refine (HL.out _).mono ?_
        rintro e w1 ⟨rfl, n1, rfl⟩
        go_wp2_with fail
        refine (HM1.out _).mono ?_
        rintro e w2 ⟨rfl, rfl⟩
        go_wp2_with fail
        refine (HA1.out _).mono ?_
        rintro e w3 ⟨rfl, n3, rfl⟩
        go_wp2_with fail
        refine (HA2.out _).mono ?_
        rintro e w4 ⟨rfl, n4, rfl⟩
        go_wp2_with fail
        refine (HM2.out _).mono ?_
        rintro e w5 ⟨rfl, rfl⟩
        go_wp2_with fail
        refine (HS1.out _).mono ?_
        rintro e w6 ⟨rfl, n6, rfl⟩
        go_wp2_with fail
        refine (HS2.out _).mono ?_
        rintro e w7 ⟨rfl, n7, rfl⟩
        go_wp2_with fail
        go_ret2
        rw [HE1.out, HE2.out]
        exact ⟨by first | rfl | (simp [hk]; done) | (simp; done) | (simp at hk; simp [hk]), n1 + n3 + n4 + n6 + n7, rfl⟩
    · subst hr
      obtain ⟨R1, hR1⟩ : ∃ R1, R1 = W64 + r0 - u := ⟨_, rfl⟩
      have hN1 : X1 * W64 + X0 = u * (q + 1) + R1 := by rw [Nat.mul_succ]; have : u < W64 := hu1; omega
      have m4 : IntKind.u64.wrap ((r0 : Int) - (u : Int)) = (R1 : Int) := by rw [IntKind.wrap_u64]; unfold W64 at hR1; omega
      have hR1l : R1 < 18446744073709551616 := by unfold W64 at hR1; omega
      have hql1 : q + 1 < 18446744073709551616 := HQ.out _ _ hN1
      have m3 : IntKind.u64.wrap ((q : Int) + 1) = ((q + 1 : Nat) : Int) := by rw [IntKind.wrap_u64]; omega
      obtain ⟨Q1, hQ1⟩ : ∃ Q1, Q1 = q + 1 := ⟨_, rfl⟩
      rw [← hQ1] at m3 hN1
      by_cases hlt2 : u ≤ R1
      · obtain ⟨R, hR⟩ : ∃ R, R = R1 - u := ⟨_, rfl⟩
        have hN2 : X1 * W64 + X0 = u * (Q1 + 1) + R := by rw [Nat.mul_succ]; omega
        have hql : Q1 + 1 < 18446744073709551616 := HQ.out _ _ hN2
        have hRl : R < u := by have h63 := T63.out; unfold W64 at *; omega
        obtain ⟨E1, E2⟩ := HE.out _ _ hN2 hRl
        have HE1 := hide E1
        have HE2 := hide E2
        have m1 : (u : Int) ≤ (R1 : Int) := by omega
        have m2 : IntKind.u64.wrap ((R1 : Int) - (u : Int)) = (R : Int) := by rw [IntKind.wrap_u64]; omega
        have m5 : IntKind.u64.wrap ((Q1 : Int) + 1) = ((Q1 + 1 : Nat) : Int) := by rw [IntKind.wrap_u64]; omega
        obtain ⟨Q, hQ⟩ : ∃ Q, Q = Q1 + 1 := ⟨_, rfl⟩
        rw [← hQ] at m5 HE1
        obtain ⟨F, hF⟩ : ∃ F, F = R / 2 ^ s := ⟨_, rfl⟩
        rw [← hF] at HE2
        have hk : (R : Int) / 2 ^ s = (F : Int) := by rw [hF]; simp
        clear hF
        clear hN hN1 hN2 hql hql1 hRl hlt hlt2 hR hR1 hR1l hQ hQ1 E1 E2 hr01
        go_enter Tryz.func203, Tryz.ntmps203
        go_wp2_with fail
        refine (HL.out _).mono ?_
        rintro e w1 ⟨rfl, n1, rfl⟩
        go_wp2_with fail
        refine (HM1.out _).mono ?_
        rintro e w2 ⟨rfl, rfl⟩
        go_wp2_with fail
        refine (HA1.out _).mono ?_
        rintro e w3 ⟨rfl, n3, rfl⟩
        go_wp2_with fail
        refine (HA2.out _).mono ?_
        rintro e w4 ⟨rfl, n4, rfl⟩
        go_wp2_with fail
        refine (HM2.out _).mono ?_
        rintro e w5 ⟨rfl, rfl⟩
        go_wp2_with fail
        refine (HS1.out _).mono ?_
        rintro e w6 ⟨rfl, n6, rfl⟩
        go_wp2_with fail
        refine (HS2.out _).mono ?_
        rintro e w7 ⟨rfl, n7, rfl⟩
        go_wp2_with fail
        go_ret2
        rw [HE1.out, HE2.out]
        exact ⟨by first | rfl | (simp [hk]; done) | (simp; done) | (simp at hk; simp [hk]), n1 + n3 + n4 + n6 + n7, rfl⟩
      · obtain ⟨E1, E2⟩ := HE.out _ _ hN1 (by omega)
        have HE1 := hide E1
        have HE2 := hide E2
        have m1 : ¬ (u : Int) ≤ (R1 : Int) := by omega
        obtain ⟨F, hF⟩ : ∃ F, F = R1 / 2 ^ s := ⟨_, rfl⟩
        rw [← hF] at HE2
        have hk : (R1 : Int) / 2 ^ s = (F : Int) := by rw [hF]; simp
        clear hF
        clear hN hN1 hlt hlt2 hR1 hR1l hql1 hQ1 E1 E2 hr01
        go_enter Tryz.func203, Tryz.ntmps203
        go_wp2_with fail
        refine (HL.out _).mono ?_
        rintro e w1 ⟨rfl, n1, rfl⟩
        go_wp2_with fail
        refine (HM1.out _).mono ?_
        rintro e w2 ⟨rfl, rfl⟩
        go_wp2_with fail
        refine (HA1.out _).mono ?_
        rintro e w3 ⟨rfl, n3, rfl⟩
        go_wp2_with fail
        refine (HA2.out _).mono ?_
        rintro e w4 ⟨rfl, n4, rfl⟩
        go_wp2_with fail
        refine (HM2.out _).mono ?_
        rintro e w5 ⟨rfl, rfl⟩
        go_wp2_with fail
        refine (HS1.out _).mono ?_
        rintro e w6 ⟨rfl, n6, rfl⟩
        go_wp2_with fail
        refine (HS2.out _).mono ?_
        rintro e w7 ⟨rfl, n7, rfl⟩
        go_wp2_with fail
        go_ret2
        rw [HE1.out, HE2.out]
        exact ⟨by first | rfl | (simp [hk]; done) | (simp; done) | (simp at hk; simp [hk]), n1 + n3 + n4 + n6 + n7, rfl⟩
end Go.Proofs.YtjojjicpdfmopaaGreatDoor
