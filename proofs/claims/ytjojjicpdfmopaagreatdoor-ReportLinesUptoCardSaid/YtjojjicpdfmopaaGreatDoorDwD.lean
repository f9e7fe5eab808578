/- Great numbers: up to two words divided by one word, into nothing: quotient and rest. -/
import Derived.Test.YtjojjicpdfmopaaGreatDoorDwC
namespace Go.Proofs.YtjojjicpdfmopaaGreatDoor
open Go Go.RowKit
set_option linter.unusedVariables false

theorem dw_steps {x0 x1 y : Nat} (hx0 : x0 < W64) (hx1 : x1 < W64) (hy : y < W64) (h0 : y ≠ 0) :
    x1 % y < y ∧ x1 / y < W64 ∧ (x1 % y * W64 + x0) / y < W64 ∧ (x0 + W64 * x1) / y = (x1 % y * W64 + x0) / y + W64 * (x1 / y) ∧ (x0 + W64 * x1) % y = (x1 % y * W64 + x0) % y := by
  have hm : x1 % y < y := Nat.mod_lt _ (by omega)
  have hd := Nat.div_add_mod x1 y
  have e : x0 + W64 * x1 = (x1 % y * W64 + x0) + y * (W64 * (x1 / y)) := by
    have a1 : W64 * x1 = W64 * (y * (x1 / y)) + W64 * (x1 % y) := by rw [← Nat.mul_add, hd]
    have a2 : W64 * (y * (x1 / y)) = y * (W64 * (x1 / y)) := by rw [Nat.mul_left_comm]
    have a3 : W64 * (x1 % y) = x1 % y * W64 := Nat.mul_comm _ _
    omega
  refine ⟨hm, Nat.lt_of_le_of_lt (Nat.div_le_self _ _) hx1, ?_, ?_, ?_⟩
  · apply Nat.div_lt_of_lt_mul
    have : (x1 % y + 1) * W64 ≤ y * W64 := Nat.mul_le_mul_right _ hm
    rw [Nat.add_mul] at this
    unfold W64 at *
    omega
  · rw [e, Nat.add_mul_div_left _ _ (by omega)]
  · rw [e, Nat.add_mul_mod_self_left]

set_option maxHeartbeats 1000000 in
set_option maxRecDepth 100000 in
theorem divWVW2 (zb zc xb xc : Nat) (a b : Value) (x0 x1 y : Nat) (hx0 : x0 < W64) (hx1 : x1 < W64) (hy : y < W64) (h0 : y ≠ 0) (w : World) (hne : xb ≠ zb)
    (hz0 : w.cell? ⟨zb, 0, none⟩ = some a) (hz1 : w.cell? ⟨zb, 1, none⟩ = some b) (ha : a.oneCell' = true) (hb : b.oneCell' = true) (hf : ∀ q, w.frozen? ⟨zb, q, none⟩ = false)
    (hc0 : w.cell? ⟨xb, 0, none⟩ = some (.int .u64 (x0 : Int))) (hc1 : w.cell? ⟨xb, 1, none⟩ = some (.int .u64 (x1 : Int))) :
    Calls Tryz.prog 156 #[.slice (some ⟨zb, 0, none⟩) 2 zc, .int .u64 0, .slice (some ⟨xb, 0, none⟩) 2 xc, .int .u64 (y : Int)] w
      fun e w' => e = .returned (.int .u64 (((x1 % y * W64 + x0) % y : Nat) : Int)) ∧ ∃ n m, w' = (((w.drewN n).setCell ⟨zb, 1, none⟩ (.int .u64 ((x1 / y : Nat) : Int))).drewN m).setCell ⟨zb, 0, none⟩ (.int .u64 (((x1 % y * W64 + x0) / y : Nat) : Int)) := by
  obtain ⟨hm, hq1, hq0, _, _⟩ := dw_steps hx0 hx1 hy h0
  have HR := hide (fun W => recip_any y (64 - Lib.bitLen y) (y * 2 ^ (64 - Lib.bitLen y)) hy h0 rfl rfl W)
  have HD := hide (fun (v e0 : Nat) hvl hv he x1 x0 hx1 hx0 W => divWW_any x1 x0 y (64 - Lib.bitLen y) (y * 2 ^ (64 - Lib.bitLen y)) v e0 hx1 hx0 hy rfl rfl hvl hv he W)
  have HY : Hid (0 < y) := hide (by omega)
  obtain ⟨q1, e1⟩ : ∃ q1, q1 = x1 / y := ⟨_, rfl⟩
  obtain ⟨r1, e2⟩ : ∃ r1, r1 = x1 % y := ⟨_, rfl⟩
  obtain ⟨q0, e3⟩ : ∃ q0, q0 = (r1 * W64 + x0) / y := ⟨_, rfl⟩
  obtain ⟨r0, e4⟩ : ∃ r0, r0 = (r1 * W64 + x0) % y := ⟨_, rfl⟩
  have D1 := hide (show (0 * W64 + x1) / y = q1 ∧ (0 * W64 + x1) % y = r1 by rw [Nat.zero_mul, Nat.zero_add]; exact ⟨e1.symm, e2.symm⟩)
  have D0 := hide (show (r1 * W64 + x0) / y = q0 ∧ (r1 * W64 + x0) % y = r0 from ⟨e3.symm, e4.symm⟩)
  rw [← e1, ← e2]
  rw [← e2] at hm
  rw [← e3, ← e4]
  have HM := hide hm
  have HX0 := hide hx0
  have HX1 := hide hx1
  have n1 : ¬ zb = xb := fun e => hne e.symm
  have hf1 := hf 1
  have hf0 := hf 0
  clear hm hx0 hx1 hy h0 e1 e2 e3 e4 hq1 hq0 hf
  go_enter Tryz.func156, Tryz.ntmps156
  go_wp2_with fail
  refine (HR.out _).mono ?_
  rintro e w1 ⟨⟨v, e0, rfl, hvl, hv, he⟩, n, rfl⟩
  have HV := hide (HD.out v e0 hvl hv he)
  clear hvl hv he HD HR
  go_wp2_with fail
  go_loopw [8, 12] (fun rv iv wr => (iv = .int .i64 1 ∧ rv = .int .u64 0 ∧ ∃ k, wr = w.drewN k) ∨ (iv = .int .i64 0 ∧ rv = .int .u64 (r1 : Int) ∧ ∃ k, wr = (w.drewN k).setCell ⟨zb, 1, none⟩ (.int .u64 (q1 : Int))) ∨ (iv = .int .i64 (-1) ∧ rv = .int .u64 (r0 : Int) ∧ ∃ k m, wr = (((w.drewN k).setCell ⟨zb, 1, none⟩ (.int .u64 (q1 : Int))).drewN m).setCell ⟨zb, 0, none⟩ (.int .u64 (q0 : Int)))) (fun _ iv _ => (intOf iv + 1).toNat)
  case atStart => exact .inl ⟨rfl, rfl, n, rfl⟩
  case round =>
    rcases hrel with ⟨rfl, rfl, k, rfl⟩ | ⟨rfl, rfl, k, rfl⟩ | ⟨rfl, rfl, k, m, rfl⟩
    · have d1 : (w.drewN k).cell? ⟨xb, 1, none⟩ = some (.int .u64 (x1 : Int)) := hc1
      have y1 : ∀ k, (w.drewN k).cell? ⟨zb, 1, none⟩ = some b := fun _ => hz1
      have g1 : ∀ k, (w.drewN k).frozen? ⟨zb, 1, none⟩ = false := fun _ => hf1
      have Y1 := hide y1
      have G1 := hide g1
      clear hz0 hz1 hc0 hc1 hf1 hf0 y1 g1
      go_wp2_with fail
      refine (HV.out 0 x1 HY.out HX1.out _).mono ?_
      rintro e w2 ⟨rfl, k2, rfl⟩
      rw [D1.out.1, D1.out.2, drewN_add]
      have y2 := Y1.out (k + k2)
      have g2 := G1.out (k + k2)
      clear d1
      go_wp2_with fail
      go_roundw
      case rel => exact .inr (.inl ⟨by go_num, rfl, k + k2, rfl⟩)
      case measure => simp [intOf]
    · have hS : ∀ m, (((w.drewN k).setCell ⟨zb, 1, none⟩ (.int .u64 (q1 : Int))).drewN m).cell? ⟨xb, 0, none⟩ = some (.int .u64 (x0 : Int)) ∧ (((w.drewN k).setCell ⟨zb, 1, none⟩ (.int .u64 (q1 : Int))).drewN m).cell? ⟨zb, 0, none⟩ = some a ∧ (((w.drewN k).setCell ⟨zb, 1, none⟩ (.int .u64 (q1 : Int))).drewN m).frozen? ⟨zb, 0, none⟩ = false := by
        intro m
        refine ⟨(World.cell?_setCell_other _ _ _ _ (by simp)).trans hc0, (World.cell?_setCell_other _ _ _ _ (by simp)).trans hz0, ?_⟩
        show ((w.drewN k).setCell _ _).frozen? _ = false
        simp [hf0]
      have d0 := (hS 0).1
      have HS := hide hS
      clear hz0 hz1 hc0 hc1 hf1 hf0 hS
      obtain ⟨ws, hws⟩ : ∃ ws, ws = (w.drewN k).setCell ⟨zb, 1, none⟩ (.int .u64 (q1 : Int)) := ⟨_, rfl⟩
      rw [← hws] at d0 HS ⊢
      have HWS := hide hws
      clear hws
      have d0 : ws.cell? ⟨xb, 0, none⟩ = some (.int .u64 (x0 : Int)) := d0
      go_wp2_with fail
      refine (HV.out r1 x0 HM.out HX0.out _).mono ?_
      rintro e w2 ⟨rfl, k2, rfl⟩
      rw [D0.out.1, D0.out.2]
      have y2 := (HS.out k2).2.1
      have g2 := (HS.out k2).2.2
      clear d0
      go_wp2_with fail
      go_roundw
      case rel => exact .inr (.inr ⟨by go_num, rfl, k, k2, by rw [← HWS.out]⟩)
      case measure => simp [intOf]
    · go_wp2_with fail
      go_ret
      exact ⟨rfl, k, m, rfl⟩

theorem setWord_new (r : Nat) (hr : r < W64) (w : World) : Calls Tryz.prog 148 #[.slice none 0 0, .int .u64 (r : Int)] w fun e w' => ∃ V', e = .returned V' ∧ Fresh w w' V' (wordsOf r) := by
  by_cases h0 : r = 0
  · subst h0
    refine (setWord_0 w).mono ?_
    rintro e w' ⟨rfl, n, rfl⟩
    exact ⟨_, rfl, Fresh.nil w n⟩
  · have hr1 : ((r : Int) == 0) = false := by rw [beq_eq_false_iff_ne]; omega
    have HW := hide (wordsOf_1 h0 hr)
    go_enter Tryz.func148, Tryz.ntmps148
    go_wp2_with fail
    refine (natMake_1 _ 0 _).mono ?_
    rintro e w1 ⟨rfl, rfl⟩
    have hra := RowIs.made w 1
    have hba : Below w.heap.size w (w.alloc (.cells (zeros 1) 110)) := (Below.refl _ _).alloc (Nat.le_refl _) _
    generalize w.alloc (.cells (zeros 1) 110) = wa at hra hba ⊢
    have c0 : wa.cell? ⟨w.heap.size, 0, none⟩ = some (.int .u64 0) := by rw [hra.cell 0]; rfl
    have f0 := hra.fr 0
    clear hr
    go_wp2_with fail
    go_ret
    refine ⟨_, rfl, ?_, hba.setCell (Nat.le_refl _) (p := ⟨w.heap.size, 0, none⟩) _⟩
    rw [HW.out]
    exact Wds.ofRow (ws := [r]) (hra.set_ 0 _) (by simp [zeros]) (by rw [Array.toList_setIfInBounds]; exact take_set1 _ _ (by simp [zeros])) (Nat.le_refl _) (by simp) (by unfold maxLen; omega) (.inl (Nat.le_refl _))

set_option maxHeartbeats 1000000 in
set_option maxRecDepth 100000 in
theorem divW_new1 (a p xb xc : Nat) (w : World) (ha0 : a ≠ 0) (ha : a < W64) (hp : 1 < p) (hp2 : p < W64) (hxw : w.cell? ⟨xb, 0, none⟩ = some (.int .u64 (a : Int))) :
    Calls Tryz.prog 137 #[.slice none 0 0, .slice (some ⟨xb, 0, none⟩) 1 xc, .int .u64 (p : Int)] w fun e w' => ∃ V', e = .returned (.tuple #[V', .int .u64 ((a % p : Nat) : Int)]) ∧ Fresh w w' V' (wordsOf (a / p)) := by
  have hp0 : ((p : Int) == 0) = false := by rw [beq_eq_false_iff_ne]; omega
  have hp1 : ((p : Int) == 1) = false := by rw [beq_eq_false_iff_ne]; omega
  have hlt := World.block_lt_of_cell? _ _ hxw
  have hqlt : a / p < W64 := Nat.lt_of_le_of_lt (Nat.div_le_self _ _) ha
  have HDV := fun (W : World) (u : Value) zb zc h1 h2 h3 h4 => divWVW1 zb 0 zc xb 0 xc u a p ha hp2 (by omega) W h1 h2 h3 h4
  generalize a / p = q at hqlt HDV ⊢
  generalize a % p = r at HDV ⊢
  have HDV := hide HDV
  have HQL := hide hqlt
  have HX := hide hxw
  have HL := hide hlt
  clear hqlt ha hp hp2 hxw ha0 hlt
  go_enter Tryz.func137, Tryz.ntmps137
  go_wp2_with fail
  refine (natMake_1 _ 0 _).mono ?_
  rintro e w1 ⟨rfl, rfl⟩
  have hra := RowIs.made w 1
  have hba : Below w.heap.size w (w.alloc (.cells (zeros 1) 110)) := (Below.refl _ _).alloc (Nat.le_refl _) _
  generalize w.alloc (.cells (zeros 1) 110) = wa at hra hba ⊢
  have c0 : wa.cell? ⟨w.heap.size, 0, none⟩ = some (.int .u64 0) := by rw [hra.cell 0]; rfl
  go_wp2_with fail
  refine (HDV.out wa _ w.heap.size 1 c0 rfl (hra.fr 0) (below_cell hba HL.out HX.out)).mono ?_
  rintro e w2 ⟨rfl, n2, rfl⟩
  have hrow2 : RowIs ((wa.drewN n2).setCell ⟨w.heap.size, 0, none⟩ (.int .u64 (q : Int))) w.heap.size ((zeros 1).setIfInBounds 0 (.int .u64 (q : Int))) := (hra.drewN n2).set_ 0 _
  have hb2 : Below w.heap.size w ((wa.drewN n2).setCell ⟨w.heap.size, 0, none⟩ (.int .u64 (q : Int))) := (bdrewN hba n2).setCell (Nat.le_refl _) (p := ⟨w.heap.size, 0, none⟩) _
  generalize (wa.drewN n2).setCell ⟨w.heap.size, 0, none⟩ (.int .u64 (q : Int)) = w2 at hrow2 hb2 ⊢
  have ht2 : ((zeros 1).setIfInBounds 0 (.int .u64 (q : Int))).toList.take ([q] : List Nat).length = [q].flatMap wEnc := by
    rw [Array.toList_setIfInBounds]
    exact take_set1 _ _ (by simp [zeros])
  have hrd := rd_row hrow2 ht2
  have HR2 := hide hrow2
  have HT2 := hide ht2
  have HB2 := hide hb2
  clear hrow2 ht2 hb2 hra hba c0
  go_wp2_with fail
  refine (natNorm [q] w.heap.size 1 _ hrd (by simp) (by simp)).mono ?_
  rintro e w3 ⟨⟨k, hk, rfl, hz, hnz⟩, n3, rfl⟩
  go_wp2_with fail
  go_ret2
  have hg := gave_row (w := w) (w' := w2.drewN n3) (B := w.heap.size) (c := 1) (V := .slice none 0 0) (k := k) (ws := [q]) (v := q) (below_grown (bdrewN HB2.out n3)) (HR2.out.drewN n3) HT2.out (by simp [zeros]) (Nat.le_refl _) (by unfold maxLen; omega) (.inl (Nat.le_refl _)) (.inr (Nat.le_refl _)) (fun x hx => by obtain rfl := List.mem_singleton.1 hx; exact HQL.out) (by simp [valOf]) (Nat.lt_of_lt_of_le HQL.out (by unfold W64; omega)) (by simp) (by simp) hk hz hnz
  exact ⟨_, rfl, hg.wds, bdrewN HB2.out n3⟩

set_option maxHeartbeats 1000000 in
set_option maxRecDepth 100000 in
theorem divW_new2 (a x0 x1 p xb xc : Nat) (w : World) (hx0 : x0 < W64) (hx1 : x1 < W64) (hax : a = x0 + W64 * x1) (hp : 1 < p) (hp2 : p < W64) (hxw0 : w.cell? ⟨xb, 0, none⟩ = some (.int .u64 (x0 : Int))) (hxw1 : w.cell? ⟨xb, 1, none⟩ = some (.int .u64 (x1 : Int))) :
    Calls Tryz.prog 137 #[.slice none 0 0, .slice (some ⟨xb, 0, none⟩) 2 xc, .int .u64 (p : Int)] w fun e w' => ∃ V', e = .returned (.tuple #[V', .int .u64 ((a % p : Nat) : Int)]) ∧ Fresh w w' V' (wordsOf (a / p)) := by
  have hp0 : ((p : Int) == 0) = false := by rw [beq_eq_false_iff_ne]; omega
  have hp1 : ((p : Int) == 1) = false := by rw [beq_eq_false_iff_ne]; omega
  have hlt := World.block_lt_of_cell? _ _ hxw0
  obtain ⟨s1, s2, s3, s4, s5⟩ := dw_steps hx0 hx1 hp2 (by omega)
  rw [hax, s5]
  have HV : Hid (valOf [(x1 % p * W64 + x0) / p, x1 / p] = (x0 + W64 * x1) / p) := by
    show _ = _
    rw [s4]
    simp only [valOf, Nat.mul_zero, Nat.add_zero]
  have HVL : Hid ((x0 + W64 * x1) / p < W64 * W64) := by
    show _ < _
    rw [s4]
    unfold W64 at *
    omega
  generalize (x0 + W64 * x1) / p = Q at HV HVL ⊢
  have HDV := fun (W : World) (u v : Value) zb zc hne h1 h2 h3 h4 h5 h6 h7 => divWVW2 zb zc xb xc u v x0 x1 p hx0 hx1 hp2 (by omega) W hne h1 h2 h3 h4 h5 h6 h7
  generalize (x1 % p * W64 + x0) / p = q0 at s3 HDV HV
  generalize (x1 % p * W64 + x0) % p = r at HDV ⊢
  generalize x1 / p = q1 at s2 HDV HV
  have HDV := hide HDV
  have HQ0 := hide s3
  have HQ1 := hide s2
  have HX0 := hide hxw0
  have HX1 := hide hxw1
  have HL := hide hlt
  clear s1 s2 s3 s4 s5 hp hp2 hxw0 hxw1 hlt hx0 hx1 hax
  go_enter Tryz.func137, Tryz.ntmps137
  go_wp2_with fail
  refine (natMake_2 _ 0 0 _ (by omega)).mono ?_
  rintro e w1 ⟨rfl, rfl⟩
  have hra := RowIs.made w 6
  have hba : Below w.heap.size w (w.alloc (.cells (zeros 6) 110)) := (Below.refl _ _).alloc (Nat.le_refl _) _
  generalize w.alloc (.cells (zeros 6) 110) = wa at hra hba ⊢
  have c0 : wa.cell? ⟨w.heap.size, 0, none⟩ = some (.int .u64 0) := by rw [hra.cell 0]; rfl
  have c1 : wa.cell? ⟨w.heap.size, 1, none⟩ = some (.int .u64 0) := by rw [hra.cell 1]; rfl
  go_wp2_with fail
  refine (HDV.out wa _ _ w.heap.size 6 (by have := HL.out; omega) c0 c1 rfl rfl hra.fr (below_cell hba HL.out HX0.out) (below_cell hba HL.out HX1.out)).mono ?_
  rintro e w2 ⟨rfl, n2, m2, rfl⟩
  have hrow2 := (((hra.drewN n2).set_ 1 (.int .u64 (q1 : Int))).drewN m2).set_ 0 (.int .u64 (q0 : Int))
  have hb2 := (bdrewN ((bdrewN hba n2).setCell (Nat.le_refl _) (p := ⟨w.heap.size, 1, none⟩) (.int .u64 (q1 : Int))) m2).setCell (Nat.le_refl _) (p := ⟨w.heap.size, 0, none⟩) (.int .u64 (q0 : Int))
  generalize (((wa.drewN n2).setCell ⟨w.heap.size, 1, none⟩ (.int .u64 (q1 : Int))).drewN m2).setCell ⟨w.heap.size, 0, none⟩ (.int .u64 (q0 : Int)) = w2 at hrow2 hb2 ⊢
  have ht2 : (((zeros 6).setIfInBounds 1 (.int .u64 (q1 : Int))).setIfInBounds 0 (.int .u64 (q0 : Int))).toList.take ([q0, q1] : List Nat).length = [q0, q1].flatMap wEnc := by
    simp [zeros, wEnc]
  have hrd := rd_row hrow2 ht2
  have HR2 := hide hrow2
  have HT2 := hide ht2
  have HB2 := hide hb2
  clear hrow2 ht2 hb2 hra hba c0 c1
  go_wp2_with fail
  refine (natNorm [q0, q1] w.heap.size 6 _ hrd (by simp) (by simp)).mono ?_
  rintro e w3 ⟨⟨k, hk, rfl, hz, hnz⟩, n3, rfl⟩
  go_wp2_with fail
  go_ret2
  have hg := gave_row (w := w) (w' := w2.drewN n3) (B := w.heap.size) (c := 6) (V := .slice none 0 0) (k := k) (ws := [q0, q1]) (v := Q) (below_grown (bdrewN HB2.out n3)) (HR2.out.drewN n3) HT2.out (by simp [zeros]) (Nat.le_refl _) (by unfold maxLen; omega) (.inr (Nat.le_refl _)) (.inr (Nat.le_refl _)) (fun x hx => by
    simp only [List.mem_cons, List.not_mem_nil, or_false] at hx
    rcases hx with rfl | rfl
    · exact HQ0.out
    · exact HQ1.out) HV.out HVL.out (by simp) (by simp) hk hz hnz
  exact ⟨_, rfl, hg.wds, bdrewN HB2.out n3⟩

theorem wds_nil_len {w : World} {B n c : Nat} {A : Option Addr} (h : Wds w B (.slice A n c) []) : n = 0 := by
  obtain ⟨A', c', e, _⟩ := h.cap
  injection e with e1 e2 e3
/-- up to two words by a word, into nothing -/
theorem divW_new (B a p n c : Nat) (A : Option Addr) (w : World) (ha : a < W64 * W64) (hp : p ≠ 0) (hp2 : p < W64) (hp1 : p = 1 → a < W64) (h : Wds w B (.slice A n c) (wordsOf a)) :
    Calls Tryz.prog 137 #[.slice none 0 0, .slice A n c, .int .u64 (p : Int)] w fun e w' => ∃ V', e = .returned (.tuple #[V', .int .u64 ((a % p : Nat) : Int)]) ∧ Fresh w w' V' (wordsOf (a / p)) := by
  have hrd := h.own.rd wEnc_ok
  by_cases h1 : p = 1
  · subst h1
    rw [Nat.mod_one, Nat.div_one]
    exact divW_one a n c A w ⟨hrd, hp1 rfl⟩
  · by_cases ha0 : a = 0
    · subst ha0
      obtain rfl : n = 0 := wds_nil_len h
      have hp0 : ((p : Int) == 0) = false := by rw [beq_eq_false_iff_ne]; omega
      have hp1 : ((p : Int) == 1) = false := by rw [beq_eq_false_iff_ne]; omega
      rw [Nat.zero_mod, Nat.zero_div]
      clear hrd h hp2 ha
      go_enter Tryz.func137, Tryz.ntmps137
      go_wp2_with fail
      go_ret2
      exact ⟨_, rfl, Fresh.nil w 0⟩
    · by_cases h2 : a < W64
      · rw [wordsOf_1 ha0 h2] at h
        obtain ⟨g, rfl⟩ := h.addr (by simp)
        obtain rfl : n = 1 := by obtain ⟨A', c', e, _⟩ := h.cap; injection e with e1 e2 e3
        obtain ⟨cur, hrow, hcs, hct, _, _, _⟩ := h.row
        have hxw := cell_head hrow hct 0 (by simp)
        exact divW_new1 a p g c w ha0 h2 (by omega) hp2 hxw
      · have h3 := wordsOf_2 (v := a) (by omega)
        rw [h3] at h
        obtain ⟨g, rfl⟩ := h.addr (by simp)
        obtain rfl : n = 2 := by obtain ⟨A', c', e, _⟩ := h.cap; injection e with e1 e2 e3
        obtain ⟨cur, hrow, hcs, hct, _, _, _⟩ := h.row
        have hxw0 := cell_head hrow hct 0 (by simp)
        have hxw1 := cell_head hrow hct 1 (by simp)
        exact divW_new2 a (a % W64) (a / W64) p g c w (Nat.mod_lt _ (by decide)) (Nat.div_lt_of_lt_mul ha) (Nat.mod_add_div a W64).symm (by omega) hp2 hxw0 hxw1
set_option maxRecDepth 100000 in
/-- quotient and rest, both new -/
theorem natDiv_new (B a p n c yb yo yc : Nat) (A : Option Addr) (w : World) (ha : a < W64 * W64) (hp : p ≠ 0) (hp2 : p < W64) (hp1 : p = 1 → a < W64) (h : Wds w B (.slice A n c) (wordsOf a)) (hcy : w.cell? ⟨yb, yo, none⟩ = some (.int .u64 (p : Int))) :
    Calls Tryz.prog 136 #[.slice none 0 0, .pointer none, .slice none 0 0, .slice A n c, .slice (some ⟨yb, yo, none⟩) 1 yc] w
      fun e w' => ∃ V' R, e = .returned (.tuple #[V', R]) ∧ Fresh w w' V' (wordsOf (a / p)) ∧ Fresh w w' R (wordsOf (a % p)) ∧ ∀ b, V'.ownBlock = some b → R.ownBlock ≠ some b := by
  have HDW := hide (divW_new B a p n c A w ha hp hp2 hp1 h)
  have HRL := hide (Nat.lt_trans (Nat.mod_lt a (Nat.pos_of_ne_zero hp)) hp2)
  clear ha hp hp2 hp1 h
  go_enter Tryz.func136, Tryz.ntmps136
  go_wp2_with fail
  refine HDW.out.mono ?_
  rintro e w1 ⟨V', rfl, hF⟩
  have HF := hide hF
  clear hF hcy HDW
  go_wp2_with fail
  refine (setWord_new _ HRL.out _).mono ?_
  rintro e w2 ⟨R, rfl, hF2⟩
  have HF2 := hide hF2
  clear hF2
  go_wp2_with fail
  go_ret2
  have hF := HF.out
  have hF2 := HF2.out
  refine ⟨V', R, rfl, ⟨⟨hF.1.own.below hF2.2, hF.1.cap⟩, bthen hF.2 (Nat.le_refl _) hF2.2⟩, ⟨⟨own_lower hF2.1.own hF.2.size, hF2.1.cap⟩, bthen hF.2 (Nat.le_refl _) hF2.2⟩, ?_⟩
  intro b hb he
  have h1 : b < w1.heap.size := by
    rcases hF.1.own.2 with ⟨hv, _⟩ | ⟨g', cap, cur, hv, hB, hg, _⟩
    · rw [hv] at hb; cases hb
    · rw [hv] at hb
      obtain rfl : g' = b := by simpa [Value.ownBlock] using hb
      exact RowIs.lt hg
  have h2 : w1.heap.size ≤ b := by
    rcases hF2.1.own.2 with ⟨hv, _⟩ | ⟨g', cap, cur, hv, hB, hg, _⟩
    · rw [hv] at he; cases he
    · rw [hv] at he
      obtain rfl : g' = b := by simpa [Value.ownBlock] using he
      exact hB
  omega
end Go.Proofs.YtjojjicpdfmopaaGreatDoor
