/- Great numbers: the product of two words. -/
import Derived.Test.YtggmbjdonlbfkaaGreatDoorBesafterBigI
import Derived.Test.YtggmbjdonlbfkaaGreatDoorBesafterShelf
namespace Go.Proofs.YtggmbjdonlbfkaaGreatDoorBesafter
open Go Go.RowKit
set_option linter.unusedVariables false

theorem bits_mul (x y : Nat) (hx : x < W64) (hy : y < W64) (w : World) :
    Calls Tryz.prog 149 #[.int .u64 (x : Int), .int .u64 (y : Int)] w fun e w' => e = .returned (.tuple #[.int .u64 ((x * y / W64 : Nat) : Int), .int .u64 ((x * y % W64 : Nat) : Int)]) ∧ w' = w :=
  Any.bits_Mul (P := Tryz.prog) (ρ := Tryz.lays212_ren) Tryz.lays212 x y hx hy w

theorem mulAddVWW_enters (args : Array Value) (w : World) : (callFunc 155 args).run Tryz.prog w = .ok (.enter 58 args) w :=
  run_callFunc_twin (twin := Tryz.f58.name) Tryz.func155 (by kernel_rfl) (by kernel_rfl) (by kernel_rfl) (by kernel_rfl) Tryz.func58 (by kernel_rfl) (by kernel_rfl) (by kernel_rfl) args w

theorem mul_lt {x y : Nat} (hx : x < W64) (hy : y < W64) : x * y < W64 * W64 := by
  have h1 : x * y ≤ (W64 - 1) * (W64 - 1) := Nat.mul_le_mul (by omega) (by omega)
  exact Nat.lt_of_le_of_lt h1 (by decide)
theorem mul_hi_lt {x y : Nat} (hx : x < W64) (hy : y < W64) : x * y / W64 < W64 := Nat.div_lt_of_lt_mul (mul_lt hx hy)

theorem mulAddWWW0 (x y hi lo : Nat) (hx : x < W64) (hy : y < W64) (hhi : x * y / W64 = hi) (hlo : x * y % W64 = lo) (w : World) :
    Calls Tryz.prog 151 #[.int .u64 (x : Int), .int .u64 (y : Int), .int .u64 0] w
      fun e w' => e = .returned (.tuple #[.int .u64 (hi : Int), .int .u64 (lo : Int)]) ∧ ∃ n, w' = w.drewN n := by
  have h1 : hi < 18446744073709551616 := by rw [← hhi]; exact mul_hi_lt hx hy
  have h2 : lo < W64 := by rw [← hlo]; exact Nat.mod_lt _ (by decide)
  have hb := bits_mul x y hx hy
  rw [hhi, hlo] at hb
  have hb2 := bitsAdd_any lo 0 0 lo 0 h2 (by decide) (by omega) (Nat.mod_eq_of_lt h2) (Nat.div_eq_of_lt h2)
  clear hhi hlo hx hy
  go_enter Tryz.func151, Tryz.ntmps151
  go_wp2_with fail
  refine (hb _).mono ?_
  rintro e w1 ⟨rfl, rfl⟩
  go_wp2_with fail
  refine (hb2 _).mono ?_
  rintro e w2 ⟨rfl, n, rfl⟩
  go_wp2_with fail
  go_ret2
  exact ⟨by simp, n, rfl⟩

/-- one word by a word: the low word is stored, the high one handed back -/
theorem mulAddVWW1 (zb zo zc xb xo xc : Nat) (u : Value) (x y hi lo : Nat) (hx : x < W64) (hy : y < W64) (hhi : x * y / W64 = hi) (hlo : x * y % W64 = lo) (w : World)
    (hz : w.cell? ⟨zb, zo, none⟩ = some u) (hu : u.oneCell' = true) (hf : w.frozen? ⟨zb, zo, none⟩ = false) (hcx : w.cell? ⟨xb, xo, none⟩ = some (.int .u64 (x : Int))) :
    Calls Tryz.prog 58 #[.slice (some ⟨zb, zo, none⟩) 1 zc, .slice (some ⟨xb, xo, none⟩) 1 xc, .int .u64 (y : Int), .int .u64 0] w
      fun e w' => e = .returned (.int .u64 (hi : Int)) ∧ ∃ n, w' = (w.drewN n).setCell ⟨zb, zo, none⟩ (.int .u64 (lo : Int)) := by
  go_enter Tryz.func58, Tryz.ntmps58
  go_wp2_with fail
  go_loopw [8, 19] (fun cv iv wr => (iv = .int .i64 0 ∧ cv = .int .u64 0 ∧ wr = w) ∨ (iv = .int .i64 1 ∧ cv = .int .u64 (hi : Int) ∧ ∃ n, wr = (w.drewN n).setCell ⟨zb, zo, none⟩ (.int .u64 (lo : Int)))) (fun _ iv _ => 1 - (intOf iv).toNat)
  case atStart => exact .inl ⟨rfl, rfl, rfl⟩
  case round =>
    rcases hrel with ⟨rfl, rfl, rfl⟩ | ⟨rfl, rfl, n, rfl⟩
    · go_wp2_with fail
      refine (mulAddWWW0 x y hi lo hx hy hhi hlo _).mono ?_
      rintro e w1 ⟨rfl, n, rfl⟩
      have hz1 : (wr.drewN n).cell? ⟨zb, zo, none⟩ = some u := hz
      have hf1 : (wr.drewN n).frozen? ⟨zb, zo, none⟩ = false := hf
      clear hz hf hcx hx hy hhi hlo
      go_wp2_with fail
      go_roundw
      case rel => exact .inr ⟨by go_num, rfl, n, rfl⟩
      case measure => simp [intOf]
    · go_wp2_with fail
      go_ret
      exact ⟨rfl, n, rfl⟩
end Go.Proofs.YtggmbjdonlbfkaaGreatDoorBesafter

namespace Go.Proofs.YtggmbjdonlbfkaaGreatDoorBesafter
open Go Go.RowKit
set_option linter.unusedVariables false

theorem below_grown {w w' : World} (hb : Below w.heap.size w w') : w.grownBy w' none := ⟨hb.os, hb.tape, hb.output, hb.size, fun i hi _ => hb.block i hi⟩
/-- a fresh slice of words -/
def Fresh (w w' : World) (V : Value) (ws : List Nat) : Prop := Wds w' w.heap.size V ws ∧ Below w.heap.size w w'

set_option maxHeartbeats 1000000 in
set_option maxRecDepth 100000 in
theorem natMulW (xb xo xc : Nat) (x y : Nat) (w : World) (hx : x < W64) (hy : y < W64) (hy0 : y ≠ 0) (hcx : w.cell? ⟨xb, xo, none⟩ = some (.int .u64 (x : Int))) (hxc : 1 ≤ xc) :
    Calls Tryz.prog 129 #[.slice none 0 0, .slice (some ⟨xb, xo, none⟩) 1 xc, .int .u64 (y : Int), .int .u64 0] w
      fun e w' => ∃ V', e = .returned V' ∧ Fresh w w' V' (wordsOf (x * y)) := by
  have eg := mulAddVWW_enters
  obtain ⟨lo, hlo⟩ : ∃ lo, x * y % W64 = lo := ⟨_, rfl⟩
  obtain ⟨hi, hhi⟩ : ∃ hi, x * y / W64 = hi := ⟨_, rfl⟩
  have hlo1 : lo < W64 := by subst hlo; exact Nat.mod_lt _ (by decide)
  have hhi1 : hi < W64 := by subst hhi; exact mul_hi_lt hx hy
  have hval : valOf [lo, hi] = x * y := by
    simp only [valOf]
    have := Nat.mod_add_div (x * y) W64
    rw [hlo, hhi] at this
    omega
  have hml := mul_lt hx hy
  have hy1 : ((y : Int) == 0) = false := by rw [beq_eq_false_iff_ne]; omega
  have HXY := hide hval
  have HML := hide hml
  have HHI := hide hhi
  have HLO := hide hlo
  clear hval hml hhi hlo hy0
  go_enter Tryz.func129, Tryz.ntmps129
  go_wp2_with fail
  refine (natMake_2 _ 0 0 _ (by omega)).mono ?_
  rintro e w1 ⟨rfl, rfl⟩
  have hga : w.grownBy (w.alloc (.cells (zeros 6) 102)) none := World.grownBy_alloc w _ _
  have hra := RowIs.made w 6
  have hxa : (w.alloc (.cells (zeros 6) 102)).cell? ⟨xb, xo, none⟩ = some (.int .u64 (x : Int)) := below_cell ((Below.refl w.heap.size w).alloc (Nat.le_refl _) _) (World.block_lt_of_cell? _ _ hcx) hcx
  have hba : Below w.heap.size w (w.alloc (.cells (zeros 6) 102)) := (Below.refl _ _).alloc (Nat.le_refl _) _
  generalize w.alloc (.cells (zeros 6) 102) = wa at hga hra hxa hba ⊢
  have hz0 : ∃ u, wa.cell? ⟨w.heap.size, 0, none⟩ = some u ∧ u.oneCell' = true := ⟨.int .u64 0, by rw [hra.cell 0]; rfl, rfl⟩
  obtain ⟨u0, hz0, hu0⟩ := hz0
  have hfr0 := hra.fr 0
  go_wp2_with fail
  refine (mulAddVWW1 w.heap.size 0 _ xb xo _ u0 x y hi lo hx hy HHI.out HLO.out _ hz0 hu0 hfr0 hxa).mono ?_
  rintro e w2 ⟨rfl, n2, rfl⟩
  have hrc := (hra.drewN n2).set_ 0 (.int .u64 (lo : Int))
  have hbc := (bdrewN hba n2).setCell (Nat.le_refl _) (p := ⟨w.heap.size, 0, none⟩) (.int .u64 (lo : Int))
  generalize (wa.drewN n2).setCell ⟨w.heap.size, 0, none⟩ (.int .u64 (lo : Int)) = wc at hrc hbc ⊢
  have c1 : ∃ u, wc.cell? ⟨w.heap.size, 1, none⟩ = some u := ⟨_, (hrc.cell 1).trans (Array.getElem?_eq_getElem (by simp [zeros]; try omega))⟩
  obtain ⟨u1, c1⟩ := c1
  have f1 := hrc.fr 1
  clear hga hra hxa hba hz0 hu0 hfr0
  go_wp2_with fail
  have hrd := hrc.set_ 1 (.int .u64 (hi : Int))
  have hbd := hbc.setCell (Nat.le_refl _) (p := ⟨w.heap.size, 1, none⟩) (.int .u64 (hi : Int))
  generalize wc.setCell ⟨w.heap.size, 1, none⟩ (.int .u64 (hi : Int)) = wd at hrd hbd ⊢
  have htk : (((zeros 6).setIfInBounds 0 (.int .u64 (lo : Int))).setIfInBounds 1 (.int .u64 (hi : Int))).toList.take ([lo, hi] : List Nat).length = [lo, hi].flatMap wEnc := by
    rw [Array.toList_setIfInBounds, Array.toList_setIfInBounds]
    exact take_set2 _ _ _ (by simp [zeros]; try omega)
  refine (natNorm [lo, hi] w.heap.size 6 _ (rd_row hrd htk) (by simp) (by simp; try omega)).mono ?_
  rintro e w5 ⟨⟨k, hk, rfl, hz, hl⟩, n5, rfl⟩
  go_wp2_with fail
  go_ret
  have hg := gave_row (w := w) (w' := wd.drewN n5) (B := w.heap.size) (c := 6) (V := .slice none 0 0) (k := k) (v := x * y) (below_grown (bdrewN hbd n5)) (hrd.drewN n5) htk (by simp [zeros]; try omega) (Nat.le_refl _) (by unfold maxLen; omega) (by omega) (.inr (Nat.le_refl _)) (by
      intro z hz'
      simp only [List.mem_cons, List.not_mem_nil, or_false] at hz'
      rcases hz' with rfl | rfl
      · exact hlo1
      · exact hhi1) HXY.out HML.out (by simp) (by simp; try omega) hk hz hl
  exact ⟨_, rfl, hg.wds, bdrewN hbd n5⟩

set_option maxRecDepth 100000 in
theorem natMul_0 (stk : Value) (n c d : Nat) (A YA : Option Addr) (w : World) (hn : n ≤ 1) :
    Calls Tryz.prog 95 #[.slice none 0 0, stk, .slice A n c, .slice YA 0 d] w fun e w' => e = .returned (.slice none 0 0) ∧ ∃ k, w' = w.drewN k := by
  rcases (show n = 0 ∨ n = 1 by omega) with rfl | rfl
  · go_enter Tryz.func95, Tryz.ntmps95
    go_wp2_with fail
    go_ret
    exact ⟨rfl, 0, rfl⟩
  · go_enter Tryz.func95, Tryz.ntmps95
    go_wp2_with fail
    go_ret
    exact ⟨rfl, 0, rfl⟩
set_option maxRecDepth 100000 in
theorem natMul_00 (stk : Value) (d c : Nat) (A YA : Option Addr) (w : World) :
    Calls Tryz.prog 95 #[.slice none 0 0, stk, .slice A 0 c, .slice YA 1 d] w fun e w' => e = .returned (.slice none 0 0) ∧ ∃ k, w' = w.drewN k := by
  go_enter Tryz.func95, Tryz.ntmps95
  go_wp2_with fail
  refine (natMul_0 stk 1 d c YA A _ (by omega)).mono ?_
  rintro e w1 ⟨rfl, k, rfl⟩
  go_wp2_with fail
  go_ret
  exact ⟨rfl, k, rfl⟩
set_option maxRecDepth 100000 in
theorem natMul_11 (stk : Value) (xb xo xc yb yo yc x y : Nat) (w : World) (hx : x < W64) (hy : y < W64) (hy0 : y ≠ 0) (hcx : w.cell? ⟨xb, xo, none⟩ = some (.int .u64 (x : Int))) (hxc : 1 ≤ xc) (hcy : w.cell? ⟨yb, yo, none⟩ = some (.int .u64 (y : Int))) :
    Calls Tryz.prog 95 #[.slice none 0 0, stk, .slice (some ⟨xb, xo, none⟩) 1 xc, .slice (some ⟨yb, yo, none⟩) 1 yc] w fun e w' => ∃ V', e = .returned V' ∧ Fresh w w' V' (wordsOf (x * y)) := by
  go_enter Tryz.func95, Tryz.ntmps95
  go_wp2_with fail
  refine (natMulW xb xo xc x y _ hx hy hy0 hcx hxc).mono ?_
  rintro e w1 ⟨V', rfl, hF⟩
  go_wp2_with fail
  go_ret
  exact ⟨_, rfl, hF⟩
theorem Fresh.nil (w : World) (k : Nat) : Fresh w (w.drewN k) (.slice none 0 0) [] := ⟨⟨Own.nil _ _ _ _ _, none, 0, rfl, by omega⟩, bdrewN (Below.refl _ _) k⟩
/-- the product of two numbers of one word each, into nothing -/
theorem natMulV (stk : Value) (a b n c m d : Nat) (A YA : Option Addr) (w : World) (hx : YWds w A n a) (hxc : n ≤ c) (hy : YWds w YA m b) :
    Calls Tryz.prog 95 #[.slice none 0 0, stk, .slice A n c, .slice YA m d] w fun e w' => ∃ V', e = .returned V' ∧ Fresh w w' V' (wordsOf (a * b)) := by
  rcases hy.cases with ⟨rfl, rfl⟩ | ⟨hb, rfl, yb, yo, rfl, hcy⟩
  · refine (natMul_0 stk n c d A YA w ?_).mono ?_
    · rcases hx.cases with ⟨_, rfl⟩ | ⟨_, rfl, _⟩ <;> omega
    · rintro e w' ⟨rfl, k, rfl⟩
      exact ⟨_, rfl, by rw [Nat.mul_zero, wordsOf_0]; exact Fresh.nil w k⟩
  · rcases hx.cases with ⟨rfl, rfl⟩ | ⟨ha, rfl, xb, xo, rfl, hcx⟩
    · refine (natMul_00 stk d c A _ w).mono ?_
      rintro e w' ⟨rfl, k, rfl⟩
      exact ⟨_, rfl, by rw [Nat.zero_mul, wordsOf_0]; exact Fresh.nil w k⟩
    · exact natMul_11 stk xb xo c yb yo d a b w hx.2 hy.2 hb hcx hxc hcy
end Go.Proofs.YtggmbjdonlbfkaaGreatDoorBesafter
