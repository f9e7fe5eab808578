/- Great numbers: what is divided by 1, into nothing; the quotient of one word by one word. -/
import Derived.Test.YtggmbjdonlbfkaaGreatDoorBesafterMulC
import Derived.Laws.IdiomCopy
namespace Go.Proofs.YtggmbjdonlbfkaaGreatDoorBesafter
open Go Go.RowKit
set_option linter.unusedVariables false

set_option maxRecDepth 100000 in
theorem natSet_00 (A : Option Addr) (c : Nat) (w : World) :
    Calls Tryz.prog 96 #[.slice none 0 0, .slice A 0 c] w fun e w' => e = .returned (.slice none 0 0) ∧ ∃ n, w' = w.drewN n := by
  have hcp : ∀ (W : World) (ty : TypeId), (Builtin.copy_ #[70, 70] ty #[.slice none 0 0, .slice A 0 c]).run Tryz.prog W = .ok (goInt 0) W :=
    fun W ty => run_copy_none W 70 70 ty 102 none A 0 0 0 c Tryz.underlying70 word_size rfl
  go_enter Tryz.func96, Tryz.ntmps96
  go_wp2_with fail
  refine (natMake_fits none 0 0 0 _ (by omega) (by unfold maxLen; omega)).mono ?_
  rintro e w1 ⟨rfl, n1, rfl⟩
  go_wp2_with fail
  go_ret
  exact ⟨rfl, n1, rfl⟩
/-- the words of a number, set into nothing -/
theorem natSet_new (a n c : Nat) (A : Option Addr) (w : World) (hx : YWds w A n a) :
    Calls Tryz.prog 96 #[.slice none 0 0, .slice A n c] w fun e w' => ∃ V', e = .returned V' ∧ Fresh w w' V' (wordsOf a) := by
  rcases hx.cases with ⟨rfl, rfl⟩ | ⟨ha, rfl, xb, xo, rfl, hcx⟩
  · refine (natSet_00 A c w).mono ?_
    rintro e w' ⟨rfl, k, rfl⟩
    exact ⟨_, rfl, by rw [wordsOf_0]; exact Fresh.nil w k⟩
  · refine (natSet_from w.heap.size 0 0 none a xb xo c w (Nat.le_refl _) hx.2 ha rfl ⟨Own.nil _ _ _ _ _, none, 0, rfl, by omega⟩ hcx).mono ?_
    rintro e w' ⟨V', rfl, hG⟩
    exact ⟨V', rfl, hG.wds, ⟨hG.grown.os, hG.grown.tape, hG.grown.output, hG.grown.size, fun i hi => hG.grown.block i hi (by simp [Value.ownBlock])⟩⟩
set_option maxRecDepth 100000 in
theorem setWord_0 (w : World) : Calls Tryz.prog 136 #[.slice none 0 0, .int .u64 0] w fun e w' => e = .returned (.slice none 0 0) ∧ ∃ n, w' = w.drewN n := by
  go_enter Tryz.func136, Tryz.ntmps136
  go_wp2_with fail
  go_ret
  exact ⟨rfl, 0, rfl⟩
set_option maxRecDepth 100000 in
theorem divW_one (a n c : Nat) (A : Option Addr) (w : World) (hx : YWds w A n a) :
    Calls Tryz.prog 135 #[.slice none 0 0, .slice A n c, .int .u64 1] w fun e w' => ∃ V', e = .returned (.tuple #[V', .int .u64 0]) ∧ Fresh w w' V' (wordsOf a) := by
  go_enter Tryz.func135, Tryz.ntmps135
  go_wp2_with fail
  refine (natSet_new a n c A _ hx).mono ?_
  rintro e w1 ⟨V', rfl, hF⟩
  go_wp2_with fail
  go_ret2
  exact ⟨V', rfl, hF⟩
set_option maxRecDepth 100000 in
theorem natDiv_one (a n c yb yo yc : Nat) (A : Option Addr) (w : World) (hx : YWds w A n a) (hcy : w.cell? ⟨yb, yo, none⟩ = some (.int .u64 1)) :
    Calls Tryz.prog 97 #[.slice none 0 0, .pointer none, .slice none 0 0, .slice A n c, .slice (some ⟨yb, yo, none⟩) 1 yc] w fun e w' => ∃ V', e = .returned (.tuple #[V', .slice none 0 0]) ∧ Fresh w w' V' (wordsOf a) := by
  go_enter Tryz.func97, Tryz.ntmps97
  go_wp2_with fail
  refine (divW_one a n c A _ hx).mono ?_
  rintro e w1 ⟨V', rfl, hF⟩
  go_wp2_with fail
  refine (setWord_0 _).mono ?_
  rintro e w2 ⟨rfl, n2, rfl⟩
  go_wp2_with fail
  go_ret2
  exact ⟨V', rfl, ⟨hF.1.own.below (bdrewN (Below.refl _ _) n2), hF.1.cap⟩, bdrewN hF.2 n2⟩

set_option maxRecDepth 100000 in
theorem bits_div64 (x y : Nat) (hx : x < W64) (hy : y < W64) (h0 : y ≠ 0) (w : World) :
    Calls Tryz.prog 208 #[.int .u64 0, .int .u64 (x : Int), .int .u64 (y : Int)] w fun e w' => e = .returned (.tuple #[.int .u64 ((x / y : Nat) : Int), .int .u64 ((x % y : Nat) : Int)]) ∧ ∃ n, w' = w.drewN n := by
  have h1 : ((y : Int) == 0) = false := by rw [beq_eq_false_iff_ne]; omega
  have h2 : ¬ (y : Int) = 0 := by omega
  have h3 : ¬ (y : Int) ≤ 0 := by omega
  have hq : x / y < 18446744073709551616 := Nat.lt_of_le_of_lt (Nat.div_le_self _ _) hx
  have hw := hide (show IntKind.u64.wrap ((x : Int) / (y : Int)) = (x : Int) / (y : Int) by
    rw [← Int.natCast_ediv]
    generalize x / y = q at hq ⊢
    rw [IntKind.wrap_u64]; omega)
  clear hq
  go_enter Tryz.func208, Tryz.ntmps208
  go_wp2_with fail
  go_quiet (fail)
  go_wp2_with fail
  go_ret2
  exact ⟨by simp [hw.out], _, rfl⟩
set_option maxRecDepth 100000 in
theorem bits_div (x y : Nat) (hx : x < W64) (hy : y < W64) (h0 : y ≠ 0) (w : World) :
    Calls Tryz.prog 187 #[.int .u64 0, .int .u64 (x : Int), .int .u64 (y : Int)] w fun e w' => e = .returned (.tuple #[.int .u64 ((x / y : Nat) : Int), .int .u64 ((x % y : Nat) : Int)]) ∧ ∃ n, w' = w.drewN n := by
  have hx1 : x < 18446744073709551616 := hx
  have hy1 : y < 18446744073709551616 := hy
  have hq : x / y < 18446744073709551616 := Nat.lt_of_le_of_lt (Nat.div_le_self _ _) hx
  have hr : x % y < 18446744073709551616 := Nat.lt_of_le_of_lt (Nat.mod_le _ _) hx
  have hc := bits_div64 x y hx hy h0
  generalize x / y = q at hq hc ⊢
  generalize x % y = r at hr hc ⊢
  go_enter Tryz.func187, Tryz.ntmps187
  go_wp2_with fail
  refine (hc _).mono ?_
  rintro e w1 ⟨rfl, n, rfl⟩
  go_wp2_with fail
  go_ret2
  exact ⟨by simp, n, rfl⟩
/-- one word by one word: the quotient is stored, the rest handed back -/
theorem divWVW1 (zb zo zc xb xo xc : Nat) (u : Value) (x y : Nat) (hx : x < W64) (hy : y < W64) (h0 : y ≠ 0) (w : World)
    (hz : w.cell? ⟨zb, zo, none⟩ = some u) (hu : u.oneCell' = true) (hf : w.frozen? ⟨zb, zo, none⟩ = false) (hcx : w.cell? ⟨xb, xo, none⟩ = some (.int .u64 (x : Int))) :
    Calls Tryz.prog 161 #[.slice (some ⟨zb, zo, none⟩) 1 zc, .int .u64 0, .slice (some ⟨xb, xo, none⟩) 1 xc, .int .u64 (y : Int)] w
      fun e w' => e = .returned (.int .u64 ((x % y : Nat) : Int)) ∧ ∃ n, w' = (w.drewN n).setCell ⟨zb, zo, none⟩ (.int .u64 ((x / y : Nat) : Int)) := by
  have hx1 : x < 18446744073709551616 := hx
  have hy1 : y < 18446744073709551616 := hy
  have hq : x / y < 18446744073709551616 := Nat.lt_of_le_of_lt (Nat.div_le_self _ _) hx
  have hr : x % y < 18446744073709551616 := Nat.lt_of_le_of_lt (Nat.mod_le _ _) hx
  have hc := bits_div x y hx hy h0
  generalize x / y = q at hq hc ⊢
  generalize x % y = r at hr hc ⊢
  go_enter Tryz.func161, Tryz.ntmps161
  go_wp2_with fail
  refine (hc _).mono ?_
  rintro e w1 ⟨rfl, n, rfl⟩
  have hz1 : (w.drewN n).cell? ⟨zb, zo, none⟩ = some u := hz
  have hf1 : (w.drewN n).frozen? ⟨zb, zo, none⟩ = false := hf
  clear hz hf hcx
  go_wp2_with fail
  go_ret
  exact ⟨by simp, n, rfl⟩
end Go.Proofs.YtggmbjdonlbfkaaGreatDoorBesafter
