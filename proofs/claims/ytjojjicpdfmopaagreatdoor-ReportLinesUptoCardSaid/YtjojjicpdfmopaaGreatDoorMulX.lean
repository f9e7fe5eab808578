/- Great numbers: the product of two words. -/
import Derived.Test.YtjojjicpdfmopaaGreatDoorBigI
import Derived.Test.YtjojjicpdfmopaaGreatDoorShelf
import Derived.Deep.RegionLaw
import Derived.LaidEqlPtr
import Derived.BigRegion
import Derived.Laws.IdiomCopy
namespace Go.Proofs.YtjojjicpdfmopaaGreatDoor
open Go Go.RowKit
set_option linter.unusedVariables false

theorem bits_mul (x y : Nat) (hx : x < W64) (hy : y < W64) (w : World) :
    Calls Tryz.prog 43 #[.int .u64 (x : Int), .int .u64 (y : Int)] w fun e w' => e = .returned (.tuple #[.int .u64 ((x * y / W64 : Nat) : Int), .int .u64 ((x * y % W64 : Nat) : Int)]) ∧ w' = w :=
  Any.bits_Mul (P := Tryz.prog) (ρ := Tryz.lays212_ren) Tryz.lays212 x y hx hy w

theorem mulAddVWW_enters (args : Array Value) (w : World) : (callFunc 133 args).run Tryz.prog w = .ok (.enter 38 args) w :=
  run_callFunc_twin (twin := Tryz.f38.name) Tryz.func133 (by kernel_rfl) (by kernel_rfl) (by kernel_rfl) (by kernel_rfl) Tryz.func38 (by kernel_rfl) (by kernel_rfl) (by kernel_rfl) args w

theorem mul_lt {x y : Nat} (hx : x < W64) (hy : y < W64) : x * y < W64 * W64 := by
  have h1 : x * y ≤ (W64 - 1) * (W64 - 1) := Nat.mul_le_mul (by omega) (by omega)
  exact Nat.lt_of_le_of_lt h1 (by decide)
theorem mul_hi_lt {x y : Nat} (hx : x < W64) (hy : y < W64) : x * y / W64 < W64 := Nat.div_lt_of_lt_mul (mul_lt hx hy)

theorem mulAddWWW0 (x y hi lo : Nat) (hx : x < W64) (hy : y < W64) (hhi : x * y / W64 = hi) (hlo : x * y % W64 = lo) (w : World) :
    Calls Tryz.prog 135 #[.int .u64 (x : Int), .int .u64 (y : Int), .int .u64 0] w
      fun e w' => e = .returned (.tuple #[.int .u64 (hi : Int), .int .u64 (lo : Int)]) ∧ ∃ n, w' = w.drewN n := by
  have h1 : hi < 18446744073709551616 := by rw [← hhi]; exact mul_hi_lt hx hy
  have h2 : lo < W64 := by rw [← hlo]; exact Nat.mod_lt _ (by decide)
  have hb := bits_mul x y hx hy
  rw [hhi, hlo] at hb
  have hb2 := bitsAdd_any lo 0 0 lo 0 h2 (by decide) (by omega) (Nat.mod_eq_of_lt h2) (Nat.div_eq_of_lt h2)
  clear hhi hlo hx hy
  go_enter Tryz.func135, Tryz.ntmps135
  go_wp2_with fail
  refine (hb _).mono ?_
  rintro e w1 ⟨rfl, rfl⟩
  go_wp2_with fail
  refine (hb2 _).mono ?_
  rintro e w2 ⟨rfl, n, rfl⟩
  go_wp2_with fail
  go_ret2
  exact ⟨by simp, n, rfl⟩

/-- one word by a word: the low word is stored, the high one handed back -/
theorem mulAddVWW1 (zb zo zc xb xo xc : Nat) (u : Value) (x y hi lo : Nat) (hx : x < W64) (hy : y < W64) (hhi : x * y / W64 = hi) (hlo : x * y % W64 = lo) (w : World)
    (hz : w.cell? ⟨zb, zo, none⟩ = some u) (hu : u.oneCell' = true) (hf : w.frozen? ⟨zb, zo, none⟩ = false) (hcx : w.cell? ⟨xb, xo, none⟩ = some (.int .u64 (x : Int))) :
    Calls Tryz.prog 38 #[.slice (some ⟨zb, zo, none⟩) 1 zc, .slice (some ⟨xb, xo, none⟩) 1 xc, .int .u64 (y : Int), .int .u64 0] w
      fun e w' => e = .returned (.int .u64 (hi : Int)) ∧ ∃ n, w' = (w.drewN n).setCell ⟨zb, zo, none⟩ (.int .u64 (lo : Int)) := by
  go_enter Tryz.func38, Tryz.ntmps38
  go_wp2_with fail
  go_loopw [8, 19] (fun cv iv wr => (iv = .int .i64 0 ∧ cv = .int .u64 0 ∧ wr = w) ∨ (iv = .int .i64 1 ∧ cv = .int .u64 (hi : Int) ∧ ∃ n, wr = (w.drewN n).setCell ⟨zb, zo, none⟩ (.int .u64 (lo : Int)))) (fun _ iv _ => 1 - (intOf iv).toNat)
  case atStart => exact .inl ⟨rfl, rfl, rfl⟩
  case round =>
    rcases hrel with ⟨rfl, rfl, rfl⟩ | ⟨rfl, rfl, n, rfl⟩
    · go_wp2_with fail
      refine (mulAddWWW0 x y hi lo hx hy hhi hlo _).mono ?_
      rintro e w1 ⟨rfl, n, rfl⟩
      have hz1 : (wr.drewN n).cell? ⟨zb, zo, none⟩ = some u := hz
      have hf1 : (wr.drewN n).frozen? ⟨zb, zo, none⟩ = false := hf
      clear hz hf hcx hx hy hhi hlo
      go_wp2_with fail
      go_roundw
      case rel => exact .inr ⟨by go_num, rfl, n, rfl⟩
      case measure => simp [intOf]
    · go_wp2_with fail
      go_ret
      exact ⟨rfl, n, rfl⟩
end Go.Proofs.YtjojjicpdfmopaaGreatDoor

namespace Go.Proofs.YtjojjicpdfmopaaGreatDoor
open Go Go.RowKit
set_option linter.unusedVariables false

theorem below_grown {w w' : World} (hb : Below w.heap.size w w') : w.grownBy w' none := ⟨hb.os, hb.tape, hb.output, hb.size, fun i hi _ => hb.block i hi⟩
/-- a fresh slice of words -/
def Fresh (w w' : World) (V : Value) (ws : List Nat) : Prop := Wds w' w.heap.size V ws ∧ Below w.heap.size w w'

set_option maxHeartbeats 1000000 in
set_option maxRecDepth 100000 in
theorem natMulW (xb xo xc : Nat) (x y : Nat) (w : World) (hx : x < W64) (hy : y < W64) (hy0 : y ≠ 0) (hcx : w.cell? ⟨xb, xo, none⟩ = some (.int .u64 (x : Int))) (hxc : 1 ≤ xc) :
    Calls Tryz.prog 231 #[.slice none 0 0, .slice (some ⟨xb, xo, none⟩) 1 xc, .int .u64 (y : Int), .int .u64 0] w
      fun e w' => ∃ V', e = .returned V' ∧ Fresh w w' V' (wordsOf (x * y)) := by
  have eg := mulAddVWW_enters
  obtain ⟨lo, hlo⟩ : ∃ lo, x * y % W64 = lo := ⟨_, rfl⟩
  obtain ⟨hi, hhi⟩ : ∃ hi, x * y / W64 = hi := ⟨_, rfl⟩
  have hlo1 : lo < W64 := by subst hlo; exact Nat.mod_lt _ (by decide)
  have hhi1 : hi < W64 := by subst hhi; exact mul_hi_lt hx hy
  have hval : valOf [lo, hi] = x * y := by
    simp only [valOf]
    have := Nat.mod_add_div (x * y) W64
    rw [hlo, hhi] at this
    omega
  have hml := mul_lt hx hy
  have hy1 : ((y : Int) == 0) = false := by rw [beq_eq_false_iff_ne]; omega
  have HXY := hide hval
  have HML := hide hml
  have HHI := hide hhi
  have HLO := hide hlo
  clear hval hml hhi hlo hy0
  go_enter Tryz.func231, Tryz.ntmps231
  go_wp2_with fail
  refine (natMake_2 _ 0 0 _ (by omega)).mono ?_
  rintro e w1 ⟨rfl, rfl⟩
  have hga : w.grownBy (w.alloc (.cells (zeros 6) 110)) none := World.grownBy_alloc w _ _
  have hra := RowIs.made w 6
  have hxa : (w.alloc (.cells (zeros 6) 110)).cell? ⟨xb, xo, none⟩ = some (.int .u64 (x : Int)) := below_cell ((Below.refl w.heap.size w).alloc (Nat.le_refl _) _) (World.block_lt_of_cell? _ _ hcx) hcx
  have hba : Below w.heap.size w (w.alloc (.cells (zeros 6) 110)) := (Below.refl _ _).alloc (Nat.le_refl _) _
  generalize w.alloc (.cells (zeros 6) 110) = wa at hga hra hxa hba ⊢
  have hz0 : ∃ u, wa.cell? ⟨w.heap.size, 0, none⟩ = some u ∧ u.oneCell' = true := ⟨.int .u64 0, by rw [hra.cell 0]; rfl, rfl⟩
  obtain ⟨u0, hz0, hu0⟩ := hz0
  have hfr0 := hra.fr 0
  go_wp2_with fail
  refine (mulAddVWW1 w.heap.size 0 _ xb xo _ u0 x y hi lo hx hy HHI.out HLO.out _ hz0 hu0 hfr0 hxa).mono ?_
  rintro e w2 ⟨rfl, n2, rfl⟩
  have hrc := (hra.drewN n2).set_ 0 (.int .u64 (lo : Int))
  have hbc := (bdrewN hba n2).setCell (Nat.le_refl _) (p := ⟨w.heap.size, 0, none⟩) (.int .u64 (lo : Int))
  generalize (wa.drewN n2).setCell ⟨w.heap.size, 0, none⟩ (.int .u64 (lo : Int)) = wc at hrc hbc ⊢
  have c1 : ∃ u, wc.cell? ⟨w.heap.size, 1, none⟩ = some u := ⟨_, (hrc.cell 1).trans (Array.getElem?_eq_getElem (by simp [zeros]; try omega))⟩
  obtain ⟨u1, c1⟩ := c1
  have f1 := hrc.fr 1
  clear hga hra hxa hba hz0 hu0 hfr0
  go_wp2_with fail
  have hrd := hrc.set_ 1 (.int .u64 (hi : Int))
  have hbd := hbc.setCell (Nat.le_refl _) (p := ⟨w.heap.size, 1, none⟩) (.int .u64 (hi : Int))
  generalize wc.setCell ⟨w.heap.size, 1, none⟩ (.int .u64 (hi : Int)) = wd at hrd hbd ⊢
  have htk : (((zeros 6).setIfInBounds 0 (.int .u64 (lo : Int))).setIfInBounds 1 (.int .u64 (hi : Int))).toList.take ([lo, hi] : List Nat).length = [lo, hi].flatMap wEnc := by
    rw [Array.toList_setIfInBounds, Array.toList_setIfInBounds]
    exact take_set2 _ _ _ (by simp [zeros]; try omega)
  refine (natNorm [lo, hi] w.heap.size 6 _ (rd_row hrd htk) (by simp) (by simp; try omega)).mono ?_
  rintro e w5 ⟨⟨k, hk, rfl, hz, hl⟩, n5, rfl⟩
  go_wp2_with fail
  go_ret
  have hg := gave_row (w := w) (w' := wd.drewN n5) (B := w.heap.size) (c := 6) (V := .slice none 0 0) (k := k) (v := x * y) (below_grown (bdrewN hbd n5)) (hrd.drewN n5) htk (by simp [zeros]; try omega) (Nat.le_refl _) (by unfold maxLen; omega) (by omega) (.inr (Nat.le_refl _)) (by
      intro z hz'
      simp only [List.mem_cons, List.not_mem_nil, or_false] at hz'
      rcases hz' with rfl | rfl
      · exact hlo1
      · exact hhi1) HXY.out HML.out (by simp) (by simp; try omega) hk hz hl
  exact ⟨_, rfl, hg.wds, bdrewN hbd n5⟩

set_option maxRecDepth 100000 in
theorem natMul_0 (stk : Value) (n c d : Nat) (A YA : Option Addr) (w : World) (hn : n ≤ 1) :
    Calls Tryz.prog 185 #[.slice none 0 0, stk, .slice A n c, .slice YA 0 d] w fun e w' => e = .returned (.slice none 0 0) ∧ ∃ k, w' = w.drewN k := by
  rcases (show n = 0 ∨ n = 1 by omega) with rfl | rfl
  · go_enter Tryz.func185, Tryz.ntmps185
    go_wp2_with fail
    go_ret
    exact ⟨rfl, 0, rfl⟩
  · go_enter Tryz.func185, Tryz.ntmps185
    go_wp2_with fail
    go_ret
    exact ⟨rfl, 0, rfl⟩
set_option maxRecDepth 100000 in
theorem natMul_00 (stk : Value) (d c : Nat) (A YA : Option Addr) (w : World) :
    Calls Tryz.prog 185 #[.slice none 0 0, stk, .slice A 0 c, .slice YA 1 d] w fun e w' => e = .returned (.slice none 0 0) ∧ ∃ k, w' = w.drewN k := by
  go_enter Tryz.func185, Tryz.ntmps185
  go_wp2_with fail
  refine (natMul_0 stk 1 d c YA A _ (by omega)).mono ?_
  rintro e w1 ⟨rfl, k, rfl⟩
  go_wp2_with fail
  go_ret
  exact ⟨rfl, k, rfl⟩
set_option maxRecDepth 100000 in
theorem natMul_11 (stk : Value) (xb xo xc yb yo yc x y : Nat) (w : World) (hx : x < W64) (hy : y < W64) (hy0 : y ≠ 0) (hcx : w.cell? ⟨xb, xo, none⟩ = some (.int .u64 (x : Int))) (hxc : 1 ≤ xc) (hcy : w.cell? ⟨yb, yo, none⟩ = some (.int .u64 (y : Int))) :
    Calls Tryz.prog 185 #[.slice none 0 0, stk, .slice (some ⟨xb, xo, none⟩) 1 xc, .slice (some ⟨yb, yo, none⟩) 1 yc] w fun e w' => ∃ V', e = .returned V' ∧ Fresh w w' V' (wordsOf (x * y)) := by
  go_enter Tryz.func185, Tryz.ntmps185
  go_wp2_with fail
  refine (natMulW xb xo xc x y _ hx hy hy0 hcx hxc).mono ?_
  rintro e w1 ⟨V', rfl, hF⟩
  go_wp2_with fail
  go_ret
  exact ⟨_, rfl, hF⟩
theorem Fresh.nil (w : World) (k : Nat) : Fresh w (w.drewN k) (.slice none 0 0) [] := ⟨⟨Own.nil _ _ _ _ _, none, 0, rfl, by omega⟩, bdrewN (Below.refl _ _) k⟩
/-- the product of two numbers of one word each, into nothing -/
theorem natMulV (stk : Value) (a b n c m d : Nat) (A YA : Option Addr) (w : World) (hx : YWds w A n a) (hxc : n ≤ c) (hy : YWds w YA m b) :
    Calls Tryz.prog 185 #[.slice none 0 0, stk, .slice A n c, .slice YA m d] w fun e w' => ∃ V', e = .returned V' ∧ Fresh w w' V' (wordsOf (a * b)) := by
  rcases hy.cases with ⟨rfl, rfl⟩ | ⟨hb, rfl, yb, yo, rfl, hcy⟩
  · refine (natMul_0 stk n c d A YA w ?_).mono ?_
    · rcases hx.cases with ⟨_, rfl⟩ | ⟨_, rfl, _⟩ <;> omega
    · rintro e w' ⟨rfl, k, rfl⟩
      exact ⟨_, rfl, by rw [Nat.mul_zero, wordsOf_0]; exact Fresh.nil w k⟩
  · rcases hx.cases with ⟨rfl, rfl⟩ | ⟨ha, rfl, xb, xo, rfl, hcx⟩
    · refine (natMul_00 stk d c A _ w).mono ?_
      rintro e w' ⟨rfl, k, rfl⟩
      exact ⟨_, rfl, by rw [Nat.zero_mul, wordsOf_0]; exact Fresh.nil w k⟩
    · exact natMul_11 stk xb xo c yb yo d a b w hx.2 hy.2 hb hcx hxc hcy
end Go.Proofs.YtjojjicpdfmopaaGreatDoor

namespace Go.Proofs.YtjojjicpdfmopaaGreatDoor
open Go Go.RowKit
set_option linter.unusedVariables false

theorem own_lower {α : Type} {w : World} {B B' : Nat} {e sz : Nat} {enc : α → List Value} {v : Value} {l : List α} (h : Own w B e sz enc v l) (hB : B' ≤ B) : Own w B' e sz enc v l := by
  refine ⟨h.1, ?_⟩
  rcases h.2 with h1 | ⟨g, cap, cur, h1, h2, h3⟩
  · exact .inl h1
  · exact .inr ⟨g, cap, cur, h1, Nat.le_trans hB h2, h3⟩
theorem Fresh.gave {w w' : World} {B : Nat} {V V' : Value} {ws : List Nat} (h : Fresh w w' V' ws) (hB : B ≤ w.heap.size) (hV : V.ownBlock = none) : Gave w w' B V V' ws := by
  refine ⟨⟨own_lower h.1.own hB, h.1.cap⟩, by rw [hV]; exact below_grown h.2, ?_⟩
  rw [hV]
  cases hk : V'.ownBlock with
  | none => exact .inl rfl
  | some k => exact .inr ⟨k, rfl, (h.1.own.block k hk).1⟩
/-- a number of one word is one that can be read -/
theorem BigAt.rd {w : World} {B g : Nat} {V : Value} {x : Int} (h : BigAt w B g V x) (hx : x.natAbs < W64) : ∃ YA yn yc, V = .slice YA yn yc ∧ BigRd w g x YA yn yc := by
  obtain ⟨A, c, rfl⟩ := h.form
  have hrd := h.wds.own.rd wEnc_ok
  obtain ⟨A', c', e, h1, _⟩ := h.wds.own.form
  injection e with _ _ e3
  exact ⟨A, _, c, rfl, ⟨h.c0, h.c1, ⟨hrd, hx⟩, by omega⟩⟩
/-- a new number, 0 -/
theorem BigAt.new (w : World) : BigAt (w.alloc (.cells #[.bool false, .slice none 0 0] 65)) w.heap.size w.heap.size (.slice none 0 0) 0 :=
  ⟨Nat.le_refl _, by simp, by simp, fun q => by simp, ⟨Own.nil _ _ _ _ _, none, 0, rfl, by omega⟩, by simp [Value.ownBlock]⟩

/-- block g is plain cells -/
def Blk (w : World) (g : Nat) : Prop := ∃ cs t, w.heap[g]? = some (.cells cs t (0, 0))
theorem Blk.lt {w : World} {g : Nat} (h : Blk w g) : g < w.heap.size := by
  obtain ⟨cs, t, h⟩ := h
  rcases Nat.lt_or_ge g w.heap.size with hlt | hge
  · exact hlt
  · rw [Array.getElem?_eq_none hge] at h; cases h
theorem Blk.new (w : World) (cs : Array Value) (t : TypeId) : Blk (w.alloc (.cells cs t)) w.heap.size := ⟨cs, t, heap_alloc_new w _⟩
theorem Blk.below {w w' : World} {g : Nat} (h : Blk w g) (hb : Below w.heap.size w w') : Blk w' g := by
  obtain ⟨cs, t, e⟩ := h
  exact ⟨cs, t, (hb.block g (Blk.lt ⟨cs, t, e⟩)).trans e⟩
theorem Blk.setCell {w : World} {g : Nat} (h : Blk w g) (g' i : Nat) (v : Value) : Blk (w.setCell ⟨g', i, none⟩ v) g := by
  obtain ⟨cs, t, e⟩ := h
  by_cases hg : g = g'
  · subst hg
    exact ⟨_, t, heap_setCell_same w g i cs _ v e⟩
  · exact ⟨cs, t, (Below.heap_setCell w ⟨g', i, none⟩ v g hg).trans e⟩
theorem Blk.grown {w w' : World} {g : Nat} {row : Option Nat} (h : Blk w g) (hg : w.grownBy w' row) (hne : row ≠ some g) : Blk w' g := by
  obtain ⟨cs, t, e⟩ := h
  exact ⟨cs, t, (hg.block g (Blk.lt ⟨cs, t, e⟩) (fun k => hne k.symm)).trans e⟩
theorem bigInt_info : (Tryz.prog.info? 65).map (·.size) = some 2 := by kernel_rfl
theorem ptr_other {w : World} {g q : Nat} (hne : g ≠ q) (hg : Blk w g) (hq : Blk w q) : (binOp .eql 61 (.pointer (some ⟨g, 0, none⟩)) (.pointer (some ⟨q, 0, none⟩))).run Tryz.prog w = .ok (.bool false) w := by
  obtain ⟨cs, t, e⟩ := hg
  obtain ⟨ds, u, f⟩ := hq
  cases hi : Tryz.prog.info? 65 with
  | none => have := bigInt_info; rw [hi] at this; cases this
  | some j =>
    have hs : j.size = 2 := by have := bigInt_info; rw [hi] at this; simpa using this
    exact run_eql_ptr_other w Tryz.underlying61 hi (by omega) (by intro k; injection k with k; exact hne k) e f
set_option maxRecDepth 100000 in
/-- as newInt_any, and where it lies -/
theorem newInt_new (x : Int) (w : World) (h0 : -9223372036854775808 ≤ x) (h1 : x ≤ 9223372036854775807) :
    Calls Tryz.prog 41 #[.int .i64 x] w fun e w' => ∃ g YA yn yc, e = .returned (.pointer (some ⟨g, 0, none⟩)) ∧ BigRd w' g x YA yn yc ∧ w.heap.size ≤ g ∧ Blk w' g ∧ Below w.heap.size w w' := by
  have BN : ∀ (o : Obj) (cs : Array Value), Blk ((w.alloc o).alloc (.cells cs 65)) (w.heap.size + 1) := fun o cs => by
    have := Blk.new (w.alloc o) cs 65
    rwa [show (w.alloc o).heap.size = w.heap.size + 1 by simp] at this
  by_cases hx : x < 0
  · have hd : decide (x < 0) = true := by simpa using hx
    have hN := newInt_at w x true hd (by omega) (by unfold W64; omega)
    have hw := wrap_neg x h0 hx
    have hxe : (x == 0) = false := by rw [beq_eq_false_iff_ne]; omega
    go_enter Tryz.func41, Tryz.ntmps41
    go_wp2_with fail
    go_ret
    exact ⟨_, _, _, _, rfl, by simpa only [hw] using hN, by omega, BN _ _, ((Below.refl _ _).alloc (Nat.le_refl _) _).alloc (by simp) _⟩
  · by_cases hx0 : x = 0
    · subst hx0
      go_enter Tryz.func41, Tryz.ntmps41
      go_wp2_with fail
      go_ret
      exact ⟨_, rfl, ⟨none, 0, 0, ⟨by simp, by simp, ⟨Rd.nil _ _ _ _, by decide⟩, Nat.le_refl _⟩⟩, Nat.le_refl _, Blk.new _ _ _, (Below.refl _ _).alloc (Nat.le_refl _) _⟩
    · have hd : decide (x < 0) = false := by simpa using hx
      have hN := newInt_at w x false hd hx0 (by unfold W64; omega)
      have hw : (x.natAbs : Int) = x := by omega
      rw [hw] at hN
      go_enter Tryz.func41, Tryz.ntmps41
      go_wp2_with fail
      go_ret
      exact ⟨_, rfl, ⟨_, _, _, hN⟩, by omega, BN _ _, ((Below.refl _ _).alloc (Nat.le_refl _) _).alloc (by simp) _⟩
theorem big1_new (x : Int) (w : World) (h0 : -9223372036854775808 ≤ x) (h1 : x ≤ 9223372036854775807) :
    Calls Tryz.prog 22 #[.int .i64 x] w fun e w' => ∃ g YA yn yc, e = .returned (.pointer (some ⟨g, 0, none⟩)) ∧ BigRd w' g x YA yn yc ∧ w.heap.size ≤ g ∧ Blk w' g ∧ Below w.heap.size w w' := by
  go_enter Tryz.func22, Tryz.ntmps22
  go_wp2_with fail
  refine (newInt_new x _ h0 h1).mono ?_
  rintro e w1 ⟨g, YA, yn, yc, rfl, hR, hg, hk, hb⟩
  go_wp2_with fail
  go_ret
  exact ⟨g, YA, yn, yc, rfl, hR, hg, hk, hb⟩

/-- what is still to be shown, out of the elaborator's sight (where a guard is false it would run through all that follows) -/
structure Nxt (p : Prop) : Prop where
  go : p
theorem still_next {P : Program} {ops : Array Oper} {w : World} {Q : Act → Prop} {a : Act} {o : Oper} {rest : List Oper}
    (h : ∀ K : Act → Prop, (∀ a, Nxt (wpStill P ops w Q rest a) → K a) → if Region.wanted o (yielded ops a.tmps) then o.still P a w K else K (a.put o.dst undef)) : wpStill P ops w Q (o :: rest) a :=
  wpStill_step fun K hK => h K fun a hn => hK a hn.go
theorem still_skip {P : Program} {ops : Array Oper} {w : World} {Q : Act → Prop} {a : Act} {o : Oper} {rest : List Oper} (hw : Region.wanted o (yielded ops a.tmps) = false)
    (h : ∀ K : Act → Prop, (∀ a, Nxt (wpStill P ops w Q rest a) → K a) → K (a.put o.dst undef)) : Nxt (wpStill P ops w Q (o :: rest) a) :=
  ⟨by unfold wpStill; rw [hw]; exact (h (fun a => Nxt (wpStill P ops w Q rest a)) (fun _ h => h)).go⟩
theorem sign_mul {x y : Int} (h : x * y ≠ 0) : decide (x * y < 0) = (decide (x < 0) != decide (y < 0)) := by
  have hx : x ≠ 0 := fun e => h (by rw [e, Int.zero_mul])
  have hy : y ≠ 0 := fun e => h (by rw [e, Int.mul_zero])
  by_cases h1 : x < 0 <;> by_cases h2 : y < 0
  · have := Int.mul_pos_of_neg_of_neg h1 h2
    simp [h1, h2]; omega
  · have := Int.mul_neg_of_neg_of_pos h1 (show 0 < y by omega)
    simp [h1, h2]; omega
  · have := Int.mul_neg_of_pos_of_neg (show 0 < x by omega) h2
    simp [h1, h2]; omega
  · have := Int.mul_pos (show 0 < x by omega) (show 0 < y by omega)
    simp [h1, h2]; omega
theorem words_len0 {v : Nat} (h : v = 0) : (wordsOf v).length = 0 := by subst h; rfl
set_option maxHeartbeats 4000000 in
set_option maxRecDepth 100000 in
theorem bigMul_in (B g gx gy xn xc yn yc : Nat) (x y : Int) (XA YA : Option Addr) (w : World) (hBw : B ≤ w.heap.size) (h : BigAt w B g (.slice none 0 0) 0) (hx : BigRd w gx x XA xn xc) (hy : BigRd w gy y YA yn yc) (hne : gx ≠ gy) (hbx : Blk w gx) (hby : Blk w gy) :
    Calls Tryz.prog 238 #[.pointer (some ⟨g, 0, none⟩), .pointer none, .pointer (some ⟨gx, 0, none⟩), .pointer (some ⟨gy, 0, none⟩)] w
      fun e w' => e = .returned (.tuple #[]) ∧ ∃ V', BigAt w' B g V' (x * y) ∧ Below B w w' := by
  have hpo := ptr_other hne hbx hby
  have c0 := h.c0
  have c1 := h.c1
  have x0 := hx.c0
  have x1 := hx.c1
  have y0 := hy.c0
  have y1 := hy.c1
  have hxl := World.block_lt_of_cell? _ _ x0
  have hyl := World.block_lt_of_cell? _ _ y0
  have hab : (x * y).natAbs = x.natAbs * y.natAbs := Int.natAbs_mul x y
  have hW : BigAt w.drew B g (.slice none 0 0) 0 := h.below (bdrewN (Below.refl _ w) 1)
  have hxd : YWds w.drew XA xn x.natAbs := ⟨hx.wds.1, hx.wds.2⟩
  have hyd : YWds w.drew YA yn y.natAbs := ⟨hy.wds.1, hy.wds.2⟩
  have hWb : Below B w w.drew := bdrewN (Below.refl B w) 1
  have hWs : B ≤ w.drew.heap.size := hBw
  have hxl' : gx < w.drew.heap.size := hxl
  have hyl' : gy < w.drew.heap.size := hyl
  have HG : Hid (∀ (w' : World) (V' : Value), Fresh w.drew w' V' (wordsOf (x.natAbs * y.natAbs)) → Gave w.drew w' B (.slice none 0 0) V' (wordsOf (x * y).natAbs)) := by
    intro w' V' hF
    rw [hab]
    exact hF.gave hWs rfl
  obtain ⟨bx, hbx'⟩ : ∃ b, b = decide (x < 0) := ⟨_, rfl⟩
  obtain ⟨bb, hby'⟩ : ∃ b, b = decide (y < 0) := ⟨_, rfl⟩
  have HX := hide hbx'
  have HY := hide hby'
  rw [← hbx'] at x0
  rw [← hby'] at y0
  clear hbx' hby'
  have x0d : w.drew.cell? ⟨gx, 0, none⟩ = some (.bool bx) := x0
  have y0d : w.drew.cell? ⟨gy, 0, none⟩ = some (.bool bb) := y0
  have HW := hide hW
  have HXD := hide hxd
  have HYD := hide hyd
  have HXC := hide hx.cap
  have HWB := hide hWb
  have HWS := hide hWs
  have HXL := hide hxl'
  have HYL := hide hyl'
  have HX0 := hide x0d
  have HY0 := hide y0d
  obtain ⟨L, hL⟩ : ∃ L, L = (wordsOf (x * y).natAbs).length := ⟨_, rfl⟩
  have HLL := hide hL
  have HK : Hid (∀ (w' : World) (V' : Value), Fresh w.drew w' V' (wordsOf (x.natAbs * y.natAbs)) → (∃ A c, V' = .slice A L c) ∧ w'.cell? ⟨g, 1, none⟩ = some (.slice none 0 0) ∧ w'.cell? ⟨g, 0, none⟩ = some (.bool false) ∧ w'.frozen? ⟨g, 0, none⟩ = false ∧ w'.frozen? ⟨g, 1, none⟩ = false ∧ w'.cell? ⟨gx, 0, none⟩ = some (.bool bx) ∧ w'.cell? ⟨gy, 0, none⟩ = some (.bool bb)) := by
    intro w' V' hF
    obtain ⟨k0, k1, kf0, kf1, A3, cc3, e⟩ := hW.kept (HG.out _ _ hF)
    rw [← hL] at e
    exact ⟨⟨A3, cc3, e⟩, k1, k0, kf0, kf1, below_cell hF.2 hxl' x0d, below_cell hF.2 hyl' y0d⟩
  have HAB := hide hab
  clear h hx hy hW hxd hyd hWb hWs hxl hyl hxl' hyl' x0d y0d hL hne hbx hby hab hBw
  by_cases hz : x * y = 0
  · have hl0 : L = 0 := by
      rw [HLL.out, hz]; rfl
    have hd : decide (x * y < 0) = false := by rw [hz]; rfl
    have HD := hide hd
    subst hl0
    clear hz hd
    go_enter Tryz.func238, Tryz.ntmps238
    go_wp2_with fail
    go_region_law (go_simp; go_at_call 185; refine (natMulV _ x.natAbs y.natAbs xn xc yn yc XA YA _ HXD.out HXC.out HYD.out).mono ?_; rintro e w3 ⟨V3, rfl, hF⟩; obtain ⟨⟨A3, cc3, rfl⟩, k1, k0, kf0, kf1, x3, y3⟩ := HK.out _ _ hF; have HF := hide hF; clear hF)
    all_goals
      go_wp2_with fail
    all_goals
      generalize hwb : w3.setCell ⟨g, 1, none⟩ (.slice A3 0 cc3) = wb
      have b0 : wb.drew.cell? ⟨g, 0, none⟩ = some (.bool false) := by show wb.cell? _ = _; rw [← hwb]; exact (World.cell?_setCell_other _ _ _ _ (by simp)).trans k0
      have b1 : wb.drew.cell? ⟨g, 1, none⟩ = some (.slice A3 0 cc3) := by show wb.cell? _ = _; rw [← hwb]; exact World.cell?_setCell_same _ ⟨g, 1, none⟩ _ k1
      have bf : wb.drew.frozen? ⟨g, 0, none⟩ = false := by show wb.frozen? _ = _; rw [← hwb]; simp [kf0]
      have bx0 : wb.drew.cell? ⟨gx, 0, none⟩ = some (.bool bx) := by show wb.cell? _ = _; rw [← hwb]; exact (World.cell?_setCell_other _ _ _ _ (by simp)).trans x3
      have by0 : wb.drew.cell? ⟨gy, 0, none⟩ = some (.bool bb) := by show wb.cell? _ = _; rw [← hwb]; exact (World.cell?_setCell_other _ _ _ _ (by simp)).trans y3
      refine wp_region_still_tail 18 (by kernel_rfl) (by kernel_rfl) ?_
      simp only [List.take_succ_cons, List.take_zero, List.drop_succ_cons, List.drop_zero]
      change wpStill _ _ wb.drew _ _ _
      have HWE := hide hwb
      clear hwb k0 k1 kf0 kf1 x3 y3 c1 x1 y1 hpo c0 x0 y0
      refine Nxt.go ?_
      (refine ⟨still_next (fun K hK => ?_)⟩; go_simp; refine hK _ ?_; clear hK K)
      (refine ⟨still_next (fun K hK => ?_)⟩; go_simp; refine hK _ ?_; clear hK K)
      (refine ⟨still_next (fun K hK => ?_)⟩; go_simp; refine hK _ ?_; clear hK K)
      (refine ⟨still_next (fun K hK => ?_)⟩; go_simp; refine hK _ ?_; clear hK K)
      (refine ⟨still_next (fun K hK => ?_)⟩; go_simp; refine hK _ ?_; clear hK K)
      (refine ⟨still_next (fun K hK => ?_)⟩; go_simp; refine hK _ ?_; clear hK K)
      (refine ⟨still_next (fun K hK => ?_)⟩; go_simp; refine hK _ ?_; clear hK K)
      (refine ⟨still_next (fun K hK => ?_)⟩; go_simp; refine hK _ ?_; clear hK K)
      (refine still_skip (by kernel_rfl) (fun K hK => ?_); go_simp; refine hK _ ?_; clear hK K)
      (refine still_skip (by kernel_rfl) (fun K hK => ?_); go_simp; refine hK _ ?_; clear hK K)
      (refine still_skip (by kernel_rfl) (fun K hK => ?_); go_simp; refine hK _ ?_; clear hK K)
      (refine still_skip (by kernel_rfl) (fun K hK => ?_); go_simp; refine hK _ ?_; clear hK K)
      (refine still_skip (by kernel_rfl) (fun K hK => ?_); go_simp; refine hK _ ?_; clear hK K)
      (refine still_skip (by kernel_rfl) (fun K hK => ?_); go_simp; refine hK _ ?_; clear hK K)
      (refine still_skip (by kernel_rfl) (fun K hK => ?_); go_simp; refine hK _ ?_; clear hK K)
      (refine still_skip (by kernel_rfl) (fun K hK => ?_); go_simp; refine hK _ ?_; clear hK K)
      (refine still_skip (by kernel_rfl) (fun K hK => ?_); go_simp; refine hK _ ?_; clear hK K)
      (refine ⟨still_next (fun K hK => ?_)⟩; go_simp; refine hK _ ?_; clear hK K)
      refine ⟨wpStill_nil ?_⟩
      change wpList _ _ _ _ _ wb.drew
      go_wp2_with fail
      go_end0
      have hp := HW.out.put (r := x * y) (HG.out _ _ HF.out)
      have hb := HW.out.put_below (r := x * y) (HG.out _ _ HF.out) HWB.out HWS.out (Nat.le_refl _) (.bool false)
      rw [HD.out, HWE.out] at hp
      rw [HWE.out] at hb
      exact ⟨rfl, _, hp.below (bdrewN (Below.refl _ _) 1), bdrewN hb 1⟩
  · have hpos : 0 < L := by
      have := words_pos (v := (x * y).natAbs) (by omega)
      rw [← HLL.out] at this
      exact this
    have HD : Hid (decide (x * y < 0) = (bx != bb)) := by
      show _ = _
      rw [HX.out, HY.out]
      exact sign_mul hz
    clear hz
    go_enter Tryz.func238, Tryz.ntmps238
    go_wp2_with fail
    go_region_law (go_simp; go_at_call 185; refine (natMulV _ x.natAbs y.natAbs xn xc yn yc XA YA _ HXD.out HXC.out HYD.out).mono ?_; rintro e w3 ⟨V3, rfl, hF⟩; obtain ⟨⟨A3, cc3, rfl⟩, k1, k0, kf0, kf1, x3, y3⟩ := HK.out _ _ hF; have HF := hide hF; clear hF)
    all_goals
      go_wp2_with fail
    all_goals
      generalize hwb : w3.setCell ⟨g, 1, none⟩ (.slice A3 L cc3) = wb
      have b0 : wb.drew.cell? ⟨g, 0, none⟩ = some (.bool false) := by show wb.cell? _ = _; rw [← hwb]; exact (World.cell?_setCell_other _ _ _ _ (by simp)).trans k0
      have b1 : wb.drew.cell? ⟨g, 1, none⟩ = some (.slice A3 L cc3) := by show wb.cell? _ = _; rw [← hwb]; exact World.cell?_setCell_same _ ⟨g, 1, none⟩ _ k1
      have bf : wb.drew.frozen? ⟨g, 0, none⟩ = false := by show wb.frozen? _ = _; rw [← hwb]; simp [kf0]
      have bx0 : wb.drew.cell? ⟨gx, 0, none⟩ = some (.bool bx) := by show wb.cell? _ = _; rw [← hwb]; exact (World.cell?_setCell_other _ _ _ _ (by simp)).trans x3
      have by0 : wb.drew.cell? ⟨gy, 0, none⟩ = some (.bool bb) := by show wb.cell? _ = _; rw [← hwb]; exact (World.cell?_setCell_other _ _ _ _ (by simp)).trans y3
      refine wp_region_still_tail 18 (by kernel_rfl) (by kernel_rfl) ?_
      simp only [List.take_succ_cons, List.take_zero, List.drop_succ_cons, List.drop_zero]
      change wpStill _ _ wb.drew _ _ _
      have HWE := hide hwb
      clear hwb k0 k1 kf0 kf1 x3 y3 c1 x1 y1 hpo c0 x0 y0
      refine Nxt.go ?_
      (refine ⟨still_next (fun K hK => ?_)⟩; go_simp; refine hK _ ?_; clear hK K)
      (refine ⟨still_next (fun K hK => ?_)⟩; go_simp; refine hK _ ?_; clear hK K)
      (refine ⟨still_next (fun K hK => ?_)⟩; go_simp; refine hK _ ?_; clear hK K)
      (refine ⟨still_next (fun K hK => ?_)⟩; go_simp; refine hK _ ?_; clear hK K)
      (refine ⟨still_next (fun K hK => ?_)⟩; go_simp; refine hK _ ?_; clear hK K)
      (refine ⟨still_next (fun K hK => ?_)⟩; go_simp; refine hK _ ?_; clear hK K)
      (refine ⟨still_next (fun K hK => ?_)⟩; go_simp; refine hK _ ?_; clear hK K)
      (refine ⟨still_next (fun K hK => ?_)⟩; go_simp; refine hK _ ?_; clear hK K)
      (refine ⟨still_next (fun K hK => ?_)⟩; go_simp; refine hK _ ?_; clear hK K)
      (refine ⟨still_next (fun K hK => ?_)⟩; go_simp; refine hK _ ?_; clear hK K)
      (refine ⟨still_next (fun K hK => ?_)⟩; go_simp; refine hK _ ?_; clear hK K)
      (refine ⟨still_next (fun K hK => ?_)⟩; go_simp; refine hK _ ?_; clear hK K)
      (refine ⟨still_next (fun K hK => ?_)⟩; go_simp; refine hK _ ?_; clear hK K)
      (refine ⟨still_next (fun K hK => ?_)⟩; go_simp; refine hK _ ?_; clear hK K)
      (refine ⟨still_next (fun K hK => ?_)⟩; go_simp; refine hK _ ?_; clear hK K)
      (refine ⟨still_next (fun K hK => ?_)⟩; go_simp; refine hK _ ?_; clear hK K)
      (refine ⟨still_next (fun K hK => ?_)⟩; go_simp; refine hK _ ?_; clear hK K)
      (refine ⟨still_next (fun K hK => ?_)⟩; go_simp; refine hK _ ?_; clear hK K)
      refine ⟨wpStill_nil ?_⟩
      change wpList _ _ _ _ _ wb.drew
      go_wp2_with fail
      go_end0
      have hp := HW.out.put (r := x * y) (HG.out _ _ HF.out)
      have hb := HW.out.put_below (r := x * y) (HG.out _ _ HF.out) HWB.out HWS.out (Nat.le_refl _) (.bool (bx != bb))
      rw [HD.out, HWE.out] at hp
      rw [HWE.out] at hb
      exact ⟨rfl, _, hp.below (bdrewN (Below.refl _ _) 1), bdrewN hb 1⟩
set_option maxRecDepth 100000 in
theorem bigMul_any (B g gx gy xn xc yn yc : Nat) (x y : Int) (XA YA : Option Addr) (w : World) (hBw : B ≤ w.heap.size) (h : BigAt w B g (.slice none 0 0) 0) (hx : BigRd w gx x XA xn xc) (hy : BigRd w gy y YA yn yc) (hne : gx ≠ gy) (hbx : Blk w gx) (hby : Blk w gy) :
    Calls Tryz.prog 193 #[.pointer (some ⟨g, 0, none⟩), .pointer (some ⟨gx, 0, none⟩), .pointer (some ⟨gy, 0, none⟩)] w
      fun e w' => e = .returned (.pointer (some ⟨g, 0, none⟩)) ∧ ∃ V', BigAt w' B g V' (x * y) ∧ Below B w w' := by
  go_enter Tryz.func193, Tryz.ntmps193
  go_wp2_with fail
  refine (bigMul_in B g gx gy xn xc yn yc x y XA YA _ hBw h hx hy hne hbx hby).mono ?_
  rintro e w1 ⟨rfl, V', hB, hb⟩
  go_wp2_with fail
  go_ret
  exact ⟨rfl, V', hB, hb⟩
end Go.Proofs.YtjojjicpdfmopaaGreatDoor

namespace Go.Proofs.YtjojjicpdfmopaaGreatDoor
open Go Go.RowKit
set_option linter.unusedVariables false

set_option maxRecDepth 100000 in
theorem natSet_00 (A : Option Addr) (c : Nat) (w : World) :
    Calls Tryz.prog 71 #[.slice none 0 0, .slice A 0 c] w fun e w' => e = .returned (.slice none 0 0) ∧ ∃ n, w' = w.drewN n := by
  have hcp : ∀ (W : World) (ty : TypeId), (Builtin.copy_ #[63, 63] ty #[.slice none 0 0, .slice A 0 c]).run Tryz.prog W = .ok (goInt 0) W :=
    fun W ty => run_copy_none W 63 63 ty 110 none A 0 0 0 c Tryz.underlying63 word_size rfl
  go_enter Tryz.func71, Tryz.ntmps71
  go_wp2_with fail
  refine (natMake_fits none 0 0 0 _ (by omega) (by unfold maxLen; omega)).mono ?_
  rintro e w1 ⟨rfl, n1, rfl⟩
  go_wp2_with fail
  go_ret
  exact ⟨rfl, n1, rfl⟩
/-- the words of a number, set into nothing -/
theorem natSet_new (a n c : Nat) (A : Option Addr) (w : World) (hx : YWds w A n a) :
    Calls Tryz.prog 71 #[.slice none 0 0, .slice A n c] w fun e w' => ∃ V', e = .returned V' ∧ Fresh w w' V' (wordsOf a) := by
  rcases hx.cases with ⟨rfl, rfl⟩ | ⟨ha, rfl, xb, xo, rfl, hcx⟩
  · refine (natSet_00 A c w).mono ?_
    rintro e w' ⟨rfl, k, rfl⟩
    exact ⟨_, rfl, by rw [wordsOf_0]; exact Fresh.nil w k⟩
  · refine (natSet_from w.heap.size 0 0 none a xb xo c w (Nat.le_refl _) hx.2 ha rfl ⟨Own.nil _ _ _ _ _, none, 0, rfl, by omega⟩ hcx).mono ?_
    rintro e w' ⟨V', rfl, hG⟩
    exact ⟨V', rfl, hG.wds, ⟨hG.grown.os, hG.grown.tape, hG.grown.output, hG.grown.size, fun i hi => hG.grown.block i hi (by simp [Value.ownBlock])⟩⟩
set_option maxRecDepth 100000 in
theorem setWord_0 (w : World) : Calls Tryz.prog 148 #[.slice none 0 0, .int .u64 0] w fun e w' => e = .returned (.slice none 0 0) ∧ ∃ n, w' = w.drewN n := by
  go_enter Tryz.func148, Tryz.ntmps148
  go_wp2_with fail
  go_ret
  exact ⟨rfl, 0, rfl⟩
set_option maxRecDepth 100000 in
theorem divW_one (a n c : Nat) (A : Option Addr) (w : World) (hx : YWds w A n a) :
    Calls Tryz.prog 137 #[.slice none 0 0, .slice A n c, .int .u64 1] w fun e w' => ∃ V', e = .returned (.tuple #[V', .int .u64 0]) ∧ Fresh w w' V' (wordsOf a) := by
  go_enter Tryz.func137, Tryz.ntmps137
  go_wp2_with fail
  refine (natSet_new a n c A _ hx).mono ?_
  rintro e w1 ⟨V', rfl, hF⟩
  go_wp2_with fail
  go_ret2
  exact ⟨V', rfl, hF⟩
set_option maxRecDepth 100000 in
theorem natDiv_one (a n c yb yo yc : Nat) (A : Option Addr) (w : World) (hx : YWds w A n a) (hcy : w.cell? ⟨yb, yo, none⟩ = some (.int .u64 1)) :
    Calls Tryz.prog 136 #[.slice none 0 0, .pointer none, .slice none 0 0, .slice A n c, .slice (some ⟨yb, yo, none⟩) 1 yc] w fun e w' => ∃ V', e = .returned (.tuple #[V', .slice none 0 0]) ∧ Fresh w w' V' (wordsOf a) := by
  go_enter Tryz.func136, Tryz.ntmps136
  go_wp2_with fail
  refine (divW_one a n c A _ hx).mono ?_
  rintro e w1 ⟨V', rfl, hF⟩
  go_wp2_with fail
  refine (setWord_0 _).mono ?_
  rintro e w2 ⟨rfl, n2, rfl⟩
  go_wp2_with fail
  go_ret2
  exact ⟨V', rfl, ⟨hF.1.own.below (bdrewN (Below.refl _ _) n2), hF.1.cap⟩, bdrewN hF.2 n2⟩

set_option maxRecDepth 100000 in
theorem bits_div64 (x y : Nat) (hx : x < W64) (hy : y < W64) (h0 : y ≠ 0) (w : World) :
    Calls Tryz.prog 245 #[.int .u64 0, .int .u64 (x : Int), .int .u64 (y : Int)] w fun e w' => e = .returned (.tuple #[.int .u64 ((x / y : Nat) : Int), .int .u64 ((x % y : Nat) : Int)]) ∧ ∃ n, w' = w.drewN n := by
  have h1 : ((y : Int) == 0) = false := by rw [beq_eq_false_iff_ne]; omega
  have h2 : ¬ (y : Int) = 0 := by omega
  have h3 : ¬ (y : Int) ≤ 0 := by omega
  have hq : x / y < 18446744073709551616 := Nat.lt_of_le_of_lt (Nat.div_le_self _ _) hx
  have hw := hide (show IntKind.u64.wrap ((x : Int) / (y : Int)) = (x : Int) / (y : Int) by
    rw [← Int.natCast_ediv]
    generalize x / y = q at hq ⊢
    rw [IntKind.wrap_u64]; omega)
  clear hq
  go_enter Tryz.func245, Tryz.ntmps245
  go_wp2_with fail
  go_quiet (fail)
  go_wp2_with fail
  go_ret2
  exact ⟨by simp [hw.out], _, rfl⟩
set_option maxRecDepth 100000 in
theorem bits_div (x y : Nat) (hx : x < W64) (hy : y < W64) (h0 : y ≠ 0) (w : World) :
    Calls Tryz.prog 201 #[.int .u64 0, .int .u64 (x : Int), .int .u64 (y : Int)] w fun e w' => e = .returned (.tuple #[.int .u64 ((x / y : Nat) : Int), .int .u64 ((x % y : Nat) : Int)]) ∧ ∃ n, w' = w.drewN n := by
  have hx1 : x < 18446744073709551616 := hx
  have hy1 : y < 18446744073709551616 := hy
  have hq : x / y < 18446744073709551616 := Nat.lt_of_le_of_lt (Nat.div_le_self _ _) hx
  have hr : x % y < 18446744073709551616 := Nat.lt_of_le_of_lt (Nat.mod_le _ _) hx
  have hc := bits_div64 x y hx hy h0
  generalize x / y = q at hq hc ⊢
  generalize x % y = r at hr hc ⊢
  go_enter Tryz.func201, Tryz.ntmps201
  go_wp2_with fail
  refine (hc _).mono ?_
  rintro e w1 ⟨rfl, n, rfl⟩
  go_wp2_with fail
  go_ret2
  exact ⟨by simp, n, rfl⟩
/-- one word by one word: the quotient is stored, the rest handed back -/
theorem divWVW1 (zb zo zc xb xo xc : Nat) (u : Value) (x y : Nat) (hx : x < W64) (hy : y < W64) (h0 : y ≠ 0) (w : World)
    (hz : w.cell? ⟨zb, zo, none⟩ = some u) (hu : u.oneCell' = true) (hf : w.frozen? ⟨zb, zo, none⟩ = false) (hcx : w.cell? ⟨xb, xo, none⟩ = some (.int .u64 (x : Int))) :
    Calls Tryz.prog 156 #[.slice (some ⟨zb, zo, none⟩) 1 zc, .int .u64 0, .slice (some ⟨xb, xo, none⟩) 1 xc, .int .u64 (y : Int)] w
      fun e w' => e = .returned (.int .u64 ((x % y : Nat) : Int)) ∧ ∃ n, w' = (w.drewN n).setCell ⟨zb, zo, none⟩ (.int .u64 ((x / y : Nat) : Int)) := by
  have hx1 : x < 18446744073709551616 := hx
  have hy1 : y < 18446744073709551616 := hy
  have hq : x / y < 18446744073709551616 := Nat.lt_of_le_of_lt (Nat.div_le_self _ _) hx
  have hr : x % y < 18446744073709551616 := Nat.lt_of_le_of_lt (Nat.mod_le _ _) hx
  have hc := bits_div x y hx hy h0
  generalize x / y = q at hq hc ⊢
  generalize x % y = r at hr hc ⊢
  go_enter Tryz.func156, Tryz.ntmps156
  go_wp2_with fail
  refine (hc _).mono ?_
  rintro e w1 ⟨rfl, n, rfl⟩
  have hz1 : (w.drewN n).cell? ⟨zb, zo, none⟩ = some u := hz
  have hf1 : (w.drewN n).frozen? ⟨zb, zo, none⟩ = false := hf
  clear hz hf hcx
  go_wp2_with fail
  go_ret
  exact ⟨by simp, n, rfl⟩
end Go.Proofs.YtjojjicpdfmopaaGreatDoor
