/- Great numbers: NewInt, IsInt64, Int64; money.Sum. -/
import Derived.Test.YtkeapacfmeblgaaGreatDoorBigH
import Derived.Test.YtkeapacfmeblgaaGreatDoorChartX
namespace Go.Proofs.YtkeapacfmeblgaaGreatDoor
open Go Go.RowKit
set_option linter.unusedVariables false

theorem wrap_neg (x : Int) (h0 : -9223372036854775808 ≤ x) (h1 : x < 0) : IntKind.u64.wrap (-IntKind.u64.wrap x) = (x.natAbs : Int) := by
  simp only [IntKind.wrap, IntKind.bits, IntKind.signed]
  simp
  omega
theorem rd_word {w : World} {g : Nat} {cs : Array Value} {e : TypeId} {a : Nat} (h : w.cell? ⟨g, 0, none⟩ = some (.int .u64 (a : Int))) (h0 : a ≠ 0) (h1 : a < W64) : YWds w (some ⟨g, 0, none⟩) 1 a := by
  refine ⟨?_, h1⟩
  rw [wordsOf_1 h0 h1]
  refine ⟨rfl, fun _ => ⟨g, 0, rfl, fun k j u hk hu => ?_⟩⟩
  have hk0 : k = 0 := by simpa using hk
  subst hk0
  have hj : j < 1 := by
    have := (List.getElem?_eq_some_iff.1 hu).1
    simpa [wEnc] using this
  obtain rfl : j = 0 := by omega
  simp only [List.getElem_cons_zero, wEnc, List.getElem?_cons_zero, Option.some.injEq] at hu
  subst hu
  exact h
theorem newInt_at (w : World) (x : Int) (b : Bool) (hx : decide (x < 0) = b) (hx0 : x ≠ 0) (h1 : x.natAbs < W64) :
    BigRd ((w.alloc (.cells #[.int .u64 (x.natAbs : Int)] 70)).alloc (.cells #[.bool b, .slice (some ⟨w.heap.size, 0, none⟩) 1 1] 55)) (w.heap.size + 1) x (some ⟨w.heap.size, 0, none⟩) 1 1 := by
  have e : w.heap.size + 1 = (w.alloc (.cells #[.int .u64 (x.natAbs : Int)] 70)).heap.size := by simp
  have hc : (w.alloc (.cells #[.int .u64 (x.natAbs : Int)] 70)).cell? ⟨w.heap.size, 0, none⟩ = some (.int .u64 (x.natAbs : Int)) := by simp
  rw [e]
  generalize w.alloc (.cells #[.int .u64 (x.natAbs : Int)] 70) = w1 at hc ⊢
  have hc2 := below_cell ((Below.refl w1.heap.size w1).alloc (Nat.le_refl _) (.cells #[.bool b, .slice (some ⟨w.heap.size, 0, none⟩) 1 1] 55)) (World.block_lt_of_cell? _ _ hc) hc
  exact ⟨by rw [hx]; simp, by simp, rd_word (cs := #[]) (e := 0) hc2 (by omega) h1, Nat.le_refl _⟩

set_option maxRecDepth 100000 in
theorem newInt_any (x : Int) (w : World) (h0 : -9223372036854775808 ≤ x) (h1 : x ≤ 9223372036854775807) :
    Calls Tryz.prog 21 #[.int .i64 x] w fun e w' => ∃ g YA yn yc, e = .returned (.pointer (some ⟨g, 0, none⟩)) ∧ BigRd w' g x YA yn yc ∧ Below w.heap.size w w' := by
  by_cases hx : x < 0
  · have hd : decide (x < 0) = true := by simpa using hx
    have hN := newInt_at w x true hd (by omega) (by unfold W64; omega)
    have hw := wrap_neg x h0 hx
    have hxe : (x == 0) = false := by rw [beq_eq_false_iff_ne]; omega
    go_enter Tryz.func21, Tryz.ntmps21
    go_wp2_with fail
    go_ret
    exact ⟨_, _, _, _, rfl, by simpa only [hw] using hN, ((Below.refl _ _).alloc (Nat.le_refl _) _).alloc (by simp) _⟩
  · by_cases hx0 : x = 0
    · subst hx0
      go_enter Tryz.func21, Tryz.ntmps21
      go_wp2_with fail
      go_ret
      exact ⟨_, rfl, ⟨none, 0, 0, ⟨by simp, by simp, ⟨Rd.nil _ _ _ _, by decide⟩, Nat.le_refl _⟩⟩, (Below.refl _ _).alloc (Nat.le_refl _) _⟩
    · have hd : decide (x < 0) = false := by simpa using hx
      have hN := newInt_at w x false hd hx0 (by unfold W64; omega)
      have hw : (x.natAbs : Int) = x := by omega
      rw [hw] at hN
      go_enter Tryz.func21, Tryz.ntmps21
      go_wp2_with fail
      go_ret
      exact ⟨_, rfl, ⟨_, _, _, hN⟩, ((Below.refl _ _).alloc (Nat.le_refl _) _).alloc (by simp) _⟩

def in64 (x : Int) : Bool := decide (-9223372036854775808 ≤ x) && decide (x ≤ 9223372036854775807)
set_option maxRecDepth 100000 in
theorem low64_0 (A : Option Addr) (c : Nat) (w : World) : Calls Tryz.prog 40 #[.slice A 0 c] w fun e w' => e = .returned (.int .u64 0) ∧ w = w' := by
  go_enter Tryz.func40, Tryz.ntmps40
  go_wp2_with fail
  go_ret
  exact ⟨rfl, rfl⟩
set_option maxRecDepth 100000 in
theorem low64_1 (g c a : Nat) (w : World) (h : w.cell? ⟨g, 0, none⟩ = some (.int .u64 (a : Int))) (ha : a < W64) : Calls Tryz.prog 40 #[.slice (some ⟨g, 0, none⟩) 1 c] w fun e w' => e = .returned (.int .u64 (a : Int)) ∧ w = w' := by
  have ha' : a < 18446744073709551616 := ha
  go_enter Tryz.func40, Tryz.ntmps40
  go_wp2_with fail
  go_ret
  exact ⟨by first | rfl | simp, rfl⟩

set_option maxRecDepth 100000 in
theorem low64_z (g c : Nat) (a : Int) (w : World) (h : w.cell? ⟨g, 0, none⟩ = some (.int .u64 a)) (h0 : 0 ≤ a) (ha : a < 18446744073709551616) : Calls Tryz.prog 40 #[.slice (some ⟨g, 0, none⟩) 1 c] w fun e w' => e = .returned (.int .u64 a) ∧ w = w' := by
  go_enter Tryz.func40, Tryz.ntmps40
  go_wp2_with fail
  go_ret
  exact ⟨by first | rfl | simp, rfl⟩
/-- of IsInt64: what is there where the number has one word -/
structure One (w : World) (g ga c : Nat) (a : Int) (b : Bool) : Prop where
  c0 : w.cell? ⟨g, 0, none⟩ = some (.bool b)
  c1 : w.cell? ⟨g, 1, none⟩ = some (.slice (some ⟨ga, 0, none⟩) 1 c)
  hx : w.cell? ⟨ga, 0, none⟩ = some (.int .u64 a)
  h0 : 0 ≤ a
  ha : a < 18446744073709551616
theorem wrapA {a : Int} (h0 : 0 ≤ a) (h : a < 9223372036854775808) : (0 : Int) ≤ wrap64 a := by simp only [wrap64]; omega
theorem wrapB {a : Int} (h : ¬ a < 9223372036854775808) (h2 : a < 18446744073709551616) : wrap64 a = a - 18446744073709551616 := by simp only [wrap64]; omega
theorem wrapC {z : Int} (h : 0 ≤ z) (h2 : z < 9223372036854775808) : wrap64 z = z := by simp only [wrap64]; omega
theorem in64_no (x : Int) (h : ¬ (-9223372036854775808 ≤ x ∧ x ≤ 9223372036854775807)) : in64 x = false := by
  unfold in64
  rw [Bool.eq_false_iff]
  intro e
  rw [Bool.and_eq_true, decide_eq_true_eq, decide_eq_true_eq] at e
  exact h e
theorem in64_yes (x : Int) (h : -9223372036854775808 ≤ x ∧ x ≤ 9223372036854775807) : in64 x = true := by
  unfold in64
  rw [Bool.and_eq_true, decide_eq_true_eq, decide_eq_true_eq]
  exact h
set_option maxRecDepth 100000 in
theorem int64_any {w : World} {B g : Nat} {V : Value} {x : Int} (h : BigAt w B g V x) (hx : in64 x = true) :
    Calls Tryz.prog 23 #[.pointer (some ⟨g, 0, none⟩)] w fun e w' => e = .returned (.int .i64 x) ∧ ∃ n, w' = w.drewN n := by
  obtain ⟨A, c, rfl⟩ := h.form
  have c0 := h.c0
  have c1 := h.c1
  have hw := h.wds
  have hr : -9223372036854775808 ≤ x ∧ x ≤ 9223372036854775807 := by unfold in64 at hx; simpa using hx
  clear hx
  by_cases h0 : x.natAbs = 0
  · rw [h0, wordsOf_0] at c1
    have hx : x = 0 := by omega
    subst hx
    go_enter Tryz.func23, Tryz.ntmps23
    go_wp2_with fail
    refine (low64_0 A c _).mono ?_
    rintro e w1 ⟨rfl, rfl⟩
    go_wp2_with fail
    go_ret
    exact ⟨rfl, 0, rfl⟩
  · have h2' : x.natAbs < 18446744073709551616 := by omega
    rw [wordsOf_1 h0 h2'] at c1 hw
    obtain ⟨ga, rfl⟩ := hw.addr (by simp)
    obtain ⟨cur, hrow, hcs, hct, _⟩ := Wds.row (n := 1) hw
    have hxc := cell_head hrow hct 0 (by simp)
    simp only [List.getElem_cons_zero] at hxc
    by_cases hs : x < 0
    · have hd : decide (x < 0) = true := by simpa using hs
      rw [hd] at c0
      have hwr := hide (show wrap64 (-wrap64 (x.natAbs : Int)) = x by simp only [wrap64]; omega)
      clear hd
      go_enter Tryz.func23, Tryz.ntmps23
      go_wp2_with fail
      refine (low64_1 ga c x.natAbs _ hxc h2').mono ?_
      rintro e w1 ⟨rfl, rfl⟩
      go_wp2_with fail
      go_ret
      exact ⟨ret_int (by first | exact hwr.out | omega), 0, rfl⟩
    · have hd : decide (x < 0) = false := by simpa using hs
      rw [hd] at c0
      have hwr := hide (show wrap64 (x.natAbs : Int) = x by simp only [wrap64]; omega)
      clear hd
      go_enter Tryz.func23, Tryz.ntmps23
      go_wp2_with fail
      refine (low64_1 ga c x.natAbs _ hxc h2').mono ?_
      rintro e w1 ⟨rfl, rfl⟩
      go_wp2_with fail
      go_ret
      exact ⟨ret_int (by first | exact hwr.out | omega), 0, rfl⟩

/-- money's small: a number of 64 bits, or the error -/
def smE (x : Int) : Int := if in64 x = true then 0 else 10
def smV (x : Int) : Int := if in64 x = true then x else 0
def intEnc2 (n : Int) : List Value := [.int .i64 n]
theorem intEnc2_ok : Enc 1 intEnc2 := ⟨fun _ => rfl, by
  intro a u hu
  simp only [intEnc2, List.mem_singleton] at hu
  subst hu; rfl⟩
def sumTo (l : List Int) (k : Nat) : Int := (l.take k).sum
theorem sumTo_succ (l : List Int) (k : Nat) (h : k < l.length) : sumTo l (k + 1) = sumTo l k + l[k] := by
  unfold sumTo
  rw [List.take_succ_eq_append_getElem h, List.sum_append]
  simp
/-- all of them are of 64 bits -/
def Ints64 (l : List Int) : Prop := ∀ x, x ∈ l → -9223372036854775808 ≤ x ∧ x ≤ 9223372036854775807
theorem sumTo_bnd {l : List Int} (h : Ints64 l) (k : Nat) (hk : k ≤ l.length) : (sumTo l k).natAbs ≤ k * 9223372036854775808 := by
  induction k with
  | zero => simp [sumTo]
  | succ k ih =>
    have h1 := ih (by omega)
    have h2 := h l[k] (List.getElem_mem _)
    rw [sumTo_succ l k (by omega)]
    omega

end Go.Proofs.YtkeapacfmeblgaaGreatDoor
