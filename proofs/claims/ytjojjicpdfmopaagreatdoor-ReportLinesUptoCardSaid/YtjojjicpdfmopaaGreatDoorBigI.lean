/- Great numbers: NewInt, IsInt64, Int64; money.Sum. -/
import Derived.Test.YtjojjicpdfmopaaGreatDoorBigH
import Derived.Test.YtjojjicpdfmopaaGreatDoorChartX
namespace Go.Proofs.YtjojjicpdfmopaaGreatDoor
open Go Go.RowKit
set_option linter.unusedVariables false

theorem wrap_neg (x : Int) (h0 : -9223372036854775808 ≤ x) (h1 : x < 0) : IntKind.u64.wrap (-IntKind.u64.wrap x) = (x.natAbs : Int) := by
  simp only [IntKind.wrap, IntKind.bits, IntKind.signed]
  simp
  omega
theorem rd_word {w : World} {g : Nat} {cs : Array Value} {e : TypeId} {a : Nat} (h : w.cell? ⟨g, 0, none⟩ = some (.int .u64 (a : Int))) (h0 : a ≠ 0) (h1 : a < W64) : YWds w (some ⟨g, 0, none⟩) 1 a := by
  refine ⟨?_, h1⟩
  rw [wordsOf_1 h0 h1]
  refine ⟨rfl, fun _ => ⟨g, 0, rfl, fun k j u hk hu => ?_⟩⟩
  have hk0 : k = 0 := by simpa using hk
  subst hk0
  have hj : j < 1 := by
    have := (List.getElem?_eq_some_iff.1 hu).1
    simpa [wEnc] using this
  obtain rfl : j = 0 := by omega
  simp only [List.getElem_cons_zero, wEnc, List.getElem?_cons_zero, Option.some.injEq] at hu
  subst hu
  exact h
theorem newInt_at (w : World) (x : Int) (b : Bool) (hx : decide (x < 0) = b) (hx0 : x ≠ 0) (h1 : x.natAbs < W64) :
    BigRd ((w.alloc (.cells #[.int .u64 (x.natAbs : Int)] 110)).alloc (.cells #[.bool b, .slice (some ⟨w.heap.size, 0, none⟩) 1 1] 65)) (w.heap.size + 1) x (some ⟨w.heap.size, 0, none⟩) 1 1 := by
  have e : w.heap.size + 1 = (w.alloc (.cells #[.int .u64 (x.natAbs : Int)] 110)).heap.size := by simp
  have hc : (w.alloc (.cells #[.int .u64 (x.natAbs : Int)] 110)).cell? ⟨w.heap.size, 0, none⟩ = some (.int .u64 (x.natAbs : Int)) := by simp
  rw [e]
  generalize w.alloc (.cells #[.int .u64 (x.natAbs : Int)] 110) = w1 at hc ⊢
  have hc2 := below_cell ((Below.refl w1.heap.size w1).alloc (Nat.le_refl _) (.cells #[.bool b, .slice (some ⟨w.heap.size, 0, none⟩) 1 1] 65)) (World.block_lt_of_cell? _ _ hc) hc
  exact ⟨by rw [hx]; simp, by simp, rd_word (cs := #[]) (e := 0) hc2 (by omega) h1, Nat.le_refl _⟩

set_option maxRecDepth 100000 in
theorem newInt_any (x : Int) (w : World) (h0 : -9223372036854775808 ≤ x) (h1 : x ≤ 9223372036854775807) :
    Calls Tryz.prog 41 #[.int .i64 x] w fun e w' => ∃ g YA yn yc, e = .returned (.pointer (some ⟨g, 0, none⟩)) ∧ BigRd w' g x YA yn yc ∧ Below w.heap.size w w' := by
  by_cases hx : x < 0
  · have hd : decide (x < 0) = true := by simpa using hx
    have hN := newInt_at w x true hd (by omega) (by unfold W64; omega)
    have hw := wrap_neg x h0 hx
    have hxe : (x == 0) = false := by rw [beq_eq_false_iff_ne]; omega
    go_enter Tryz.func41, Tryz.ntmps41
    go_wp2_with fail
    go_ret
    exact ⟨_, _, _, _, rfl, by simpa only [hw] using hN, ((Below.refl _ _).alloc (Nat.le_refl _) _).alloc (by simp) _⟩
  · by_cases hx0 : x = 0
    · subst hx0
      go_enter Tryz.func41, Tryz.ntmps41
      go_wp2_with fail
      go_ret
      exact ⟨_, rfl, ⟨none, 0, 0, ⟨by simp, by simp, ⟨Rd.nil _ _ _ _, by decide⟩, Nat.le_refl _⟩⟩, (Below.refl _ _).alloc (Nat.le_refl _) _⟩
    · have hd : decide (x < 0) = false := by simpa using hx
      have hN := newInt_at w x false hd hx0 (by unfold W64; omega)
      have hw : (x.natAbs : Int) = x := by omega
      rw [hw] at hN
      go_enter Tryz.func41, Tryz.ntmps41
      go_wp2_with fail
      go_ret
      exact ⟨_, rfl, ⟨_, _, _, hN⟩, ((Below.refl _ _).alloc (Nat.le_refl _) _).alloc (by simp) _⟩

def in64 (x : Int) : Bool := decide (-9223372036854775808 ≤ x) && decide (x ≤ 9223372036854775807)
set_option maxRecDepth 100000 in
theorem low64_0 (A : Option Addr) (c : Nat) (w : World) : Calls Tryz.prog 91 #[.slice A 0 c] w fun e w' => e = .returned (.int .u64 0) ∧ w = w' := by
  go_enter Tryz.func91, Tryz.ntmps91
  go_wp2_with fail
  go_ret
  exact ⟨rfl, rfl⟩
set_option maxRecDepth 100000 in
theorem low64_1 (g c a : Nat) (w : World) (h : w.cell? ⟨g, 0, none⟩ = some (.int .u64 (a : Int))) (ha : a < W64) : Calls Tryz.prog 91 #[.slice (some ⟨g, 0, none⟩) 1 c] w fun e w' => e = .returned (.int .u64 (a : Int)) ∧ w = w' := by
  have ha' : a < 18446744073709551616 := ha
  go_enter Tryz.func91, Tryz.ntmps91
  go_wp2_with fail
  go_ret
  exact ⟨by first | rfl | simp, rfl⟩

set_option maxRecDepth 100000 in
theorem low64_z (g c : Nat) (a : Int) (w : World) (h : w.cell? ⟨g, 0, none⟩ = some (.int .u64 a)) (h0 : 0 ≤ a) (ha : a < 18446744073709551616) : Calls Tryz.prog 91 #[.slice (some ⟨g, 0, none⟩) 1 c] w fun e w' => e = .returned (.int .u64 a) ∧ w = w' := by
  go_enter Tryz.func91, Tryz.ntmps91
  go_wp2_with fail
  go_ret
  exact ⟨by first | rfl | simp, rfl⟩
/-- of IsInt64: what is there where the number has one word -/
structure One (w : World) (g ga c : Nat) (a : Int) (b : Bool) : Prop where
  c0 : w.cell? ⟨g, 0, none⟩ = some (.bool b)
  c1 : w.cell? ⟨g, 1, none⟩ = some (.slice (some ⟨ga, 0, none⟩) 1 c)
  hx : w.cell? ⟨ga, 0, none⟩ = some (.int .u64 a)
  h0 : 0 ≤ a
  ha : a < 18446744073709551616
theorem wrapA {a : Int} (h0 : 0 ≤ a) (h : a < 9223372036854775808) : (0 : Int) ≤ wrap64 a := by simp only [wrap64]; omega
theorem wrapB {a : Int} (h : ¬ a < 9223372036854775808) (h2 : a < 18446744073709551616) : wrap64 a = a - 18446744073709551616 := by simp only [wrap64]; omega
theorem wrapC {z : Int} (h : 0 ≤ z) (h2 : z < 9223372036854775808) : wrap64 z = z := by simp only [wrap64]; omega
set_option maxRecDepth 100000 in
theorem isInt_a {w : World} {g ga c : Nat} {a : Int} {b : Bool} (h : One w g ga c a b) (h1 : a < 9223372036854775808) :
    Calls Tryz.prog 62 #[.pointer (some ⟨g, 0, none⟩)] w fun e w' => e = .returned (.bool true) ∧ ∃ n, w' = w.drewN n := by
  have hpos := wrapA h.h0 h1
  have c0 := h.c0
  have c1 := h.c1
  clear h1
  go_enter Tryz.func62, Tryz.ntmps62
  go_wp2_with fail
  refine (low64_z ga c a _ h.hx h.h0 h.ha).mono ?_
  rintro e w1 ⟨rfl, rfl⟩
  go_wp2_with fail
  all_goals
    go_ret
    exact ⟨by first | rfl | simp [hpos], 0, rfl⟩
set_option maxRecDepth 100000 in
theorem isInt_b {w : World} {g ga c : Nat} {a : Int} (h : One w g ga c a false) (h1 : ¬ a < 9223372036854775808) :
    Calls Tryz.prog 62 #[.pointer (some ⟨g, 0, none⟩)] w fun e w' => e = .returned (.bool false) ∧ ∃ n, w' = w.drewN n := by
  have hneg : wrap64 a < 0 := by rw [wrapB h1 h.ha]; have h2 := h.ha; omega
  have c0 := h.c0
  have c1 := h.c1
  clear h1
  go_enter Tryz.func62, Tryz.ntmps62
  go_wp2_with fail
  refine (low64_z ga c a _ h.hx h.h0 h.ha).mono ?_
  rintro e w1 ⟨rfl, rfl⟩
  go_wp2_with fail
  all_goals
    go_ret
    exact ⟨by first | (simp; done) | (simp; omega), 0, rfl⟩
set_option maxRecDepth 100000 in
theorem isInt_c {w : World} {g ga c : Nat} {a : Int} (h : One w g ga c a true) (hneg : wrap64 a < 0) (hne : ¬ wrap64 a = wrap64 (-wrap64 a)) :
    Calls Tryz.prog 62 #[.pointer (some ⟨g, 0, none⟩)] w fun e w' => e = .returned (.bool false) ∧ ∃ n, w' = w.drewN n := by
  have c0 := h.c0
  have c1 := h.c1
  go_enter Tryz.func62, Tryz.ntmps62
  go_wp2_with fail
  refine (low64_z ga c a _ h.hx h.h0 h.ha).mono ?_
  rintro e w1 ⟨rfl, rfl⟩
  go_wp2_with fail
  all_goals
    go_ret
    exact ⟨by first | (simp [hne]; done) | (simp [hne]; omega), 0, rfl⟩
set_option maxRecDepth 100000 in
theorem isInt_d {w : World} {g ga c : Nat} {a : Int} (h : One w g ga c a true) (hneg : wrap64 a < 0) (heq : Hid (wrap64 a = wrap64 (-wrap64 a))) :
    Calls Tryz.prog 62 #[.pointer (some ⟨g, 0, none⟩)] w fun e w' => e = .returned (.bool true) ∧ ∃ n, w' = w.drewN n := by
  have heqb : (wrap64 a == wrap64 (-wrap64 a)) = true := by rw [beq_iff_eq]; exact heq.out
  have c0 := h.c0
  have c1 := h.c1
  go_enter Tryz.func62, Tryz.ntmps62
  go_wp2_with fail
  refine (low64_z ga c a _ h.hx h.h0 h.ha).mono ?_
  rintro e w1 ⟨rfl, rfl⟩
  go_wp2_with fail
  all_goals
    go_ret
    exact ⟨by first | (simp; done) | (simp; exact heq.out) | (simp; exact .inr heq.out), 0, rfl⟩
set_option maxRecDepth 100000 in
theorem isInt_2 {w : World} {g c n : Nat} {A : Option Addr} {b : Bool} (c0 : w.cell? ⟨g, 0, none⟩ = some (.bool b)) (c1 : w.cell? ⟨g, 1, none⟩ = some (.slice A 2 c)) :
    Calls Tryz.prog 62 #[.pointer (some ⟨g, 0, none⟩)] w fun e w' => e = .returned (.bool false) ∧ ∃ n, w' = w.drewN n := by
  go_enter Tryz.func62, Tryz.ntmps62
  go_wp2_with fail
  go_ret
  exact ⟨rfl, 0, rfl⟩
set_option maxRecDepth 100000 in
theorem isInt_0 {w : World} {g c : Nat} {A : Option Addr} {b : Bool} (c0 : w.cell? ⟨g, 0, none⟩ = some (.bool b)) (c1 : w.cell? ⟨g, 1, none⟩ = some (.slice A 0 c)) :
    Calls Tryz.prog 62 #[.pointer (some ⟨g, 0, none⟩)] w fun e w' => e = .returned (.bool true) ∧ ∃ n, w' = w.drewN n := by
  go_enter Tryz.func62, Tryz.ntmps62
  go_wp2_with fail
  refine (low64_0 A c _).mono ?_
  rintro e w1 ⟨rfl, rfl⟩
  go_wp2_with fail
  go_ret
  exact ⟨rfl, 0, rfl⟩

theorem in64_no (x : Int) (h : ¬ (-9223372036854775808 ≤ x ∧ x ≤ 9223372036854775807)) : in64 x = false := by
  unfold in64
  rw [Bool.eq_false_iff]
  intro e
  rw [Bool.and_eq_true, decide_eq_true_eq, decide_eq_true_eq] at e
  exact h e
theorem in64_yes (x : Int) (h : -9223372036854775808 ≤ x ∧ x ≤ 9223372036854775807) : in64 x = true := by
  unfold in64
  rw [Bool.and_eq_true, decide_eq_true_eq, decide_eq_true_eq]
  exact h
theorem isInt64_any {w : World} {B g : Nat} {V : Value} {x : Int} (h : BigAt w B g V x) (hv : x.natAbs < W64 * W64) :
    Calls Tryz.prog 62 #[.pointer (some ⟨g, 0, none⟩)] w fun e w' => e = .returned (.bool (in64 x)) ∧ ∃ n, w' = w.drewN n := by
  obtain ⟨A, c, rfl⟩ := h.form
  have c0 := h.c0
  have c1 := h.c1
  have hw := h.wds
  clear hv
  by_cases h2 : W64 ≤ x.natAbs
  · rw [wordsOf_2 h2] at c1
    have h2' : 18446744073709551616 ≤ x.natAbs := h2
    rw [in64_no x (by omega)]
    exact isInt_2 (n := 0) c0 c1
  · have h2' : x.natAbs < 18446744073709551616 := Nat.lt_of_not_le h2
    by_cases h0 : x.natAbs = 0
    · rw [h0, wordsOf_0] at c1
      rw [in64_yes x (by omega)]
      exact isInt_0 c0 c1
    · rw [wordsOf_1 h0 h2'] at c1 hw
      obtain ⟨ga, rfl⟩ := hw.addr (by simp)
      obtain ⟨cur, hrow, hcs, hct, _⟩ := Wds.row (n := 1) hw
      have hx := cell_head hrow hct 0 (by simp)
      simp only [List.getElem_cons_zero] at hx
      have hO : One w g ga c (x.natAbs : Int) (decide (x < 0)) := ⟨c0, c1, hx, by omega, by omega⟩
      by_cases h63 : (x.natAbs : Int) < 9223372036854775808
      · rw [in64_yes x (by omega)]
        exact isInt_a hO h63
      · have hB := wrapB h63 hO.ha
        by_cases hs : x < 0
        · have hd : decide (x < 0) = true := by simpa using hs
          rw [hd] at hO
          have hneg : wrap64 (x.natAbs : Int) < 0 := by omega
          by_cases he : x.natAbs = 9223372036854775808
          · rw [in64_yes x (by omega)]
            have e2 : -wrap64 (x.natAbs : Int) = (x.natAbs : Int) := by omega
            exact isInt_d hO hneg (hide (by rw [e2]))
          · rw [in64_no x (by omega)]
            have e2 : -wrap64 (x.natAbs : Int) = 18446744073709551616 - (x.natAbs : Int) := by omega
            have e3 := wrapC (z := 18446744073709551616 - (x.natAbs : Int)) (by omega) (by omega)
            refine isInt_c hO hneg ?_
            rw [e2, e3]
            omega
        · have hd : decide (x < 0) = false := by simpa using hs
          rw [hd] at hO
          rw [in64_no x (by omega)]
          exact isInt_b hO h63

set_option maxRecDepth 100000 in
theorem int64_any {w : World} {B g : Nat} {V : Value} {x : Int} (h : BigAt w B g V x) (hx : in64 x = true) :
    Calls Tryz.prog 63 #[.pointer (some ⟨g, 0, none⟩)] w fun e w' => e = .returned (.int .i64 x) ∧ ∃ n, w' = w.drewN n := by
  obtain ⟨A, c, rfl⟩ := h.form
  have c0 := h.c0
  have c1 := h.c1
  have hw := h.wds
  have hr : -9223372036854775808 ≤ x ∧ x ≤ 9223372036854775807 := by unfold in64 at hx; simpa using hx
  clear hx
  by_cases h0 : x.natAbs = 0
  · rw [h0, wordsOf_0] at c1
    have hx : x = 0 := by omega
    subst hx
    go_enter Tryz.func63, Tryz.ntmps63
    go_wp2_with fail
    refine (low64_0 A c _).mono ?_
    rintro e w1 ⟨rfl, rfl⟩
    go_wp2_with fail
    go_ret
    exact ⟨rfl, 0, rfl⟩
  · have h2' : x.natAbs < 18446744073709551616 := by omega
    rw [wordsOf_1 h0 h2'] at c1 hw
    obtain ⟨ga, rfl⟩ := hw.addr (by simp)
    obtain ⟨cur, hrow, hcs, hct, _⟩ := Wds.row (n := 1) hw
    have hxc := cell_head hrow hct 0 (by simp)
    simp only [List.getElem_cons_zero] at hxc
    by_cases hs : x < 0
    · have hd : decide (x < 0) = true := by simpa using hs
      rw [hd] at c0
      have hwr := hide (show wrap64 (-wrap64 (x.natAbs : Int)) = x by simp only [wrap64]; omega)
      clear hd
      go_enter Tryz.func63, Tryz.ntmps63
      go_wp2_with fail
      refine (low64_1 ga c x.natAbs _ hxc h2').mono ?_
      rintro e w1 ⟨rfl, rfl⟩
      go_wp2_with fail
      go_ret
      exact ⟨ret_int (by first | exact hwr.out | omega), 0, rfl⟩
    · have hd : decide (x < 0) = false := by simpa using hs
      rw [hd] at c0
      have hwr := hide (show wrap64 (x.natAbs : Int) = x by simp only [wrap64]; omega)
      clear hd
      go_enter Tryz.func63, Tryz.ntmps63
      go_wp2_with fail
      refine (low64_1 ga c x.natAbs _ hxc h2').mono ?_
      rintro e w1 ⟨rfl, rfl⟩
      go_wp2_with fail
      go_ret
      exact ⟨ret_int (by first | exact hwr.out | omega), 0, rfl⟩

/-- money's small: a number of 64 bits, or the error -/
def smE (x : Int) : Int := if in64 x = true then 0 else 10
def smV (x : Int) : Int := if in64 x = true then x else 0
set_option maxRecDepth 100000 in
theorem msmall_any {w : World} {B g : Nat} {V : Value} {x : Int} (h : BigAt w B g V x) (hv : x.natAbs < W64 * W64) :
    Calls Tryz.prog 30 #[.pointer (some ⟨g, 0, none⟩)] w fun e w' => e = .returned (.tuple #[.int .i64 (smV x), errV (smE x)]) ∧ Below w.heap.size w w' := by
  cases hx : in64 x with
  | true =>
    have h1 : smV x = x := if_pos hx
    have h2 : smE x = 0 := if_pos hx
    rw [h1, h2]
    have HX := hide hx
    clear hx h1 h2
    go_enter Tryz.func30, Tryz.ntmps30
    go_wp2_with fail
    refine (isInt64_any h hv).mono ?_
    rintro e w1 ⟨rfl, n1, rfl⟩
    rw [HX.out]
    go_wp2_with fail
    refine (int64_any (h.below (bdrewN (Below.refl _ w) n1)) HX.out).mono ?_
    rintro e w2 ⟨rfl, n2, rfl⟩
    have hr : -9223372036854775808 ≤ x ∧ x ≤ 9223372036854775807 := by have := HX.out; unfold in64 at this; simpa using this
    go_wp2_with fail
    go_ret2
    exact ⟨rfl, by first | exact bdrewN (Below.refl _ w) (n1 + n2) | exact bdrewN (bdrewN (Below.refl _ w) n1) n2⟩
  | false =>
    have h1 : smV x = 0 := if_neg (by rw [hx]; decide)
    have h2 : smE x = 10 := if_neg (by rw [hx]; decide)
    rw [h1, h2]
    have HX := hide hx
    clear hx h1 h2
    go_enter Tryz.func30, Tryz.ntmps30
    go_wp2_with fail
    refine (isInt64_any h hv).mono ?_
    rintro e w1 ⟨rfl, n1, rfl⟩
    rw [HX.out]
    go_wp2_with fail
    go_ret2
    exact ⟨rfl, bdrewN (Below.refl _ w) n1⟩

theorem big1_any (x : Int) (w : World) (h0 : -9223372036854775808 ≤ x) (h1 : x ≤ 9223372036854775807) :
    Calls Tryz.prog 22 #[.int .i64 x] w fun e w' => ∃ g YA yn yc, e = .returned (.pointer (some ⟨g, 0, none⟩)) ∧ BigRd w' g x YA yn yc ∧ Below w.heap.size w w' := by
  go_enter Tryz.func22, Tryz.ntmps22
  go_wp2_with fail
  refine (newInt_any x _ h0 h1).mono ?_
  rintro e w1 ⟨g, YA, yn, yc, rfl, hR, hb⟩
  go_wp2_with fail
  go_ret
  exact ⟨g, YA, yn, yc, rfl, hR, hb⟩

def intEnc2 (n : Int) : List Value := [.int .i64 n]
theorem intEnc2_ok : Enc 1 intEnc2 := ⟨fun _ => rfl, by
  intro a u hu
  simp only [intEnc2, List.mem_singleton] at hu
  subst hu; rfl⟩
def sumTo (l : List Int) (k : Nat) : Int := (l.take k).sum
theorem sumTo_succ (l : List Int) (k : Nat) (h : k < l.length) : sumTo l (k + 1) = sumTo l k + l[k] := by
  unfold sumTo
  rw [List.take_succ_eq_append_getElem h, List.sum_append]
  simp
/-- all of them are of 64 bits -/
def Ints64 (l : List Int) : Prop := ∀ x, x ∈ l → -9223372036854775808 ≤ x ∧ x ≤ 9223372036854775807
theorem sumTo_bnd {l : List Int} (h : Ints64 l) (k : Nat) (hk : k ≤ l.length) : (sumTo l k).natAbs ≤ k * 9223372036854775808 := by
  induction k with
  | zero => simp [sumTo]
  | succ k ih =>
    have h1 := ih (by omega)
    have h2 := h l[k] (List.getElem_mem _)
    rw [sumTo_succ l k (by omega)]
    omega

set_option maxHeartbeats 1000000 in
set_option maxRecDepth 100000 in
theorem msum_any (l : List Int) (A : Option Addr) (n c : Nat) (w : World) (ha : Rd w 1 intEnc2 A n l) (hn : n ≤ 2199023255552) (hl : Ints64 l) :
    Calls Tryz.prog 15 #[.slice A n c] w fun e w' => e = .returned (.tuple #[.int .i64 (smV l.sum), errV (smE l.sum)]) ∧ Below w.heap.size w w' := by
  have Hn := hide ha.1
  go_enter Tryz.func15, Tryz.ntmps15
  go_wp2_with fail
  have hw0 : BigAt (w.alloc (.cells #[.bool false, .slice none 0 0] 65)) w.heap.size w.heap.size (.slice none 0 0) 0 := by
    refine ⟨Nat.le_refl _, by simp, by simp, fun q => by simp, ⟨Own.nil _ _ _ _ _, none, 0, rfl, by omega⟩, by simp [Value.ownBlock]⟩
  go_loopw [10] (fun iv wr => ∃ (k : Nat) (V : Value), k ≤ n ∧ iv = .int .i64 k ∧ BigAt wr w.heap.size w.heap.size V (sumTo l k) ∧ Below w.heap.size w wr) (fun iv _ => n - (intOf iv).toNat)
  case atStart => exact ⟨0, _, by omega, rfl, hw0, (Below.refl _ _).alloc (Nat.le_refl _) _⟩
  case round =>
    obtain ⟨k, V, hk, rfl, hX, hbr⟩ := hrel
    by_cases hlt : k < n
    · have hkl : k < l.length := by have := Hn.out; omega
      obtain ⟨b, off, rfl, hcs⟩ := (Rd.below ha hbr).2 (by omega)
      have q0 := hcs k 0 _ hkl rfl
      rw [Nat.mul_one, Nat.add_zero] at q0
      clear hcs
      have k0 : (0 : Int) ≤ (k : Int) := by omega
      have k1 : (k : Int) < (n : Int) := by omega
      have hb := hl l[k] (List.getElem_mem _)
      have hbs := hide (sumTo_bnd hl k (by omega))
      have hss := hide (sumTo_succ l k hkl)
      go_wp2_with fail
      refine (big1_any l[k] _ hb.1 hb.2).mono ?_
      rintro e w1 ⟨gy, YA, yn, yc, rfl, hY, hb1⟩
      have hX1 := hX.below hb1
      have hb1 := bthen hbr (Nat.le_refl _) hb1
      go_wp2_with fail
      refine (bigAdd_any w.heap.size w.heap.size gy yn yc V (sumTo l k) l[k] YA _ hb1.size hX1 hY (by have := hbs.out; unfold W64; omega)).mono ?_
      rintro e w2 ⟨rfl, V2, hX2, hb2⟩
      go_wp2_with fail
      go_roundw
      case rel => exact ⟨k + 1, V2, by omega, by go_num, by rw [hss.out]; exact hX2, hb1.trans hb2⟩
      case measure => simp [intOf]; omega
    · have hkn : k = n := by omega
      subst hkn
      have hbs := sumTo_bnd hl k (by have := Hn.out; omega)
      have hsum : sumTo l k = l.sum := by unfold sumTo; rw [← Hn.out, List.take_length]
      rw [hsum] at hX hbs
      have hbs' : l.sum.natAbs < W64 * W64 := by unfold W64; omega
      clear hbs hsum
      go_wp2_with fail
      refine (msmall_any hX hbs').mono ?_
      rintro e w1 ⟨rfl, hb1⟩
      go_wp2_with fail
      go_ret2
      exact ⟨rfl, bthen hbr (Nat.le_refl _) hb1⟩
end Go.Proofs.YtjojjicpdfmopaaGreatDoor
