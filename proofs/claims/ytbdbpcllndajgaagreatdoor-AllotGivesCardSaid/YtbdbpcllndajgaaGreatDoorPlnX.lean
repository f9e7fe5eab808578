/- Plain facts of what comes a part at a time. -/
import Derived.Test.YtbdbpcllndajgaaGreatDoorMem
import Derived.Test.YtbdbpcllndajgaaGreatDoorBalY
namespace Go.Proofs.YtbdbpcllndajgaaGreatDoor
set_option linter.unusedVariables false

/-- how much came by the k-th of p parts -/
def uptoI (a p k : Int) : Int := (a * k).tdiv p
/-- the part from k to k + 1 -/
def partI (a p k : Int) : Int := uptoI a p (k + 1) - uptoI a p k

theorem part_nat (A p k : Nat) (hp : 0 < p) : A / p ≤ A * (k + 1) / p - A * k / p ∧ A * (k + 1) / p - A * k / p ≤ A / p + 1 ∧ A * k / p ≤ A * (k + 1) / p := by
  have h0 : A * (k + 1) = (A * k + A % p) + A / p * p := by
    have := Nat.div_add_mod A p
    rw [Nat.mul_add, Nat.mul_one, Nat.mul_comm (A / p) p]
    omega
  have h1 : A * (k + 1) / p = (A * k + A % p) / p + A / p := by rw [h0, Nat.add_mul_div_right _ _ hp]
  have h2 : A * k + A % p = (A * k % p + A % p) + A * k / p * p := by
    have := Nat.div_add_mod (A * k) p
    rw [Nat.mul_comm (A * k / p) p]
    omega
  have h3 : (A * k + A % p) / p = (A * k % p + A % p) / p + A * k / p := by
    conv => lhs; rw [h2]
    rw [Nat.add_mul_div_right _ _ hp]
  have h4 : (A * k % p + A % p) / p ≤ 1 := by
    have e1 := Nat.mod_lt (A * k) hp
    have e2 := Nat.mod_lt A hp
    have : (A * k % p + A % p) / p < 2 := Nat.div_lt_of_lt_mul (by omega)
    omega
  rw [h3] at h1
  clear h0 h2 h3
  generalize (A * k % p + A % p) / p = D at h1 h4
  generalize A * (k + 1) / p = X at *
  generalize A * k / p = Y at *
  generalize A / p = Z at *
  omega

theorem upto_pos (A p k : Nat) : uptoI (A : Int) (p : Int) (k : Int) = ((A * k / p : Nat) : Int) := by
  unfold uptoI
  rw [← Int.natCast_mul, ← Int.ofNat_tdiv]
theorem upto_neg (A p k : Nat) : uptoI (-(A : Int)) (p : Int) (k : Int) = -((A * k / p : Nat) : Int) := by
  unfold uptoI
  rw [Int.neg_mul, Int.neg_tdiv, ← Int.natCast_mul, ← Int.ofNat_tdiv]

/-- two parts differ by no more than one, and none is on the other side of 0 -/
theorem parts_near (a p : Int) (hp : 1 ≤ p) : ∃ lo, ∀ k : Nat, (lo ≤ partI a p k ∧ partI a p k ≤ lo + 1) ∧ (0 < a → 0 ≤ partI a p k) ∧ (a < 0 → partI a p k ≤ 0) := by
  obtain ⟨P, rfl⟩ := Int.eq_ofNat_of_zero_le (show 0 ≤ p by omega)
  have hP : 0 < P := by omega
  by_cases h : 0 ≤ a
  · obtain ⟨A, rfl⟩ := Int.eq_ofNat_of_zero_le h
    refine ⟨((A / P : Nat) : Int), fun k => ?_⟩
    have hk := part_nat A P k hP
    have e1 := upto_pos A P k
    have e2 := upto_pos A P (k + 1)
    rw [Int.natCast_add] at e2
    unfold partI
    rw [e1, show ((k : Int) + 1) = ((k : Int) + ((1 : Nat) : Int)) from rfl, e2]
    omega
  · obtain ⟨A, hA⟩ := Int.eq_ofNat_of_zero_le (show 0 ≤ -a by omega)
    obtain rfl : a = -(A : Int) := by omega
    refine ⟨-((A / P : Nat) : Int) - 1, fun k => ?_⟩
    have hk := part_nat A P k hP
    have e1 := upto_neg A P k
    have e2 := upto_neg A P (k + 1)
    rw [Int.natCast_add] at e2
    unfold partI
    rw [e1, show ((k : Int) + 1) = ((k : Int) + ((1 : Nat) : Int)) from rfl, e2]
    omega
theorem upto_zero (a p : Int) : uptoI a p 0 = 0 := by unfold uptoI; rw [Int.mul_zero, Int.zero_tdiv]
theorem upto_all (a p : Int) (hp : 1 ≤ p) : uptoI a p p = a := by unfold uptoI; rw [Int.mul_tdiv_cancel _ (by omega)]
theorem part_step (a p k : Int) : uptoI a p k + partI a p k = uptoI a p (k + 1) := by unfold partI; omega
theorem upto_abs (a p k : Int) : (uptoI a p k).natAbs = a.natAbs * k.natAbs / p.natAbs := by
  unfold uptoI
  rw [Int.natAbs_tdiv, Int.natAbs_mul]
  rfl
theorem upto_bnd (a p k : Int) (h0 : 0 ≤ k) (hk : k ≤ 120) (hp : 1 ≤ p) (ha : a.natAbs ≤ 1000000000000000) : (uptoI a p k).natAbs ≤ 120000000000000000 := by
  rw [upto_abs]
  have h1 : a.natAbs * k.natAbs ≤ 1000000000000000 * 120 := Nat.mul_le_mul ha (by omega)
  exact Nat.le_trans (Nat.div_le_self _ _) h1
end Go.Proofs.YtbdbpcllndajgaaGreatDoor

namespace Go.Proofs.YtbdbpcllndajgaaGreatDoor
open Go Go.RowKit
set_option linter.unusedVariables false

structure Pln where
  ref : ByteArray
  ent : Int
  fr : ByteArray
  to : ByteArray
  cur : ByteArray
  amt : Int
  first : Int
  per : Int
instance : Inhabited Pln := ⟨⟨⟨#[]⟩, 0, ⟨#[]⟩, ⟨#[]⟩, ⟨#[]⟩, 0, 0, 0⟩⟩
def plnEnc (x : Pln) : List Value := [.string x.ref, .int .i64 x.ent, .string x.fr, .string x.to, .string x.cur, .int .i64 x.amt, .int .i64 x.first, .int .i64 x.per]
theorem plnEnc_ok : Enc 8 plnEnc := ⟨fun _ => rfl, fun _ u hu => by simp [plnEnc] at hu; rcases hu with rfl | rfl | rfl | rfl | rfl | rfl | rfl | rfl <;> rfl⟩
def plnV (x : Pln) : Value := .agg #[.string x.ref, .int .i64 x.ent, .string x.fr, .string x.to, .string x.cur, .int .i64 x.amt, .int .i64 x.first, .int .i64 x.per]
def In64 (n : Int) : Prop := -9223372036854775808 ≤ n ∧ n ≤ 9223372036854775807
structure PlnFits (x : Pln) : Prop where
  ref : x.ref.size ≤ 9223372036854775807
  fr : x.fr.size ≤ 9223372036854775807
  to : x.to.size ≤ 9223372036854775807
  cur : x.cur.size ≤ 9223372036854775807
  ent : In64 x.ent
  amt : In64 x.amt
  first : In64 x.first
  per : In64 x.per
def PlnsOk (l : List Pln) : Prop := ∀ x, x ∈ l → PlnFits x

def plnSet : ByteArray := ⟨#[97, 98, 99, 100, 101, 102, 103, 104, 105, 106, 107, 108, 109, 110, 111, 112, 113, 114, 115, 116, 117, 118, 119, 120, 121, 122, 48, 49, 50, 51, 52, 53, 54, 55, 56, 57]⟩
def prefB (s : ByteArray) : Bool := !s.toList.isEmpty && decide ((s.size : Int) ≤ 8) && allIn s plnSet
def amtB (n : Int) : Bool := inB (-1000000000000000) 1000000000000000 n
def perB (n : Int) : Bool := inB 1 120 n
/-- what is wrong with a plan's numbers -/
def numE (x : Pln) : Int := if x.amt = 0 then 1 else if amtB x.amt = false then 1 else if perB x.per = false then 1 else if perB x.first = false then 1 else 0
def sameRef (x y : Pln) : Bool := y.ref.toList == x.ref.toList
/-- what is wrong with a plan, some being ahead -/
def planE (c : List Acc) (ahead : List Pln) (x : Pln) : Int :=
  if prefB x.ref = false then 2 else if ahead.any (sameRef x) = true then 8 else if inB 1 12 x.ent = false then 1 else if numE x ≠ 0 then 1
  else if leafE c x.fr ≠ 0 then leafE c x.fr else if leafE c x.to ≠ 0 then leafE c x.to else if x.fr.toList = x.to.toList then 8 else if curB x.cur = false then 2 else 0
def planAt (c : List Acc) (l : List Pln) (k : Nat) : Int := match l[k]? with | none => 0 | some x => planE c (l.take k) x
def plansE (c : List Acc) (l : List Pln) : Int := if chartE c ≠ 0 then chartE c else if 20 < l.length then 4 else firstE (planAt c l) l.length
section
variable {c : List Acc} {l ahead : List Pln} {x : Pln} {k : Nat}
theorem inB_iff {a b n : Int} : inB a b n = true ↔ a ≤ n ∧ n ≤ b := by
  unfold inB
  rw [Bool.and_eq_true, decide_eq_true_eq, decide_eq_true_eq]
theorem numE_1 (h : x.amt = 0) : numE x = 1 := if_pos h
theorem numE_2 (h : x.amt ≠ 0) (h2 : amtB x.amt = false) : numE x = 1 := by rw [numE, if_neg h, if_pos h2]
theorem numE_3 (h : x.amt ≠ 0) (h2 : amtB x.amt = true) (h3 : perB x.per = false) : numE x = 1 := by rw [numE, if_neg h, if_neg (by rw [h2]; decide), if_pos h3]
theorem numE_4 (h : x.amt ≠ 0) (h2 : amtB x.amt = true) (h3 : perB x.per = true) (h4 : perB x.first = false) : numE x = 1 := by
  rw [numE, if_neg h, if_neg (by rw [h2]; decide), if_neg (by rw [h3]; decide), if_pos h4]
theorem numE_5 (h : x.amt ≠ 0) (h2 : amtB x.amt = true) (h3 : perB x.per = true) (h4 : perB x.first = true) : numE x = 0 := by
  rw [numE, if_neg h, if_neg (by rw [h2]; decide), if_neg (by rw [h3]; decide), if_neg (by rw [h4]; decide)]
theorem numE_ok (h : numE x = 0) : x.amt ≠ 0 ∧ (-1000000000000000 ≤ x.amt ∧ x.amt ≤ 1000000000000000) ∧ (1 ≤ x.per ∧ x.per ≤ 120) ∧ 1 ≤ x.first ∧ x.first ≤ 120 := by
  by_cases h1 : x.amt = 0
  · rw [numE_1 h1] at h; cases h
  · cases h2 : amtB x.amt with
    | false => rw [numE_2 h1 h2] at h; cases h
    | true =>
      cases h3 : perB x.per with
      | false => rw [numE_3 h1 h2 h3] at h; cases h
      | true =>
        cases h4 : perB x.first with
        | false => rw [numE_4 h1 h2 h3 h4] at h; cases h
        | true => exact ⟨h1, inB_iff.1 h2, inB_iff.1 h3, inB_iff.1 h4⟩
theorem numE_01 : numE x = 0 ∨ numE x = 1 := by
  unfold numE
  repeat' split
  all_goals simp
theorem planE_1 (h : prefB x.ref = false) : planE c ahead x = 2 := if_pos h
theorem planE_2 (h : prefB x.ref = true) (h2 : ahead.any (sameRef x) = true) : planE c ahead x = 8 := by rw [planE, if_neg (by rw [h]; decide), if_pos h2]
theorem planE_3 (h : prefB x.ref = true) (h2 : ahead.any (sameRef x) = false) (h3 : inB 1 12 x.ent = false) : planE c ahead x = 1 := by
  rw [planE, if_neg (by rw [h]; decide), if_neg (by rw [h2]; decide), if_pos h3]
theorem planE_4 (h : prefB x.ref = true) (h2 : ahead.any (sameRef x) = false) (h3 : inB 1 12 x.ent = true) (h4 : numE x ≠ 0) : planE c ahead x = 1 := by
  rw [planE, if_neg (by rw [h]; decide), if_neg (by rw [h2]; decide), if_neg (by rw [h3]; decide), if_pos h4]
theorem planE_5 (h : prefB x.ref = true) (h2 : ahead.any (sameRef x) = false) (h3 : inB 1 12 x.ent = true) (h4 : numE x = 0) :
    planE c ahead x = if leafE c x.fr ≠ 0 then leafE c x.fr else if leafE c x.to ≠ 0 then leafE c x.to else if x.fr.toList = x.to.toList then 8 else if curB x.cur = false then 2 else 0 := by
  rw [planE, if_neg (by rw [h]; decide), if_neg (by rw [h2]; decide), if_neg (by rw [h3]; decide), if_neg (by rw [h4]; decide)]
theorem planAt_at (hk : k < l.length) : planAt c l k = planE c (l.take k) l[k] := by
  unfold planAt
  rw [List.getElem?_eq_getElem hk]
theorem plansE_1 (h : chartE c ≠ 0) : plansE c l = chartE c := if_pos h
theorem plansE_2 (h : chartE c = 0) (h2 : 20 < l.length) : plansE c l = 4 := by rw [plansE, if_neg (by simpa using h), if_pos h2]
theorem plansE_3 (h : chartE c = 0) (h2 : ¬ 20 < l.length) : plansE c l = firstE (planAt c l) l.length := by rw [plansE, if_neg (by simpa using h), if_neg h2]
theorem plans_hit {e : Int} (hc : chartE c = 0) (h20 : ¬ 20 < l.length) (hto : firstE (planAt c l) k = 0) (hk : k < l.length) (he : planAt c l k = e) (h0 : e ≠ 0) : plansE c l = e := by
  rw [plansE_3 hc h20, firstE_hit hto hk (by rw [he]; exact h0), he]
/-- a plan with which nothing is wrong -/
structure PlanOk (x : Pln) : Prop where
  ref : x.ref.size ≤ 8
  ent : 1 ≤ x.ent ∧ x.ent ≤ 12
  num : numE x = 0
theorem prefB_size {s : ByteArray} (h : prefB s = true) : s.size ≤ 8 := by
  unfold prefB at h
  rw [Bool.and_eq_true, Bool.and_eq_true, decide_eq_true_eq] at h
  omega
theorem planE_ok (h : planE c ahead x = 0) : PlanOk x := by
  cases h1 : prefB x.ref with
  | false => rw [planE_1 h1] at h; cases h
  | true =>
    cases h2 : ahead.any (sameRef x) with
    | true => rw [planE_2 h1 h2] at h; cases h
    | false =>
      cases h3 : inB 1 12 x.ent with
      | false => rw [planE_3 h1 h2 h3] at h; cases h
      | true =>
        by_cases h4 : numE x = 0
        · exact ⟨prefB_size h1, inB_iff.1 h3, h4⟩
        · rw [planE_4 h1 h2 h3 h4] at h; cases h
theorem plansE_0 (h : plansE c l = 0) : chartE c = 0 ∧ l.length ≤ 20 ∧ ∀ x, x ∈ l → PlanOk x := by
  by_cases h1 : chartE c = 0
  · by_cases h2 : 20 < l.length
    · rw [plansE_2 h1 h2] at h; cases h
    · rw [plansE_3 h1 h2] at h
      refine ⟨h1, by omega, fun x hx => ?_⟩
      obtain ⟨k, hk, rfl⟩ := List.getElem_of_mem hx
      have := firstE_0 h k hk
      rw [planAt_at hk] at this
      exact planE_ok this
  · rw [plansE_1 h1] at h; exact absurd h h1
end

/-- the part of a plan that comes in a period -/
def partOf (x : Pln) (period : Int) : Int := if period - x.first + 1 < 1 then 0 else if x.per < period - x.first + 1 then 0 else uptoI x.amt x.per (period - x.first + 1) - uptoI x.amt x.per (period - x.first)
section
variable {x : Pln}
theorem partOf_in {k : Nat} (h : (k : Int) < x.per) : partOf x (x.first + k) = partI x.amt x.per k := by
  unfold partOf partI
  rw [if_neg (by omega), if_neg (by omega), show x.first + (k : Int) - x.first = (k : Int) from by omega]
theorem partOf_after (h : 1 ≤ x.per) : partOf x (x.first + x.per) = 0 := by
  unfold partOf
  rw [if_neg (by omega), if_pos (by omega)]
theorem part_small {a p k : Int} (hk : 0 ≤ k) (hp : 1 ≤ p) (ha : -1000000000000000 ≤ a ∧ a ≤ 1000000000000000) : -1000000000000000 ≤ partI a p k ∧ partI a p k ≤ 1000000000000000 := by
  obtain ⟨lo, h⟩ := parts_near a p hp
  obtain ⟨K, rfl⟩ := Int.eq_ofNat_of_zero_le hk
  obtain ⟨P, rfl⟩ := Int.eq_ofNat_of_zero_le (show 0 ≤ p by omega)
  have hP : 0 < P := by omega
  by_cases h0 : 0 ≤ a
  · obtain ⟨A, rfl⟩ := Int.eq_ofNat_of_zero_le h0
    have hk := part_nat A P K hP
    have e1 := upto_pos A P K
    have e2 := upto_pos A P (K + 1)
    rw [Int.natCast_add] at e2
    have h5 : A / P + 1 ≤ A + 1 := by have := Nat.div_le_self A P; omega
    have h6 : A * (K + 1) / P - A * K / P ≤ A := by
      have h8 : A * (K + 1) / P ≤ (A * K + P * A) / P := Nat.div_le_div_right (by
        have : A ≤ P * A := Nat.le_mul_of_pos_left A hP
        rw [Nat.mul_add, Nat.mul_one]; omega)
      rw [Nat.add_mul_div_left _ _ hP] at h8
      omega
    unfold partI
    rw [e1, show ((K : Int) + 1) = ((K : Int) + ((1 : Nat) : Int)) from rfl, e2]
    omega
  · obtain ⟨A, hA⟩ := Int.eq_ofNat_of_zero_le (show 0 ≤ -a by omega)
    obtain rfl : a = -(A : Int) := by omega
    have hk := part_nat A P K hP
    have e1 := upto_neg A P K
    have e2 := upto_neg A P (K + 1)
    rw [Int.natCast_add] at e2
    have h6 : A * (K + 1) / P - A * K / P ≤ A := by
      have h8 : A * (K + 1) / P ≤ (A * K + P * A) / P := Nat.div_le_div_right (by
        have : A ≤ P * A := Nat.le_mul_of_pos_left A hP
        rw [Nat.mul_add, Nat.mul_one]; omega)
      rw [Nat.add_mul_div_left _ _ hP] at h8
      omega
    unfold partI
    rw [e1, show ((K : Int) + 1) = ((K : Int) + ((1 : Nat) : Int)) from rfl, e2]
    omega
theorem partOf_small {period : Int} (h : numE x = 0) : -1000000000000000 ≤ partOf x period ∧ partOf x period ≤ 1000000000000000 := by
  obtain ⟨_, h1, h2, h3⟩ := numE_ok h
  unfold partOf
  split
  · omega
  · split
    · omega
    · have := part_small (a := x.amt) (p := x.per) (k := period - x.first) (by omega) h2.1 h1
      unfold partI at this
      exact this
end
/-- the sum of the first parts is what came by then -/
theorem part_sum (a p : Int) (k : Nat) : uptoI a p k + partI a p k = uptoI a p ((k : Int) + 1) := part_step a p k
end Go.Proofs.YtbdbpcllndajgaaGreatDoor
