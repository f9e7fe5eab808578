/- Balances and pairs: how they lie; plain facts. -/
import Derived.Test.YtjojjicpdfmopaaGreatDoorEntD
import Derived.Test.YtjojjicpdfmopaaGreatDoorRangeE
import Derived.Test.YtjojjicpdfmopaaGreatDoorSortA
namespace Go.Proofs.YtjojjicpdfmopaaGreatDoor
open Go Go.RowKit
set_option linter.unusedVariables false
theorem leafE_range (l : List Acc) (c : ByteArray) : 0 ≤ leafE l c ∧ leafE l c ≤ 12 := by
  unfold leafE
  repeat' split
  all_goals omega

/-- the first fault of n -/
def firstE (f : Nat → Int) : Nat → Int
  | 0 => 0
  | n + 1 => if firstE f n ≠ 0 then firstE f n else f n
theorem firstE_succ {f : Nat → Int} {n : Nat} (h : firstE f n = 0) : firstE f (n + 1) = f n := by rw [firstE, if_neg (by simpa using h)]
theorem firstE_hit {f : Nat → Int} {k n : Nat} (h : firstE f k = 0) (hk : k < n) (hf : f k ≠ 0) : firstE f n = f k := by
  induction n with
  | zero => omega
  | succ n ih =>
    by_cases e : k = n
    · subst e; exact firstE_succ h
    · have := ih (by omega)
      rw [firstE, if_pos (by rw [this]; exact hf), this]
theorem firstE_range {f : Nat → Int} (h : ∀ k, 0 ≤ f k ∧ f k ≤ 12) (n : Nat) : 0 ≤ firstE f n ∧ firstE f n ≤ 12 := by
  induction n with
  | zero => exact ⟨Int.le_refl _, by show (0 : Int) ≤ 12; decide⟩
  | succ n ih =>
    rw [firstE]
    split
    · exact ih
    · exact h n
theorem firstE_0 {f : Nat → Int} {n : Nat} (h : firstE f n = 0) : ∀ k, k < n → f k = 0 := by
  intro k hk
  by_cases e : f k = 0
  · exact e
  · have h0 : firstE f k = 0 := by
      clear e
      induction n with
      | zero => omega
      | succ n ih =>
        have hn : firstE f n = 0 := by
          by_cases e : firstE f n = 0
          · exact e
          · rw [firstE, if_pos e] at h; exact absurd h e
        by_cases e : k = n
        · subst e; exact hn
        · exact ih hn (by omega)
    rw [firstE_hit h0 hk e] at h
    exact h

/-- the first of a list that a question says yes to -/
def NoTo {α : Type} (p : α → Bool) (l : List α) (k : Nat) : Prop := ∀ (j : Nat) (h : j < l.length), j < k → p l[j] = false
section
variable {α : Type} {p : α → Bool} {l : List α} {k : Nat}
theorem NoTo.zero (p : α → Bool) (l : List α) : NoTo p l 0 := fun _ _ h => absurd h (by omega)
theorem NoTo.succ (h : NoTo p l k) (hk : k < l.length) (hp : p l[k] = false) : NoTo p l (k + 1) := by
  intro j hj hjk
  by_cases e : j = k
  · subst e; exact hp
  · exact h j hj (by omega)
theorem NoTo.hit (h : NoTo p l k) (hk : k < l.length) (hp : p l[k] = true) : l.find? p = some l[k] := by
  rw [List.find?_eq_some_iff_getElem]
  exact ⟨hp, k, hk, rfl, fun j hj => by simpa using h j (by omega) hj⟩
theorem NoTo.all (h : NoTo p l k) (hk : l.length ≤ k) : l.find? p = none := by
  rw [List.find?_eq_none]
  intro x hx
  obtain ⟨j, hj, rfl⟩ := List.getElem_of_mem hx
  simpa using h j hj (by omega)
theorem NoTo.any (h : NoTo p l k) (hk : l.length ≤ k) : l.any p = false := by
  rw [List.any_eq_false]
  intro x hx
  obtain ⟨j, hj, rfl⟩ := List.getElem_of_mem hx
  simpa using h j hj (by omega)
theorem any_at (hk : k < l.length) (hp : p l[k] = true) : l.any p = true := by
  rw [List.any_eq_true]
  exact ⟨l[k], List.getElem_mem _, hp⟩
end

structure Bal where
  ent : Int
  acc : ByteArray
  cur : ByteArray
  amt : Int
def balEnc (x : Bal) : List Value := [.int .i64 x.ent, .string x.acc, .string x.cur, .int .i64 x.amt]
def BalFits (x : Bal) : Prop := (-9223372036854775808 ≤ x.ent ∧ x.ent ≤ 9223372036854775807) ∧ x.acc.size ≤ 9223372036854775807 ∧ x.cur.size ≤ 9223372036854775807 ∧ -9223372036854775808 ≤ x.amt ∧ x.amt ≤ 9223372036854775807
def BalsOk (l : List Bal) : Prop := ∀ x, x ∈ l → BalFits x
theorem balEnc_ok : Enc 4 balEnc := ⟨fun _ => rfl, fun _ u hu => by simp [balEnc] at hu; rcases hu with rfl | rfl | rfl | rfl <;> rfl⟩
structure Pr where
  a : Int
  b : Int
  one : ByteArray
  other : ByteArray
  diff : ByteArray
def prEnc (x : Pr) : List Value := [.int .i64 x.a, .int .i64 x.b, .string x.one, .string x.other, .string x.diff]
def PrFits (x : Pr) : Prop := (-9223372036854775808 ≤ x.a ∧ x.a ≤ 9223372036854775807) ∧ (-9223372036854775808 ≤ x.b ∧ x.b ≤ 9223372036854775807) ∧ x.one.size ≤ 9223372036854775807 ∧ x.other.size ≤ 9223372036854775807 ∧ x.diff.size ≤ 9223372036854775807
def PrsOk (l : List Pr) : Prop := ∀ x, x ∈ l → PrFits x
theorem prEnc_ok : Enc 5 prEnc := ⟨fun _ => rfl, fun _ u hu => by simp [prEnc] at hu; rcases hu with rfl | rfl | rfl | rfl | rfl <;> rfl⟩

/-- ahead of it: by entity, account, currency -/
def aheadB (x y : Bal) : Bool := if x.ent = y.ent then (if x.acc = y.acc then lessB x.cur y.cur else lessB x.acc y.acc) else decide (x.ent < y.ent)
def cmpI (a b : Int) : Int := if a < b then -1 else if b < a then 1 else 0
theorem cmpI_m {a b : Int} (h : a < b) : cmpI a b = -1 := if_pos h
theorem cmpI_p {a b : Int} (h : b < a) : cmpI a b = 1 := by rw [cmpI, if_neg (by omega), if_pos h]
theorem cmpI_z (a : Int) : cmpI a a = 0 := by rw [cmpI, if_neg (by omega), if_neg (by omega)]
theorem cmpI_0 {a b : Int} : cmpI a b = 0 ↔ a = b := by
  unfold cmpI
  split
  · constructor
    · intro h; cases h
    · intro h; omega
  · split
    · constructor
      · intro h; cases h
      · intro h; omega
    · constructor
      · intro _; omega
      · intro _; rfl
def cmpBal (x y : Bal) : Int := orV (orV (cmpI x.ent y.ent) (cmpB x.acc y.acc)) (cmpB x.cur y.cur)
theorem cmpBal_lt (x y : Bal) : decide (cmpBal x y < 0) = aheadB x y := by
  unfold cmpBal orV aheadB
  by_cases h : x.ent = y.ent
  · rw [if_pos h, if_pos (cmpI_0.2 h)]
    by_cases h2 : x.acc = y.acc
    · rw [if_pos (cmpB_0.2 h2), if_pos h2, cmpB_lt]
    · rw [if_neg (fun e => h2 (cmpB_0.1 e)), if_neg h2, cmpB_lt]
  · have h1 : ¬ cmpI x.ent y.ent = 0 := fun e => h (cmpI_0.1 e)
    rw [if_neg h, if_neg h1, if_neg h1]
    unfold cmpI
    by_cases h3 : x.ent < y.ent
    · rw [if_pos h3]; simp [h3]
    · rw [if_neg h3, if_pos (by omega)]; simp [h3]
theorem cmpBal_ge (x y : Bal) : decide (0 ≤ cmpBal x y) = !aheadB x y := by
  rw [← cmpBal_lt]
  by_cases h : cmpBal x y < 0
  · simp [h]
  · simp [h]; omega

/-- does balance k stand behind the one ahead of it? -/
def ordB (l : List Bal) (k : Nat) : Bool := if k = 0 then true else match l[k - 1]?, l[k]? with | some x, some y => aheadB x y | _, _ => true
theorem ordB_0 (l : List Bal) : ordB l 0 = true := rfl
theorem ordB_s {l : List Bal} {k : Nat} (h : k + 1 < l.length) : ordB l (k + 1) = aheadB l[k] l[k + 1] := by
  unfold ordB
  rw [if_neg (by omega), Nat.add_sub_cancel, List.getElem?_eq_getElem (by omega), List.getElem?_eq_getElem h]
theorem ordB_at {l : List Bal} {k : Nat} (h0 : k ≠ 0) (h : k < l.length) : ordB l k = aheadB l[k - 1] l[k] := by
  obtain ⟨j, rfl⟩ : ∃ j, k = j + 1 := ⟨k - 1, by omega⟩
  exact ordB_s h
def mayB (n : Int) : Bool := inB (-1000000000000000000) 1000000000000000000 n
/-- what is wrong with balance k -/
def balE (l : List Bal) (k : Nat) : Int := if ordB l k = false then 5 else match l[k]? with | none => 0 | some x => if mayB x.amt = false then 1 else if x.amt = 0 then 3 else 0
theorem balE_1 {l : List Bal} {k : Nat} (h : ordB l k = false) : balE l k = 5 := if_pos h
theorem balE_2 {l : List Bal} {k : Nat} (h : ordB l k = true) (hk : k < l.length) (h2 : mayB l[k].amt = false) : balE l k = 1 := by
  rw [balE, if_neg (by rw [h]; decide), List.getElem?_eq_getElem hk]; exact if_pos h2
theorem balE_3 {l : List Bal} {k : Nat} (h : ordB l k = true) (hk : k < l.length) (h2 : mayB l[k].amt = true) (h3 : l[k].amt = 0) : balE l k = 3 := by
  rw [balE, if_neg (by rw [h]; decide), List.getElem?_eq_getElem hk]
  show (if mayB l[k].amt = false then (1 : Int) else if l[k].amt = 0 then 3 else 0) = 3
  rw [if_neg (by rw [h2]; decide), if_pos h3]
theorem balE_4 {l : List Bal} {k : Nat} (h : ordB l k = true) (hk : k < l.length) (h2 : mayB l[k].amt = true) (h3 : l[k].amt ≠ 0) : balE l k = 0 := by
  rw [balE, if_neg (by rw [h]; decide), List.getElem?_eq_getElem hk]
  show (if mayB l[k].amt = false then (1 : Int) else if l[k].amt = 0 then 3 else 0) = 0
  rw [if_neg (by rw [h2]; decide), if_neg h3]
/-- what is wrong with balances -/
def balsE (l : List Bal) : Int := if 200 < l.length then 4 else firstE (balE l) l.length
theorem balE_range (l : List Bal) (k : Nat) : 0 ≤ balE l k ∧ balE l k ≤ 12 := by
  unfold balE
  split
  · omega
  · cases l[k]? with
    | none => exact ⟨Int.le_refl _, by show (0 : Int) ≤ 12; decide⟩
    | some x =>
      show 0 ≤ (if mayB x.amt = false then (1 : Int) else if x.amt = 0 then 3 else 0) ∧ (if mayB x.amt = false then (1 : Int) else if x.amt = 0 then 3 else 0) ≤ 12
      repeat' split
      all_goals omega
theorem balsE_range (l : List Bal) : 0 ≤ balsE l ∧ balsE l ≤ 12 := by
  unfold balsE
  split
  · omega
  · exact firstE_range (balE_range l) _
/-- balances that are right: at most 200, in order, none 0, none too far -/
theorem balsE_0 {l : List Bal} (h : balsE l = 0) : l.length ≤ 200 ∧ ∀ (k : Nat) (hk : k < l.length), ordB l k = true ∧ mayB l[k].amt = true ∧ l[k].amt ≠ 0 := by
  unfold balsE at h
  by_cases h2 : 200 < l.length
  · rw [if_pos h2] at h; cases h
  · rw [if_neg h2] at h
    refine ⟨by omega, fun k hk => ?_⟩
    have hb := firstE_0 h k hk
    cases ho : ordB l k with
    | false => rw [balE_1 ho] at hb; cases hb
    | true =>
      cases hm : mayB l[k].amt with
      | false => rw [balE_2 ho hk hm] at hb; cases hb
      | true => exact ⟨rfl, rfl, fun e => by rw [balE_3 ho hk hm e] at hb; cases hb⟩

/-- is a balance of this place? -/
def isAt (ent : Int) (acc cur : ByteArray) (x : Bal) : Bool := (x.ent == ent) && (x.acc.toList == acc.toList) && (x.cur.toList == cur.toList)
def getB (l : List Bal) (ent : Int) (acc cur : ByteArray) : Int := match l.find? (isAt ent acc cur) with | some x => x.amt | none => 0
theorem getB_may {l : List Bal} (h : balsE l = 0) (ent : Int) (acc cur : ByteArray) : mayB (getB l ent acc cur) = true := by
  unfold getB
  cases hf : l.find? (isAt ent acc cur) with
  | none => rfl
  | some x =>
    obtain ⟨k, hk, rfl⟩ := List.getElem_of_mem (List.mem_of_find?_eq_some hf)
    exact ((balsE_0 h).2 k hk).2.1
theorem may_le {n : Int} (h : mayB n = true) : -1000000000000000000 ≤ n ∧ n ≤ 1000000000000000000 := by
  simp only [mayB, inB, Bool.and_eq_true, decide_eq_true_eq] at h; exact h

/-- the three accounts of a pair -/
def legE (c : List Acc) (p : Pr) : Int := if leafE c p.one ≠ 0 then leafE c p.one else if leafE c p.other ≠ 0 then leafE c p.other else leafE c p.diff
def ownB (p : Pr) : Bool := (p.diff.toList == p.one.toList) || (p.diff.toList == p.other.toList)
def sideL (p : Pr) : List (Int × ByteArray) := [(p.a, p.one), (p.b, p.other)]
def sideTo (l : List Pr) (k : Nat) : List (Int × ByteArray) := (l.take k).flatMap sideL
def sideB (e : Int) (a : ByteArray) (s : Int × ByteArray) : Bool := (e == s.1) && (a.toList == s.2.toList)
def hitB (p q : Pr) : Bool := ((q.a == p.a) && (q.one.toList == p.one.toList)) || ((q.b == p.a) && (q.other.toList == p.one.toList)) || ((q.a == p.b) && (q.one.toList == p.other.toList)) || ((q.b == p.b) && (q.other.toList == p.other.toList))
theorem sideTo_succ {l : List Pr} {k : Nat} (hk : k < l.length) : sideTo l (k + 1) = sideTo l k ++ sideL l[k] := by
  unfold sideTo
  rw [List.take_succ_eq_append_getElem hk, List.flatMap_append]
  simp
theorem sideTo_len (l : List Pr) (k : Nat) (hk : k ≤ l.length) : (sideTo l k).length = 2 * k := by
  induction k with
  | zero => rfl
  | succ k ih => rw [sideTo_succ (by omega), List.length_append, ih (by omega)]; simp [sideL]; omega
theorem seen_hit (p : Pr) (l : List Pr) : (((l.flatMap sideL).any (sideB p.a p.one)) || ((l.flatMap sideL).any (sideB p.b p.other))) = l.any (hitB p) := by
  induction l with
  | nil => rfl
  | cons q l ih =>
    rw [List.flatMap_cons, List.any_append, List.any_append, List.any_cons, ← ih]
    simp only [sideL, List.any_cons, List.any_nil, Bool.or_false, sideB, hitB]
    rw [BEq.comm (a := p.a) (b := q.a), BEq.comm (a := p.a) (b := q.b), BEq.comm (a := p.b) (b := q.a), BEq.comm (a := p.b) (b := q.b), BEq.comm (a := p.one.toList) (b := q.one.toList), BEq.comm (a := p.one.toList) (b := q.other.toList), BEq.comm (a := p.other.toList) (b := q.one.toList), BEq.comm (a := p.other.toList) (b := q.other.toList)]
    generalize (q.a == p.a) = a1
    generalize (q.b == p.a) = a2
    generalize (q.a == p.b) = a3
    generalize (q.b == p.b) = a4
    generalize (q.one.toList == p.one.toList) = b1
    generalize (q.other.toList == p.one.toList) = b2
    generalize (q.one.toList == p.other.toList) = b3
    generalize (q.other.toList == p.other.toList) = b4
    generalize (l.flatMap sideL).any (sideB p.a p.one) = c1
    generalize (l.flatMap sideL).any (sideB p.b p.other) = c2
    cases c1 <;> cases c2 <;> cases a1 <;> cases a2 <;> cases a3 <;> cases a4 <;> simp
    all_goals (cases b1 <;> cases b2 <;> cases b3 <;> cases b4 <;> rfl)
/-- what is wrong with pair k -/
def pairE (c : List Acc) (l : List Pr) (k : Nat) : Int := match l[k]? with
  | none => 0
  | some p => if inB 1 12 p.a = false then 1 else if inB 1 12 p.b = false then 1 else if p.a = p.b then 8 else if legE c p ≠ 0 then legE c p else if ownB p = true then 8 else if (l.take k).any (hitB p) = true then 8 else 0
theorem pairE_at {c : List Acc} {l : List Pr} {k : Nat} (hk : k < l.length) : pairE c l k = if inB 1 12 l[k].a = false then 1 else if inB 1 12 l[k].b = false then 1 else if l[k].a = l[k].b then 8 else if legE c l[k] ≠ 0 then legE c l[k] else if ownB l[k] = true then 8 else if (l.take k).any (hitB l[k]) = true then 8 else 0 := by
  unfold pairE
  rw [List.getElem?_eq_getElem hk]
def pairsE (c : List Acc) (l : List Pr) : Int := if chartE c ≠ 0 then chartE c else if 20 < l.length then 4 else firstE (pairE c l) l.length
theorem legE_range (c : List Acc) (p : Pr) : 0 ≤ legE c p ∧ legE c p ≤ 12 := by
  have h1 := leafE_range c p.one
  have h2 := leafE_range c p.other
  have h3 := leafE_range c p.diff
  unfold legE
  repeat' split
  all_goals assumption
theorem pairE_range (c : List Acc) (l : List Pr) (k : Nat) : 0 ≤ pairE c l k ∧ pairE c l k ≤ 12 := by
  unfold pairE
  cases l[k]? with
  | none => exact ⟨Int.le_refl _, by show (0 : Int) ≤ 12; decide⟩
  | some p =>
    have h := legE_range c p
    dsimp only
    repeat' split
    all_goals first | assumption | omega
theorem pairsE_range (c : List Acc) (l : List Pr) : 0 ≤ pairsE c l ∧ pairsE c l ≤ 12 := by
  have h := chartE_range c
  have h2 := firstE_range (pairE_range c l) l.length
  unfold pairsE
  repeat' split
  all_goals first | assumption | omega

/-- what is left of pairs -/
def leftE (l : List Pr) (b : List Bal) (cur : ByteArray) : Int := if 20 < l.length then 4 else if balsE b ≠ 0 then balsE b else if curB cur = false then 2 else 0
def leftAt (b : List Bal) (cur : ByteArray) (p : Pr) : Int := getB b p.a p.one cur + getB b p.b p.other cur
theorem leftE_range (l : List Pr) (b : List Bal) (cur : ByteArray) : 0 ≤ leftE l b cur ∧ leftE l b cur ≤ 12 := by
  have h := balsE_range b
  unfold leftE
  repeat' split
  all_goals first | assumption | omega
theorem leftE_0 {l : List Pr} {b : List Bal} {cur : ByteArray} (h : leftE l b cur = 0) : l.length ≤ 20 ∧ balsE b = 0 ∧ curB cur = true := by
  unfold leftE at h
  by_cases h1 : 20 < l.length
  · rw [if_pos h1] at h; cases h
  · rw [if_neg h1] at h
    by_cases h2 : balsE b = 0
    · rw [if_neg (by simpa using h2)] at h
      cases h3 : curB cur with
      | false => rw [if_pos h3] at h; cases h
      | true => exact ⟨by omega, h2, rfl⟩
    · rw [if_pos h2] at h; exact absurd h h2
theorem pairsE_0 {c : List Acc} {l : List Pr} (h : pairsE c l = 0) : chartE c = 0 ∧ l.length ≤ 20 ∧ ∀ k, k < l.length → pairE c l k = 0 := by
  unfold pairsE at h
  by_cases h1 : chartE c = 0
  · rw [if_neg (by simpa using h1)] at h
    by_cases h2 : 20 < l.length
    · rw [if_pos h2] at h; cases h
    · rw [if_neg h2] at h
      exact ⟨h1, by omega, fun k hk => firstE_0 h k hk⟩
  · rw [if_pos h1] at h; exact absurd h h1
end Go.Proofs.YtjojjicpdfmopaaGreatDoor
