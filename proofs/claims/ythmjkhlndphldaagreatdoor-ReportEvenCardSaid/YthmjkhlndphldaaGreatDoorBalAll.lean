/- Balances and pairs: how they lie; plain facts. -/
import Derived.Test.YthmjkhlndphldaaGreatDoorEnAll
namespace Go.Proofs.YthmjkhlndphldaaGreatDoor
open Go Go.RowKit
set_option linter.unusedVariables false

/-- the first fault of n -/
def firstE (f : Nat → Int) : Nat → Int
  | 0 => 0
  | n + 1 => if firstE f n ≠ 0 then firstE f n else f n
theorem firstE_succ {f : Nat → Int} {n : Nat} (h : firstE f n = 0) : firstE f (n + 1) = f n := by rw [firstE, if_neg (by simpa using h)]
theorem firstE_hit {f : Nat → Int} {k n : Nat} (h : firstE f k = 0) (hk : k < n) (hf : f k ≠ 0) : firstE f n = f k := by
  induction n with
  | zero => omega
  | succ n ih =>
    by_cases e : k = n
    · subst e; exact firstE_succ h
    · have := ih (by omega)
      rw [firstE, if_pos (by rw [this]; exact hf), this]
theorem firstE_range {f : Nat → Int} (h : ∀ k, 0 ≤ f k ∧ f k ≤ 12) (n : Nat) : 0 ≤ firstE f n ∧ firstE f n ≤ 12 := by
  induction n with
  | zero => exact ⟨Int.le_refl _, by show (0 : Int) ≤ 12; decide⟩
  | succ n ih =>
    rw [firstE]
    split
    · exact ih
    · exact h n
theorem firstE_0 {f : Nat → Int} {n : Nat} (h : firstE f n = 0) : ∀ k, k < n → f k = 0 := by
  intro k hk
  by_cases e : f k = 0
  · exact e
  · have h0 : firstE f k = 0 := by
      clear e
      induction n with
      | zero => omega
      | succ n ih =>
        have hn : firstE f n = 0 := by
          by_cases e : firstE f n = 0
          · exact e
          · rw [firstE, if_pos e] at h; exact absurd h e
        by_cases e : k = n
        · subst e; exact hn
        · exact ih hn (by omega)
    rw [firstE_hit h0 hk e] at h
    exact h

/-- the first of a list that a question says yes to -/
def NoTo {α : Type} (p : α → Bool) (l : List α) (k : Nat) : Prop := ∀ (j : Nat) (h : j < l.length), j < k → p l[j] = false
section
variable {α : Type} {p : α → Bool} {l : List α} {k : Nat}
theorem NoTo.zero (p : α → Bool) (l : List α) : NoTo p l 0 := fun _ _ h => absurd h (by omega)
theorem NoTo.succ (h : NoTo p l k) (hk : k < l.length) (hp : p l[k] = false) : NoTo p l (k + 1) := by
  intro j hj hjk
  by_cases e : j = k
  · subst e; exact hp
  · exact h j hj (by omega)
theorem NoTo.hit (h : NoTo p l k) (hk : k < l.length) (hp : p l[k] = true) : l.find? p = some l[k] := by
  rw [List.find?_eq_some_iff_getElem]
  exact ⟨hp, k, hk, rfl, fun j hj => by simpa using h j (by omega) hj⟩
theorem NoTo.all (h : NoTo p l k) (hk : l.length ≤ k) : l.find? p = none := by
  rw [List.find?_eq_none]
  intro x hx
  obtain ⟨j, hj, rfl⟩ := List.getElem_of_mem hx
  simpa using h j hj (by omega)
theorem NoTo.any (h : NoTo p l k) (hk : l.length ≤ k) : l.any p = false := by
  rw [List.any_eq_false]
  intro x hx
  obtain ⟨j, hj, rfl⟩ := List.getElem_of_mem hx
  simpa using h j hj (by omega)
theorem any_at (hk : k < l.length) (hp : p l[k] = true) : l.any p = true := by
  rw [List.any_eq_true]
  exact ⟨l[k], List.getElem_mem _, hp⟩
end

structure Bal where
  ent : Int
  acc : ByteArray
  cur : ByteArray
  amt : Int
def balEnc (x : Bal) : List Value := [.int .i64 x.ent, .string x.acc, .string x.cur, .int .i64 x.amt]
def BalFits (x : Bal) : Prop := (-9223372036854775808 ≤ x.ent ∧ x.ent ≤ 9223372036854775807) ∧ x.acc.size ≤ 9223372036854775807 ∧ x.cur.size ≤ 9223372036854775807 ∧ -9223372036854775808 ≤ x.amt ∧ x.amt ≤ 9223372036854775807
def BalsOk (l : List Bal) : Prop := ∀ x, x ∈ l → BalFits x
theorem balEnc_ok : Enc 4 balEnc := ⟨fun _ => rfl, fun _ u hu => by simp [balEnc] at hu; rcases hu with rfl | rfl | rfl | rfl <;> rfl⟩
structure Pr where
  a : Int
  b : Int
  one : ByteArray
  other : ByteArray
  diff : ByteArray
def prEnc (x : Pr) : List Value := [.int .i64 x.a, .int .i64 x.b, .string x.one, .string x.other, .string x.diff]
def PrFits (x : Pr) : Prop := (-9223372036854775808 ≤ x.a ∧ x.a ≤ 9223372036854775807) ∧ (-9223372036854775808 ≤ x.b ∧ x.b ≤ 9223372036854775807) ∧ x.one.size ≤ 9223372036854775807 ∧ x.other.size ≤ 9223372036854775807 ∧ x.diff.size ≤ 9223372036854775807
def PrsOk (l : List Pr) : Prop := ∀ x, x ∈ l → PrFits x
theorem prEnc_ok : Enc 5 prEnc := ⟨fun _ => rfl, fun _ u hu => by simp [prEnc] at hu; rcases hu with rfl | rfl | rfl | rfl | rfl <;> rfl⟩

/-- ahead of it: by entity, account, currency -/
def aheadB (x y : Bal) : Bool := if x.ent = y.ent then (if x.acc = y.acc then lessB x.cur y.cur else lessB x.acc y.acc) else decide (x.ent < y.ent)
def cmpI (a b : Int) : Int := if a < b then -1 else if b < a then 1 else 0
theorem cmpI_m {a b : Int} (h : a < b) : cmpI a b = -1 := if_pos h
theorem cmpI_p {a b : Int} (h : b < a) : cmpI a b = 1 := by rw [cmpI, if_neg (by omega), if_pos h]
theorem cmpI_z (a : Int) : cmpI a a = 0 := by rw [cmpI, if_neg (by omega), if_neg (by omega)]
theorem cmpI_0 {a b : Int} : cmpI a b = 0 ↔ a = b := by
  unfold cmpI
  split
  · constructor
    · intro h; cases h
    · intro h; omega
  · split
    · constructor
      · intro h; cases h
      · intro h; omega
    · constructor
      · intro _; omega
      · intro _; rfl
def cmpBal (x y : Bal) : Int := orV (orV (cmpI x.ent y.ent) (cmpB x.acc y.acc)) (cmpB x.cur y.cur)
theorem cmpBal_lt (x y : Bal) : decide (cmpBal x y < 0) = aheadB x y := by
  unfold cmpBal orV aheadB
  by_cases h : x.ent = y.ent
  · rw [if_pos h, if_pos (cmpI_0.2 h)]
    by_cases h2 : x.acc = y.acc
    · rw [if_pos (cmpB_0.2 h2), if_pos h2, cmpB_lt]
    · rw [if_neg (fun e => h2 (cmpB_0.1 e)), if_neg h2, cmpB_lt]
  · have h1 : ¬ cmpI x.ent y.ent = 0 := fun e => h (cmpI_0.1 e)
    rw [if_neg h, if_neg h1, if_neg h1]
    unfold cmpI
    by_cases h3 : x.ent < y.ent
    · rw [if_pos h3]; simp [h3]
    · rw [if_neg h3, if_pos (by omega)]; simp [h3]
theorem cmpBal_ge (x y : Bal) : decide (0 ≤ cmpBal x y) = !aheadB x y := by
  rw [← cmpBal_lt]
  by_cases h : cmpBal x y < 0
  · simp [h]
  · simp [h]; omega

/-- does balance k stand behind the one ahead of it? -/
def ordB (l : List Bal) (k : Nat) : Bool := if k = 0 then true else match l[k - 1]?, l[k]? with | some x, some y => aheadB x y | _, _ => true
theorem ordB_0 (l : List Bal) : ordB l 0 = true := rfl
theorem ordB_s {l : List Bal} {k : Nat} (h : k + 1 < l.length) : ordB l (k + 1) = aheadB l[k] l[k + 1] := by
  unfold ordB
  rw [if_neg (by omega), Nat.add_sub_cancel, List.getElem?_eq_getElem (by omega), List.getElem?_eq_getElem h]
theorem ordB_at {l : List Bal} {k : Nat} (h0 : k ≠ 0) (h : k < l.length) : ordB l k = aheadB l[k - 1] l[k] := by
  obtain ⟨j, rfl⟩ : ∃ j, k = j + 1 := ⟨k - 1, by omega⟩
  exact ordB_s h
def mayB (n : Int) : Bool := inB (-1000000000000000000) 1000000000000000000 n
/-- what is wrong with balance k -/
def balE (l : List Bal) (k : Nat) : Int := if ordB l k = false then 5 else match l[k]? with | none => 0 | some x => if mayB x.amt = false then 1 else if x.amt = 0 then 3 else 0
theorem balE_1 {l : List Bal} {k : Nat} (h : ordB l k = false) : balE l k = 5 := if_pos h
theorem balE_2 {l : List Bal} {k : Nat} (h : ordB l k = true) (hk : k < l.length) (h2 : mayB l[k].amt = false) : balE l k = 1 := by
  rw [balE, if_neg (by rw [h]; decide), List.getElem?_eq_getElem hk]; exact if_pos h2
theorem balE_3 {l : List Bal} {k : Nat} (h : ordB l k = true) (hk : k < l.length) (h2 : mayB l[k].amt = true) (h3 : l[k].amt = 0) : balE l k = 3 := by
  rw [balE, if_neg (by rw [h]; decide), List.getElem?_eq_getElem hk]
  show (if mayB l[k].amt = false then (1 : Int) else if l[k].amt = 0 then 3 else 0) = 3
  rw [if_neg (by rw [h2]; decide), if_pos h3]
theorem balE_4 {l : List Bal} {k : Nat} (h : ordB l k = true) (hk : k < l.length) (h2 : mayB l[k].amt = true) (h3 : l[k].amt ≠ 0) : balE l k = 0 := by
  rw [balE, if_neg (by rw [h]; decide), List.getElem?_eq_getElem hk]
  show (if mayB l[k].amt = false then (1 : Int) else if l[k].amt = 0 then 3 else 0) = 0
  rw [if_neg (by rw [h2]; decide), if_neg h3]
/-- what is wrong with balances -/
def balsE (l : List Bal) : Int := if 200 < l.length then 4 else firstE (balE l) l.length
theorem balE_range (l : List Bal) (k : Nat) : 0 ≤ balE l k ∧ balE l k ≤ 12 := by
  unfold balE
  split
  · omega
  · cases l[k]? with
    | none => exact ⟨Int.le_refl _, by show (0 : Int) ≤ 12; decide⟩
    | some x =>
      show 0 ≤ (if mayB x.amt = false then (1 : Int) else if x.amt = 0 then 3 else 0) ∧ (if mayB x.amt = false then (1 : Int) else if x.amt = 0 then 3 else 0) ≤ 12
      repeat' split
      all_goals omega
theorem balsE_range (l : List Bal) : 0 ≤ balsE l ∧ balsE l ≤ 12 := by
  unfold balsE
  split
  · omega
  · exact firstE_range (balE_range l) _
/-- balances that are right: at most 200, in order, none 0, none too far -/
theorem balsE_0 {l : List Bal} (h : balsE l = 0) : l.length ≤ 200 ∧ ∀ (k : Nat) (hk : k < l.length), ordB l k = true ∧ mayB l[k].amt = true ∧ l[k].amt ≠ 0 := by
  unfold balsE at h
  by_cases h2 : 200 < l.length
  · rw [if_pos h2] at h; cases h
  · rw [if_neg h2] at h
    refine ⟨by omega, fun k hk => ?_⟩
    have hb := firstE_0 h k hk
    cases ho : ordB l k with
    | false => rw [balE_1 ho] at hb; cases hb
    | true =>
      cases hm : mayB l[k].amt with
      | false => rw [balE_2 ho hk hm] at hb; cases hb
      | true => exact ⟨rfl, rfl, fun e => by rw [balE_3 ho hk hm e] at hb; cases hb⟩

/-- is a balance of this place? -/
def isAt (ent : Int) (acc cur : ByteArray) (x : Bal) : Bool := (x.ent == ent) && (x.acc.toList == acc.toList) && (x.cur.toList == cur.toList)
def getB (l : List Bal) (ent : Int) (acc cur : ByteArray) : Int := match l.find? (isAt ent acc cur) with | some x => x.amt | none => 0
theorem getB_may {l : List Bal} (h : balsE l = 0) (ent : Int) (acc cur : ByteArray) : mayB (getB l ent acc cur) = true := by
  unfold getB
  cases hf : l.find? (isAt ent acc cur) with
  | none => rfl
  | some x =>
    obtain ⟨k, hk, rfl⟩ := List.getElem_of_mem (List.mem_of_find?_eq_some hf)
    exact ((balsE_0 h).2 k hk).2.1
theorem may_le {n : Int} (h : mayB n = true) : -1000000000000000000 ≤ n ∧ n ≤ 1000000000000000000 := by
  simp only [mayB, inB, Bool.and_eq_true, decide_eq_true_eq] at h; exact h

/-- the three accounts of a pair -/
def legE (c : List Acc) (p : Pr) : Int := if leafE c p.one ≠ 0 then leafE c p.one else if leafE c p.other ≠ 0 then leafE c p.other else leafE c p.diff
def ownB (p : Pr) : Bool := (p.diff.toList == p.one.toList) || (p.diff.toList == p.other.toList)
def sideL (p : Pr) : List (Int × ByteArray) := [(p.a, p.one), (p.b, p.other)]
def sideTo (l : List Pr) (k : Nat) : List (Int × ByteArray) := (l.take k).flatMap sideL
def sideB (e : Int) (a : ByteArray) (s : Int × ByteArray) : Bool := (e == s.1) && (a.toList == s.2.toList)
def hitB (p q : Pr) : Bool := ((q.a == p.a) && (q.one.toList == p.one.toList)) || ((q.b == p.a) && (q.other.toList == p.one.toList)) || ((q.a == p.b) && (q.one.toList == p.other.toList)) || ((q.b == p.b) && (q.other.toList == p.other.toList))
theorem sideTo_succ {l : List Pr} {k : Nat} (hk : k < l.length) : sideTo l (k + 1) = sideTo l k ++ sideL l[k] := by
  unfold sideTo
  rw [List.take_succ_eq_append_getElem hk, List.flatMap_append]
  simp
theorem sideTo_len (l : List Pr) (k : Nat) (hk : k ≤ l.length) : (sideTo l k).length = 2 * k := by
  induction k with
  | zero => rfl
  | succ k ih => rw [sideTo_succ (by omega), List.length_append, ih (by omega)]; simp [sideL]; omega
theorem seen_hit (p : Pr) (l : List Pr) : (((l.flatMap sideL).any (sideB p.a p.one)) || ((l.flatMap sideL).any (sideB p.b p.other))) = l.any (hitB p) := by
  induction l with
  | nil => rfl
  | cons q l ih =>
    rw [List.flatMap_cons, List.any_append, List.any_append, List.any_cons, ← ih]
    simp only [sideL, List.any_cons, List.any_nil, Bool.or_false, sideB, hitB]
    rw [BEq.comm (a := p.a) (b := q.a), BEq.comm (a := p.a) (b := q.b), BEq.comm (a := p.b) (b := q.a), BEq.comm (a := p.b) (b := q.b), BEq.comm (a := p.one.toList) (b := q.one.toList), BEq.comm (a := p.one.toList) (b := q.other.toList), BEq.comm (a := p.other.toList) (b := q.one.toList), BEq.comm (a := p.other.toList) (b := q.other.toList)]
    generalize (q.a == p.a) = a1
    generalize (q.b == p.a) = a2
    generalize (q.a == p.b) = a3
    generalize (q.b == p.b) = a4
    generalize (q.one.toList == p.one.toList) = b1
    generalize (q.other.toList == p.one.toList) = b2
    generalize (q.one.toList == p.other.toList) = b3
    generalize (q.other.toList == p.other.toList) = b4
    generalize (l.flatMap sideL).any (sideB p.a p.one) = c1
    generalize (l.flatMap sideL).any (sideB p.b p.other) = c2
    cases c1 <;> cases c2 <;> cases a1 <;> cases a2 <;> cases a3 <;> cases a4 <;> simp
    all_goals (cases b1 <;> cases b2 <;> cases b3 <;> cases b4 <;> rfl)
/-- what is wrong with pair k -/
def pairE (c : List Acc) (l : List Pr) (k : Nat) : Int := match l[k]? with
  | none => 0
  | some p => if inB 1 12 p.a = false then 1 else if inB 1 12 p.b = false then 1 else if p.a = p.b then 8 else if legE c p ≠ 0 then legE c p else if ownB p = true then 8 else if (l.take k).any (hitB p) = true then 8 else 0
theorem pairE_at {c : List Acc} {l : List Pr} {k : Nat} (hk : k < l.length) : pairE c l k = if inB 1 12 l[k].a = false then 1 else if inB 1 12 l[k].b = false then 1 else if l[k].a = l[k].b then 8 else if legE c l[k] ≠ 0 then legE c l[k] else if ownB l[k] = true then 8 else if (l.take k).any (hitB l[k]) = true then 8 else 0 := by
  unfold pairE
  rw [List.getElem?_eq_getElem hk]
def pairsE (c : List Acc) (l : List Pr) : Int := if chartE c ≠ 0 then chartE c else if 20 < l.length then 4 else firstE (pairE c l) l.length
theorem legE_range (c : List Acc) (p : Pr) : 0 ≤ legE c p ∧ legE c p ≤ 12 := by
  have h1 := leafE_range c p.one
  have h2 := leafE_range c p.other
  have h3 := leafE_range c p.diff
  unfold legE
  repeat' split
  all_goals assumption
theorem pairE_range (c : List Acc) (l : List Pr) (k : Nat) : 0 ≤ pairE c l k ∧ pairE c l k ≤ 12 := by
  unfold pairE
  cases l[k]? with
  | none => exact ⟨Int.le_refl _, by show (0 : Int) ≤ 12; decide⟩
  | some p =>
    have h := legE_range c p
    dsimp only
    repeat' split
    all_goals first | assumption | omega
theorem pairsE_range (c : List Acc) (l : List Pr) : 0 ≤ pairsE c l ∧ pairsE c l ≤ 12 := by
  have h := chartE_range c
  have h2 := firstE_range (pairE_range c l) l.length
  unfold pairsE
  repeat' split
  all_goals first | assumption | omega

/-- what is left of pairs -/
def leftE (l : List Pr) (b : List Bal) (cur : ByteArray) : Int := if 20 < l.length then 4 else if balsE b ≠ 0 then balsE b else if curB cur = false then 2 else 0
def leftAt (b : List Bal) (cur : ByteArray) (p : Pr) : Int := getB b p.a p.one cur + getB b p.b p.other cur
theorem leftE_range (l : List Pr) (b : List Bal) (cur : ByteArray) : 0 ≤ leftE l b cur ∧ leftE l b cur ≤ 12 := by
  have h := balsE_range b
  unfold leftE
  repeat' split
  all_goals first | assumption | omega
theorem leftE_0 {l : List Pr} {b : List Bal} {cur : ByteArray} (h : leftE l b cur = 0) : l.length ≤ 20 ∧ balsE b = 0 ∧ curB cur = true := by
  unfold leftE at h
  by_cases h1 : 20 < l.length
  · rw [if_pos h1] at h; cases h
  · rw [if_neg h1] at h
    by_cases h2 : balsE b = 0
    · rw [if_neg (by simpa using h2)] at h
      cases h3 : curB cur with
      | false => rw [if_pos h3] at h; cases h
      | true => exact ⟨by omega, h2, rfl⟩
    · rw [if_pos h2] at h; exact absurd h h2
theorem pairsE_0 {c : List Acc} {l : List Pr} (h : pairsE c l = 0) : chartE c = 0 ∧ l.length ≤ 20 ∧ ∀ k, k < l.length → pairE c l k = 0 := by
  unfold pairsE at h
  by_cases h1 : chartE c = 0
  · rw [if_neg (by simpa using h1)] at h
    by_cases h2 : 20 < l.length
    · rw [if_pos h2] at h; cases h
    · rw [if_neg h2] at h
      exact ⟨h1, by omega, fun k hk => firstE_0 h k hk⟩
  · rw [if_pos h1] at h; exact absurd h h1
end Go.Proofs.YthmjkhlndphldaaGreatDoor

namespace Go.Proofs.YthmjkhlndphldaaGreatDoor
open Go Go.RowKit
set_option linter.unusedVariables false

theorem isNaN_int (a : Int) (w : World) : Calls Tryz.prog 183 #[.int .i64 a] w fun e w' => e = .returned (.bool false) ∧ w' = w := by
  go_enter Tryz.func183, Tryz.ntmps183
  go_wp2_with fail
  go_ret
  exact ⟨by simp, rfl⟩
theorem compare_int (a b : Int) (w : World) : Calls Tryz.prog 145 #[.int .i64 a, .int .i64 b] w fun e w' => e = .returned (.int .i64 (cmpI a b)) ∧ w' = w := by
  rcases Int.lt_trichotomy a b with h | h | h
  · have H := hide (cmpI_m h)
    go_enter Tryz.func145, Tryz.ntmps145
    go_wp2_with (go_at_call 183; refine (isNaN_int _ _).mono ?_; rintro e w1 ⟨rfl, rfl⟩)
    go_ret
    exact ⟨by rw [H.out]; rfl, rfl⟩
  · subst h
    have H := hide (cmpI_z a)
    have h1 : ¬ a < a := by omega
    go_enter Tryz.func145, Tryz.ntmps145
    go_wp2_with (go_at_call 183; refine (isNaN_int _ _).mono ?_; rintro e w1 ⟨rfl, rfl⟩)
    go_ret
    exact ⟨by rw [H.out]; rfl, rfl⟩
  · have H := hide (cmpI_p h)
    have h1 : ¬ a < b := by omega
    go_enter Tryz.func145, Tryz.ntmps145
    go_wp2_with (go_at_call 183; refine (isNaN_int _ _).mono ?_; rintro e w1 ⟨rfl, rfl⟩)
    go_ret
    exact ⟨by rw [H.out]; rfl, rfl⟩

/-- cmp.Or of three numbers -/
theorem or_three (x y z : Int) (g cap : Nat) (w : World) (h0 : w.cell? ⟨g, 0, none⟩ = some (.int .i64 x)) (h1 : w.cell? ⟨g, 1, none⟩ = some (.int .i64 y)) (h2 : w.cell? ⟨g, 2, none⟩ = some (.int .i64 z)) :
    Calls Tryz.prog 144 #[.slice (some ⟨g, 0, none⟩) 3 cap] w fun e w' => e = .returned (.int .i64 (orV (orV x y) z)) ∧ w' = w := by
  have hq : ∀ (j : Nat) (v : Int), j < 3 → (j = 0 → v = x) → (j = 1 → v = y) → (j = 2 → v = z) → w.cell? ⟨g, j, none⟩ = some (.int .i64 v) := by
    intro j v hj e0 e1 e2
    have : j = 0 ∨ j = 1 ∨ j = 2 := by omega
    rcases this with rfl | rfl | rfl
    · rw [e0 rfl]; exact h0
    · rw [e1 rfl]; exact h1
    · rw [e2 rfl]; exact h2
  clear h0 h1 h2
  have Hq := hide hq
  clear hq
  go_enter Tryz.func144, Tryz.ntmps144
  go_wp2_with fail
  go_loop [8] (fun i => ∃ k : Nat, k ≤ 3 ∧ i = .int .i64 k ∧ Hid (1 ≤ k → x = 0) ∧ Hid (2 ≤ k → y = 0) ∧ Hid (3 ≤ k → z = 0)) (fun i => 3 - (intOf i).toNat)
  case atStart => exact ⟨0, by omega, rfl, fun h => absurd h (by omega), fun h => absurd h (by omega), fun h => absurd h (by omega)⟩
  case round =>
    obtain ⟨k, hk, rfl, hx, hy, hz⟩ := hrel
    by_cases hlt : k < 3
    · obtain ⟨v, hv⟩ : ∃ v, v = (if k = 0 then x else if k = 1 then y else z) := ⟨_, rfl⟩
      have hc := Hq.out k v hlt (fun e => by rw [hv, if_pos e]) (fun e => by rw [hv, if_neg (by omega), if_pos e]) (fun e => by rw [hv, if_neg (by omega), if_neg (by omega)])
      have HV := hide hv
      have k0 : (0 : Int) ≤ (k : Int) := by omega
      have k1 : (k : Int) < 3 := by omega
      clear hv
      cases hzz : v == 0 with
      | true =>
        have hz2 : (v != 0) = false := by rw [bne, hzz]; rfl
        have HX : Hid (v = 0) := by show v = 0; simpa using hzz
        go_wp2_with fail
        go_round
        case rel =>
          refine ⟨k + 1, by omega, by go_num, fun h => ?_, fun h => ?_, fun h => ?_⟩
          · by_cases e : k = 0
            · have := HV.out; rw [if_pos e] at this; rw [← this]; exact HX.out
            · exact hx.out (by omega)
          · by_cases e : k = 1
            · have := HV.out; rw [if_neg (by omega), if_pos e] at this; rw [← this]; exact HX.out
            · exact hy.out (by omega)
          · have := HV.out; rw [if_neg (by omega), if_neg (by omega)] at this; rw [← this]; exact HX.out
        case measure => simp [intOf]; omega
      | false =>
        have hz2 : (v != 0) = true := by rw [bne, hzz]; rfl
        have HX : Hid (¬ v = 0) := by show ¬ v = 0; simpa using hzz
        go_wp2_with fail
        go_ret
        refine ⟨ret_int ?_, rfl⟩
        have hv := HV.out
        have hn := HX.out
        by_cases e0 : k = 0
        · rw [if_pos e0] at hv; subst hv
          rw [show orV v y = v from if_neg hn, orV, if_neg hn]
        · have hx0 := hx.out (by omega)
          rw [if_neg e0] at hv
          by_cases e1 : k = 1
          · rw [if_pos e1] at hv; subst hv
            rw [show orV x v = v from if_pos hx0, orV, if_neg hn]
          · have hy0 := hy.out (by omega)
            rw [if_neg e1] at hv; subst hv
            rw [show orV x y = y from if_pos hx0, orV, if_pos hy0]
    · have HX := hide (hx.out (by omega))
      have HY := hide (hy.out (by omega))
      have HZ := hide (hz.out (by omega))
      clear hx hy hz
      go_wp2_with fail
      go_ret
      refine ⟨ret_int ?_, rfl⟩
      rw [show orV x y = y from if_pos HX.out, orV, if_pos HY.out, HZ.out]

set_option maxRecDepth 100000 in
theorem compare_bal (x y : Bal) (W : World) :
    Calls Tryz.prog 103 #[.agg #[.int .i64 x.ent, .string x.acc, .string x.cur, .int .i64 x.amt], .agg #[.int .i64 y.ent, .string y.acc, .string y.cur, .int .i64 y.amt]] W
      fun e w' => e = .returned (.int .i64 (cmpBal x y)) ∧ ∃ q os', w' = Go.Sort.grow (W.drewN q) os' := by
  go_enter Tryz.func103, Tryz.ntmps103
  go_wp2_with fail
  have c0 : ((W.alloc (.cells #[.int .i64 x.ent, .string x.acc, .string x.cur, .int .i64 x.amt] 73)).alloc (.cells #[.int .i64 y.ent, .string y.acc, .string y.cur, .int .i64 y.amt] 73)).cell? ⟨W.heap.size, 0, none⟩ = some (.int .i64 x.ent) := by simp
  have c1 : ((W.alloc (.cells #[.int .i64 x.ent, .string x.acc, .string x.cur, .int .i64 x.amt] 73)).alloc (.cells #[.int .i64 y.ent, .string y.acc, .string y.cur, .int .i64 y.amt] 73)).cell? ⟨W.heap.size, 1, none⟩ = some (.string x.acc) := by simp
  have c2 : ((W.alloc (.cells #[.int .i64 x.ent, .string x.acc, .string x.cur, .int .i64 x.amt] 73)).alloc (.cells #[.int .i64 y.ent, .string y.acc, .string y.cur, .int .i64 y.amt] 73)).cell? ⟨W.heap.size, 2, none⟩ = some (.string x.cur) := by simp
  have d0 : ((W.alloc (.cells #[.int .i64 x.ent, .string x.acc, .string x.cur, .int .i64 x.amt] 73)).alloc (.cells #[.int .i64 y.ent, .string y.acc, .string y.cur, .int .i64 y.amt] 73)).cell? ⟨W.heap.size + 1, 0, none⟩ = some (.int .i64 y.ent) := by simp
  have d1 : ((W.alloc (.cells #[.int .i64 x.ent, .string x.acc, .string x.cur, .int .i64 x.amt] 73)).alloc (.cells #[.int .i64 y.ent, .string y.acc, .string y.cur, .int .i64 y.amt] 73)).cell? ⟨W.heap.size + 1, 1, none⟩ = some (.string y.acc) := by simp
  have d2 : ((W.alloc (.cells #[.int .i64 x.ent, .string x.acc, .string x.cur, .int .i64 x.amt] 73)).alloc (.cells #[.int .i64 y.ent, .string y.acc, .string y.cur, .int .i64 y.amt] 73)).cell? ⟨W.heap.size + 1, 2, none⟩ = some (.string y.cur) := by simp
  have HG : Hid (∃ os', ((W.alloc (.cells #[.int .i64 x.ent, .string x.acc, .string x.cur, .int .i64 x.amt] 73)).alloc (.cells #[.int .i64 y.ent, .string y.acc, .string y.cur, .int .i64 y.amt] 73)) = Go.Sort.grow W os') := ⟨_, by rw [Go.Sort.alloc_eq_grow, Go.Sort.alloc_eq_grow, Go.Sort.grow_grow]⟩
  generalize ((W.alloc (.cells #[.int .i64 x.ent, .string x.acc, .string x.cur, .int .i64 x.amt] 73)).alloc (.cells #[.int .i64 y.ent, .string y.acc, .string y.cur, .int .i64 y.amt] 73)) = W1 at c0 c1 c2 d0 d1 d2 HG ⊢
  refine wp_region_still_tail 15 (by kernel_rfl) (by kernel_rfl) ?_
  simp only [List.take_succ_cons, List.take_zero, List.drop_succ_cons, List.drop_zero]
  change wpStill _ _ W1.drew _ _ _
  still_step
  still_step
  still_step
  still_step
  still_call (compare_int x.ent y.ent _)
  still_step
  still_step
  still_step
  still_step
  still_call (compare_str x.acc y.acc _)
  still_step
  still_step
  still_step
  still_step
  still_call (compare_str x.cur y.cur _)
  refine wpStill_nil ?_
  change wpList _ _ _ _ _ W1.drew
  go_wp2_with fail
  refine (or_three (cmpI x.ent y.ent) (cmpB x.acc y.acc) (cmpB x.cur y.cur) _ _ _ (by simp) (by simp) (by simp)).mono ?_
  rintro e w' ⟨rfl, rfl⟩
  go_wp2_with fail
  go_ret
  obtain ⟨os', ho⟩ := HG.out
  refine ⟨rfl, 1, os' ++ #[.cells #[.int .i64 (cmpI x.ent y.ent), .int .i64 (cmpB x.acc y.acc), .int .i64 (cmpB x.cur y.cur)] 3], ?_⟩
  rw [ho, ← Go.Sort.grow_grow, Go.Sort.alloc_eq_grow]
  rfl
end Go.Proofs.YthmjkhlndphldaaGreatDoor

namespace Go.Proofs.YthmjkhlndphldaaGreatDoor
open Go Go.RowKit
set_option linter.unusedVariables false

theorem compare_balB (x y : Bal) (W : World) :
    Calls Tryz.prog 103 #[.agg #[.int .i64 x.ent, .string x.acc, .string x.cur, .int .i64 x.amt], .agg #[.int .i64 y.ent, .string y.acc, .string y.cur, .int .i64 y.amt]] W
      fun e w' => e = .returned (.int .i64 (cmpBal x y)) ∧ Below W.heap.size W w' := by
  refine (compare_bal x y W).mono fun e w' ⟨he, q, os, hw⟩ => ⟨he, ?_⟩
  subst hw
  refine ⟨rfl, rfl, rfl, ?_, fun i hi => ?_⟩
  · show W.heap.size ≤ (W.heap ++ os).size
    simp
  · show (W.heap ++ os)[i]? = _
    rw [Array.getElem?_append_left hi]

theorem may_any (n : Int) (w : World) : Calls Tryz.prog 104 #[.int .i64 n] w fun e w' => e = .returned (.bool (mayB n)) ∧ w = w' := by
  unfold mayB inB
  by_cases h1 : (-1000000000000000000) ≤ n
  · go_enter Tryz.func104, Tryz.ntmps104
    go_wp2_with fail
    go_ret
    exact ⟨by simp [h1], rfl⟩
  · have h1' : n < (-1000000000000000000) := by omega
    have h1d : decide ((-1000000000000000000) ≤ n) = false := by simpa using h1
    clear h1
    go_enter Tryz.func104, Tryz.ntmps104
    go_wp2_with fail
    go_ret
    exact ⟨by simp [h1d], rfl⟩

theorem ahead_any (x y : Bal) (W : World) :
    Calls Tryz.prog 105 #[.agg #[.int .i64 x.ent, .string x.acc, .string x.cur, .int .i64 x.amt], .agg #[.int .i64 y.ent, .string y.acc, .string y.cur, .int .i64 y.amt]] W
      fun e w' => e = .returned (.bool (aheadB x y)) ∧ Below W.heap.size W w' := by
  have hbb : Below W.heap.size W ((W.alloc (.cells #[.int .i64 x.ent, .string x.acc, .string x.cur, .int .i64 x.amt] 73)).alloc (.cells #[.int .i64 y.ent, .string y.acc, .string y.cur, .int .i64 y.amt] 73)) := ((Below.refl _ _).alloc (Nat.le_refl _) _).alloc (by simp) _
  by_cases h1 : x.ent = y.ent
  · have e1 : (x.ent != y.ent) = false := by rw [bne_eq_false_iff_eq]; exact h1
    by_cases h2 : x.acc = y.acc
    · have e2 : (x.acc.toList == y.acc.toList) = true := by rw [beq_toList]; exact decide_eq_true h2
      have HF : Hid (aheadB x y = lessB x.cur y.cur) := by show _ = _; rw [aheadB, if_pos h1, if_pos h2]
      clear h1 h2
      go_enter Tryz.func105, Tryz.ntmps105
      go_wp2_with fail
      go_ret
      exact ⟨by rw [HF.out]; rfl, hbb⟩
    · have e2 : (x.acc.toList == y.acc.toList) = false := by rw [beq_toList]; exact decide_eq_false h2
      have HF : Hid (aheadB x y = lessB x.acc y.acc) := by show _ = _; rw [aheadB, if_pos h1, if_neg h2]
      clear h1 h2
      go_enter Tryz.func105, Tryz.ntmps105
      go_wp2_with fail
      go_ret
      exact ⟨by rw [HF.out]; rfl, hbb⟩
  · have e1 : (x.ent != y.ent) = true := by rw [bne_iff_ne]; exact h1
    have HF : Hid (aheadB x y = decide (x.ent < y.ent)) := by show _ = _; rw [aheadB, if_neg h1]
    clear h1
    go_enter Tryz.func105, Tryz.ntmps105
    go_wp2_with fail
    go_ret
    exact ⟨by rw [HF.out]; rfl, hbb⟩

theorem errV_at (l : List Bal) {k : Nat} {n : Nat} (hn : l.length = n) (h200 : n ≤ 200) (hto : firstE (balE l) k = 0) (hk : k < n) (hb : balE l k ≠ 0) : balsE l = balE l k := by
  rw [balsE, if_neg (by omega), hn]
  exact firstE_hit hto hk hb

set_option maxHeartbeats 1000000 in
set_option maxRecDepth 100000 in
theorem lcheck_any (l : List Bal) (A : Option Addr) (n cap : Nat) (w : World) (hl : n ≤ 9223372036854775807) (ha : Rd w 4 balEnc A n l) :
    Calls Tryz.prog 48 #[.slice A n cap] w fun e w' => e = .returned (errV (balsE l)) ∧ Below w.heap.size w w' := by
  have Hn := hide ha.1
  by_cases h2 : 200 < n
  · have h2' : (200 : Int) < (n : Int) := by omega
    have HF : Hid (balsE l = 4) := by show _ = _; rw [balsE, if_pos (by rw [Hn.out]; exact h2)]
    clear h2
    go_enter Tryz.func48, Tryz.ntmps48
    go_wp2_with fail
    go_ret
    exact ⟨by rw [HF.out]; rfl, Below.refl _ _⟩
  · have h2' : ¬ (200 : Int) < (n : Int) := by omega
    have hn200 : n ≤ 200 := by omega
    clear h2
    go_enter Tryz.func48, Tryz.ntmps48
    go_wp2_with fail
    go_loopw [11] (fun iv wr => ∃ k : Nat, k ≤ n ∧ iv = .int .i64 k ∧ firstE (balE l) k = 0 ∧ Below w.heap.size w wr) (fun iv _ => n - (intOf iv).toNat)
    case atStart => exact ⟨0, by omega, rfl, rfl, Below.refl _ _⟩
    case round =>
      obtain ⟨k, hk, rfl, hto, hbr⟩ := hrel
      have HTo := hide hto
      clear hto
      by_cases hlt : k < n
      · have hkl : k < l.length := by have := Hn.out; omega
        obtain ⟨b, off, rfl, hcs⟩ := (Rd.below ha hbr).2 (by omega)
        have q0 := hcs k 0 _ hkl rfl
        have q1 := hcs k 1 _ hkl rfl
        have q2 := hcs k 2 _ hkl rfl
        have q3 := hcs k 3 _ hkl rfl
        rw [Nat.add_zero] at q0
        have k0 : (0 : Int) ≤ (k : Int) := by omega
        have k1 : (k : Int) < (n : Int) := by omega
        have hbx : Below wr.heap.size wr (wr.alloc (.cells #[.int .i64 l[k].ent, .string l[k].acc, .string l[k].cur, .int .i64 l[k].amt] 73)) := (Below.refl _ _).alloc (Nat.le_refl _) _
        cases k with
        | zero =>
          clear hcs
          simp only [Nat.zero_mul, Nat.add_zero] at q0 q1 q2 q3
          have HO : Hid (ordB l 0 = true) := ordB_0 l
          cases hm : mayB l[0].amt with
          | false =>
            have HE := hide (balE_2 HO.out hkl hm)
            have HF : Hid (balsE l = 1) := by show _ = _; rw [errV_at l Hn.out hn200 HTo.out hlt (by rw [HE.out]; decide), HE.out]
            go_wp2_with fail
            go_quiet (fail)
            go_wp2_with fail
            refine (may_any _ _).mono ?_
            rintro e w5 ⟨rfl, rfl⟩
            rw [hm]
            go_wp2_with fail
            go_ret
            exact ⟨by rw [HF.out]; rfl, bdrewN (hbr.trans (hbx.mono hbr.size)) _⟩
          | true =>
            by_cases hz : l[0].amt = 0
            · have HE := hide (balE_3 HO.out hkl hm hz)
              have HF : Hid (balsE l = 3) := by show _ = _; rw [errV_at l Hn.out hn200 HTo.out hlt (by rw [HE.out]; decide), HE.out]
              have hz1 : (l[0].amt == 0) = true := by simpa using hz
              clear hz
              go_wp2_with fail
              go_quiet (fail)
              go_wp2_with fail
              refine (may_any _ _).mono ?_
              rintro e w5 ⟨rfl, rfl⟩
              rw [hm]
              go_wp2_with fail
              go_ret
              exact ⟨by rw [HF.out]; rfl, bdrewN (hbr.trans (hbx.mono hbr.size)) _⟩
            · have HE := hide (balE_4 HO.out hkl hm hz)
              have hz1 : (l[0].amt == 0) = false := by simpa using hz
              clear hz
              go_wp2_with fail
              go_quiet (fail)
              go_wp2_with fail
              refine (may_any _ _).mono ?_
              rintro e w5 ⟨rfl, rfl⟩
              rw [hm]
              go_wp2_with fail
              go_roundw
              case rel => exact ⟨1, by omega, by go_num, by rw [firstE_succ HTo.out]; exact HE.out, bdrewN (hbr.trans (hbx.mono hbr.size)) _⟩
              case measure => simp [intOf]; omega
        | succ j =>
          have p0 := hcs j 0 _ (by omega) rfl
          have p1 := hcs j 1 _ (by omega) rfl
          have p2 := hcs j 2 _ (by omega) rfl
          have p3 := hcs j 3 _ (by omega) rfl
          rw [Nat.add_zero] at p0
          clear hcs
          have j0 : (0 : Int) ≤ (j : Int) := by omega
          have j1 : (j : Int) < (n : Int) := by omega
          have hwj : IntKind.i64.wrap (j : Int) = (j : Int) := IntWalk.i64_in _ (by omega)
          have HO := hide (ordB_s (l := l) (k := j) hkl)
          have hge := cmpBal_ge l[j] l[j + 1]
          have x0 : (wr.alloc (.cells #[.int .i64 l[j + 1].ent, .string l[j + 1].acc, .string l[j + 1].cur, .int .i64 l[j + 1].amt] 73)).cell? ⟨wr.heap.size, 0, none⟩ = some (.int .i64 l[j + 1].ent) := by simp
          have x1 : (wr.alloc (.cells #[.int .i64 l[j + 1].ent, .string l[j + 1].acc, .string l[j + 1].cur, .int .i64 l[j + 1].amt] 73)).cell? ⟨wr.heap.size, 1, none⟩ = some (.string l[j + 1].acc) := by simp
          have x2 : (wr.alloc (.cells #[.int .i64 l[j + 1].ent, .string l[j + 1].acc, .string l[j + 1].cur, .int .i64 l[j + 1].amt] 73)).cell? ⟨wr.heap.size, 2, none⟩ = some (.string l[j + 1].cur) := by simp
          have x3 : (wr.alloc (.cells #[.int .i64 l[j + 1].ent, .string l[j + 1].acc, .string l[j + 1].cur, .int .i64 l[j + 1].amt] 73)).cell? ⟨wr.heap.size, 3, none⟩ = some (.int .i64 l[j + 1].amt) := by simp
          have hbs : b < wr.heap.size := World.block_lt_of_cell? _ _ p0
          have y0 := below_cell hbx hbs p0
          have y1 := below_cell hbx hbs p1
          have y2 := below_cell hbx hbs p2
          have y3 := below_cell hbx hbs p3
          have hxs : wr.heap.size < (wr.alloc (.cells #[.int .i64 l[j + 1].ent, .string l[j + 1].acc, .string l[j + 1].cur, .int .i64 l[j + 1].amt] 73)).heap.size := by simp
          obtain ⟨e, he⟩ : ∃ e, e = cmpBal l[j] l[j + 1] := ⟨_, rfl⟩
          rw [← he] at hge
          have HE0 := hide he
          clear he
          cases ho : aheadB l[j] l[j + 1] with
          | false =>
            have HE := hide (balE_1 (l := l) (k := j + 1) (by rw [HO.out]; exact ho))
            have HF : Hid (balsE l = 5) := by show _ = _; rw [errV_at l Hn.out hn200 HTo.out hlt (by rw [HE.out]; decide), HE.out]
            rw [ho] at hge
            clear ho
            go_wp2_with fail
            generalize (wr.alloc (.cells #[.int .i64 l[j + 1].ent, .string l[j + 1].acc, .string l[j + 1].cur, .int .i64 l[j + 1].amt] 73)) = W1 at x0 x1 x2 x3 hbx y0 y1 y2 y3 hxs ⊢
            refine wp_region_still_tail 9 (by kernel_rfl) (by kernel_rfl) ?_
            simp only [List.take_succ_cons, List.take_zero, List.drop_succ_cons, List.drop_zero]
            change wpStill _ _ W1.drew _ _ _
            repeat still_step
            refine wpStill_nil ?_
            change wpList _ _ _ _ _ W1.drew
            go_wp2_with (first | (go_at_call 103; refine (compare_balB l[j] l[j + 1] _).mono ?_; rintro e w4 ⟨rfl, hb4⟩; rw [← HE0.out]))
            have hb14 : Below wr.heap.size wr w4 := (show Below wr.heap.size wr W1.drew from bdrewN hbx 1).trans (hb4.mono (Nat.le_of_lt hxs))
            go_ret
            exact ⟨by rw [HF.out]; rfl, hbr.trans (hb14.mono hbr.size)⟩
          | true =>
            have HA := hide ho
            rw [ho] at hge
            clear ho
            cases hm : mayB l[j + 1].amt with
            | false =>
              have HE := hide (balE_2 (by rw [HO.out]; exact HA.out) hkl hm)
              have HF : Hid (balsE l = 1) := by show _ = _; rw [errV_at l Hn.out hn200 HTo.out hlt (by rw [HE.out]; decide), HE.out]
              go_wp2_with fail
              generalize (wr.alloc (.cells #[.int .i64 l[j + 1].ent, .string l[j + 1].acc, .string l[j + 1].cur, .int .i64 l[j + 1].amt] 73)) = W1 at x0 x1 x2 x3 hbx y0 y1 y2 y3 hxs ⊢
              refine wp_region_still_tail 9 (by kernel_rfl) (by kernel_rfl) ?_
              simp only [List.take_succ_cons, List.take_zero, List.drop_succ_cons, List.drop_zero]
              change wpStill _ _ W1.drew _ _ _
              repeat still_step
              refine wpStill_nil ?_
              change wpList _ _ _ _ _ W1.drew
              go_wp2_with (first | (go_at_call 103; refine (compare_balB l[j] l[j + 1] _).mono ?_; rintro e w4 ⟨rfl, hb4⟩; rw [← HE0.out]; have x34 := below_cell hb4 (show wr.heap.size < W1.drew.heap.size from hxs) x3) | (go_at_call 104; refine (may_any _ _).mono ?_; rintro e w5 ⟨rfl, rfl⟩; rw [hm]))
              have hb14 : Below wr.heap.size wr w4 := (show Below wr.heap.size wr W1.drew from bdrewN hbx 1).trans (hb4.mono (Nat.le_of_lt hxs))
              go_ret
              exact ⟨by rw [HF.out]; rfl, hbr.trans (hb14.mono hbr.size)⟩
            | true =>
              by_cases hz : l[j + 1].amt = 0
              · have HE := hide (balE_3 (by rw [HO.out]; exact HA.out) hkl hm hz)
                have HF : Hid (balsE l = 3) := by show _ = _; rw [errV_at l Hn.out hn200 HTo.out hlt (by rw [HE.out]; decide), HE.out]
                have hz1 : (l[j + 1].amt == 0) = true := by simpa using hz
                clear hz
                go_wp2_with fail
                generalize (wr.alloc (.cells #[.int .i64 l[j + 1].ent, .string l[j + 1].acc, .string l[j + 1].cur, .int .i64 l[j + 1].amt] 73)) = W1 at x0 x1 x2 x3 hbx y0 y1 y2 y3 hxs ⊢
                refine wp_region_still_tail 9 (by kernel_rfl) (by kernel_rfl) ?_
                simp only [List.take_succ_cons, List.take_zero, List.drop_succ_cons, List.drop_zero]
                change wpStill _ _ W1.drew _ _ _
                repeat still_step
                refine wpStill_nil ?_
                change wpList _ _ _ _ _ W1.drew
                go_wp2_with (first | (go_at_call 103; refine (compare_balB l[j] l[j + 1] _).mono ?_; rintro e w4 ⟨rfl, hb4⟩; rw [← HE0.out]; have x34 := below_cell hb4 (show wr.heap.size < W1.drew.heap.size from hxs) x3) | (go_at_call 104; refine (may_any _ _).mono ?_; rintro e w5 ⟨rfl, rfl⟩; rw [hm]))
                have hb14 : Below wr.heap.size wr w4 := (show Below wr.heap.size wr W1.drew from bdrewN hbx 1).trans (hb4.mono (Nat.le_of_lt hxs))
                go_ret
                exact ⟨by rw [HF.out]; rfl, hbr.trans (hb14.mono hbr.size)⟩
              · have HE := hide (balE_4 (by rw [HO.out]; exact HA.out) hkl hm hz)
                have hz1 : (l[j + 1].amt == 0) = false := by simpa using hz
                clear hz
                go_wp2_with fail
                generalize (wr.alloc (.cells #[.int .i64 l[j + 1].ent, .string l[j + 1].acc, .string l[j + 1].cur, .int .i64 l[j + 1].amt] 73)) = W1 at x0 x1 x2 x3 hbx y0 y1 y2 y3 hxs ⊢
                refine wp_region_still_tail 9 (by kernel_rfl) (by kernel_rfl) ?_
                simp only [List.take_succ_cons, List.take_zero, List.drop_succ_cons, List.drop_zero]
                change wpStill _ _ W1.drew _ _ _
                repeat still_step
                refine wpStill_nil ?_
                change wpList _ _ _ _ _ W1.drew
                go_wp2_with (first | (go_at_call 103; refine (compare_balB l[j] l[j + 1] _).mono ?_; rintro e w4 ⟨rfl, hb4⟩; rw [← HE0.out]; have x34 := below_cell hb4 (show wr.heap.size < W1.drew.heap.size from hxs) x3) | (go_at_call 104; refine (may_any _ _).mono ?_; rintro e w5 ⟨rfl, rfl⟩; rw [hm]))
                have hb14 : Below wr.heap.size wr w4 := (show Below wr.heap.size wr W1.drew from bdrewN hbx 1).trans (hb4.mono (Nat.le_of_lt hxs))
                go_roundw
                case rel => exact ⟨j + 1 + 1, by omega, by go_num, by rw [firstE_succ HTo.out]; exact HE.out, hbr.trans (hb14.mono hbr.size)⟩
                case measure => simp [intOf]; omega
      · have HF : Hid (balsE l = 0) := by show _ = _; rw [balsE, if_neg (by have := Hn.out; omega), Hn.out, show n = k by omega]; exact HTo.out
        go_wp2_with fail
        go_ret
        exact ⟨by rw [HF.out]; rfl, hbr⟩
end Go.Proofs.YthmjkhlndphldaaGreatDoor

namespace Go.Proofs.YthmjkhlndphldaaGreatDoor
open Go Go.RowKit
set_option linter.unusedVariables false

theorem may_low {n : Int} (h : n < -1000000000000000000) : mayB n = false := by simp [mayB, inB]; omega
theorem may_high {n : Int} (h : 1000000000000000000 < n) : mayB n = false := by simp [mayB, inB]; omega
theorem may_mid {n : Int} (h : ¬ n < -1000000000000000000) (h2 : ¬ 1000000000000000000 < n) : mayB n = true := by simp [mayB, inB]; omega

set_option maxHeartbeats 1000000 in
set_option maxRecDepth 100000 in
theorem refLCheck_any (l : List Bal) (A : Option Addr) (n cap : Nat) (w : World) (hl : n ≤ 9223372036854775807) (ha : Rd w 4 balEnc A n l) :
    Calls Tryz.prog 49 #[.slice A n cap] w fun e w' => e = .returned (.int .i64 (balsE l)) ∧ Below w.heap.size w w' := by
  have Hn := hide ha.1
  by_cases h2 : 200 < n
  · have h2' : (200 : Int) < (n : Int) := by omega
    have HF : Hid (balsE l = 4) := by show _ = _; rw [balsE, if_pos (by rw [Hn.out]; exact h2)]
    clear h2
    go_enter Tryz.func49, Tryz.ntmps49
    go_wp2_with fail
    go_ret
    exact ⟨by rw [HF.out]; rfl, Below.refl _ _⟩
  · have h2' : ¬ (200 : Int) < (n : Int) := by omega
    have hn200 : n ≤ 200 := by omega
    clear h2
    go_enter Tryz.func49, Tryz.ntmps49
    go_wp2_with fail
    go_loopw [3] (fun iv wr => ∃ k : Nat, k ≤ n ∧ iv = .int .i64 k ∧ firstE (balE l) k = 0 ∧ Below w.heap.size w wr) (fun iv _ => n - (intOf iv).toNat)
    case atStart => exact ⟨0, by omega, rfl, rfl, Below.refl _ _⟩
    case round =>
      obtain ⟨k, hk, rfl, hto, hbr⟩ := hrel
      have HTo := hide hto
      clear hto
      by_cases hlt : k < n
      · have hkl : k < l.length := by have := Hn.out; omega
        obtain ⟨b, off, rfl, hcs⟩ := (Rd.below ha hbr).2 (by omega)
        have q0 := hcs k 0 _ hkl rfl
        have q1 := hcs k 1 _ hkl rfl
        have q2 := hcs k 2 _ hkl rfl
        have q3 := hcs k 3 _ hkl rfl
        rw [Nat.add_zero] at q0
        have k0 : (0 : Int) ≤ (k : Int) := by omega
        have k1 : (k : Int) < (n : Int) := by omega
        cases k with
        | zero =>
          clear hcs
          simp only [Nat.zero_mul, Nat.add_zero] at q0 q1 q2 q3
          have HO : Hid (ordB l 0 = true) := ordB_0 l
          by_cases hm1 : l[0].amt < -1000000000000000000
          · have HE := hide (balE_2 HO.out hkl (may_low hm1))
            have HF : Hid (balsE l = 1) := by show _ = _; rw [errV_at l Hn.out hn200 HTo.out hlt (by rw [HE.out]; decide), HE.out]
            go_wp2_with fail
            go_quiet (fail)
            go_wp2_with fail
            go_ret
            exact ⟨by rw [HF.out]; rfl, bdrewN hbr _⟩
          · by_cases hm2 : 1000000000000000000 < l[0].amt
            · have HE := hide (balE_2 HO.out hkl (may_high hm2))
              have hm1d : decide (l[0].amt < -1000000000000000000) = false := by simpa using hm1
              have HF : Hid (balsE l = 1) := by show _ = _; rw [errV_at l Hn.out hn200 HTo.out hlt (by rw [HE.out]; decide), HE.out]
              go_wp2_with fail
              go_quiet (fail)
              go_wp2_with fail
              go_ret
              exact ⟨by rw [HF.out]; rfl, bdrewN hbr _⟩
            · by_cases hz : l[0].amt = 0
              · have HE := hide (balE_3 HO.out hkl (may_mid hm1 hm2) hz)
                have hz1 : (l[0].amt == 0) = true := by simpa using hz
                clear hz
                have hm1d : decide (l[0].amt < -1000000000000000000) = false := by simpa using hm1
                have hm2d : decide (1000000000000000000 < l[0].amt) = false := by simpa using hm2
                have HF : Hid (balsE l = 3) := by show _ = _; rw [errV_at l Hn.out hn200 HTo.out hlt (by rw [HE.out]; decide), HE.out]
                go_wp2_with fail
                go_quiet (fail)
                go_wp2_with fail
                go_ret
                exact ⟨by rw [HF.out]; rfl, bdrewN hbr _⟩
              · have HE := hide (balE_4 HO.out hkl (may_mid hm1 hm2) hz)
                have hz1 : (l[0].amt == 0) = false := by simpa using hz
                clear hz
                have hm1d : decide (l[0].amt < -1000000000000000000) = false := by simpa using hm1
                have hm2d : decide (1000000000000000000 < l[0].amt) = false := by simpa using hm2
                go_wp2_with fail
                go_quiet (fail)
                go_wp2_with fail
                go_roundw
                case rel => exact ⟨1, by omega, by go_num, by rw [firstE_succ HTo.out]; exact HE.out, bdrewN hbr _⟩
                case measure => simp [intOf]; omega
        | succ j =>
          have p0 := hcs j 0 _ (by omega) rfl
          have p1 := hcs j 1 _ (by omega) rfl
          have p2 := hcs j 2 _ (by omega) rfl
          have p3 := hcs j 3 _ (by omega) rfl
          rw [Nat.add_zero] at p0
          clear hcs
          have j0 : (0 : Int) ≤ (j : Int) := by omega
          have j1 : (j : Int) < (n : Int) := by omega
          have j3 : (0 : Int) ≤ (j : Int) + 1 := by omega
          have j4 : (j : Int) + 1 < (n : Int) := by omega
          have j5 : ((j : Int) + 1).toNat = j + 1 := by omega
          have hwj : IntKind.i64.wrap (j : Int) = (j : Int) := IntWalk.i64_in _ (by omega)
          have hbs : b < wr.heap.size := World.block_lt_of_cell? _ _ p0
          have HO := hide (ordB_s (l := l) (k := j) hkl)
          cases ho : aheadB l[j] l[j + 1] with
          | false =>
            have HA := hide ho
            clear ho
            have HE := hide (balE_1 (l := l) (k := j + 1) (by rw [HO.out]; exact HA.out))
            have HF : Hid (balsE l = 5) := by show _ = _; rw [errV_at l Hn.out hn200 HTo.out hlt (by rw [HE.out]; decide), HE.out]
            have hga := hide HA.out
            go_wp2_with fail
            refine wp_region_still_tail 12 (by kernel_rfl) (by kernel_rfl) ?_
            simp only [List.take_succ_cons, List.take_zero, List.drop_succ_cons, List.drop_zero]
            change wpStill _ _ wr.drew _ _ _
            repeat still_step
            refine wpStill_nil ?_
            change wpList _ _ _ _ _ wr.drew
            go_wp2_with (first | (go_at_call 105; refine (ahead_any l[j] l[j + 1] _).mono ?_; rintro e w4 ⟨rfl, hb4⟩; rw [HA.out]; have q34 := below_cell hb4 (show b < wr.drew.heap.size from hbs) q3))
            have hb14 : Below wr.heap.size wr w4 := (bdrewN (Below.refl _ wr) 1).trans hb4
            go_ret
            exact ⟨by rw [HF.out]; rfl, hbr.trans (hb14.mono hbr.size)⟩
          | true =>
            have HA := hide ho
            clear ho
            by_cases hm1 : l[j + 1].amt < -1000000000000000000
            · have HE := hide (balE_2 (by rw [HO.out]; exact HA.out) hkl (may_low hm1))
              have HF : Hid (balsE l = 1) := by show _ = _; rw [errV_at l Hn.out hn200 HTo.out hlt (by rw [HE.out]; decide), HE.out]
              have hga := hide HA.out
              go_wp2_with fail
              refine wp_region_still_tail 12 (by kernel_rfl) (by kernel_rfl) ?_
              simp only [List.take_succ_cons, List.take_zero, List.drop_succ_cons, List.drop_zero]
              change wpStill _ _ wr.drew _ _ _
              repeat still_step
              refine wpStill_nil ?_
              change wpList _ _ _ _ _ wr.drew
              go_wp2_with (first | (go_at_call 105; refine (ahead_any l[j] l[j + 1] _).mono ?_; rintro e w4 ⟨rfl, hb4⟩; rw [HA.out]; have q34 := below_cell hb4 (show b < wr.drew.heap.size from hbs) q3))
              have hb14 : Below wr.heap.size wr w4 := (bdrewN (Below.refl _ wr) 1).trans hb4
              go_ret
              exact ⟨by rw [HF.out]; rfl, hbr.trans (hb14.mono hbr.size)⟩
            · by_cases hm2 : 1000000000000000000 < l[j + 1].amt
              · have HE := hide (balE_2 (by rw [HO.out]; exact HA.out) hkl (may_high hm2))
                have hm1d : decide (l[j + 1].amt < -1000000000000000000) = false := by simpa using hm1
                have HF : Hid (balsE l = 1) := by show _ = _; rw [errV_at l Hn.out hn200 HTo.out hlt (by rw [HE.out]; decide), HE.out]
                have hga := hide HA.out
                go_wp2_with fail
                refine wp_region_still_tail 12 (by kernel_rfl) (by kernel_rfl) ?_
                simp only [List.take_succ_cons, List.take_zero, List.drop_succ_cons, List.drop_zero]
                change wpStill _ _ wr.drew _ _ _
                repeat still_step
                refine wpStill_nil ?_
                change wpList _ _ _ _ _ wr.drew
                go_wp2_with (first | (go_at_call 105; refine (ahead_any l[j] l[j + 1] _).mono ?_; rintro e w4 ⟨rfl, hb4⟩; rw [HA.out]; have q34 := below_cell hb4 (show b < wr.drew.heap.size from hbs) q3))
                have hb14 : Below wr.heap.size wr w4 := (bdrewN (Below.refl _ wr) 1).trans hb4
                go_ret
                exact ⟨by rw [HF.out]; rfl, hbr.trans (hb14.mono hbr.size)⟩
              · by_cases hz : l[j + 1].amt = 0
                · have HE := hide (balE_3 (by rw [HO.out]; exact HA.out) hkl (may_mid hm1 hm2) hz)
                  have hz1 : (l[j + 1].amt == 0) = true := by simpa using hz
                  clear hz
                  have hm1d : decide (l[j + 1].amt < -1000000000000000000) = false := by simpa using hm1
                  have hm2d : decide (1000000000000000000 < l[j + 1].amt) = false := by simpa using hm2
                  have HF : Hid (balsE l = 3) := by show _ = _; rw [errV_at l Hn.out hn200 HTo.out hlt (by rw [HE.out]; decide), HE.out]
                  have hga := hide HA.out
                  go_wp2_with fail
                  refine wp_region_still_tail 12 (by kernel_rfl) (by kernel_rfl) ?_
                  simp only [List.take_succ_cons, List.take_zero, List.drop_succ_cons, List.drop_zero]
                  change wpStill _ _ wr.drew _ _ _
                  repeat still_step
                  refine wpStill_nil ?_
                  change wpList _ _ _ _ _ wr.drew
                  go_wp2_with (first | (go_at_call 105; refine (ahead_any l[j] l[j + 1] _).mono ?_; rintro e w4 ⟨rfl, hb4⟩; rw [HA.out]; have q34 := below_cell hb4 (show b < wr.drew.heap.size from hbs) q3))
                  have hb14 : Below wr.heap.size wr w4 := (bdrewN (Below.refl _ wr) 1).trans hb4
                  go_ret
                  exact ⟨by rw [HF.out]; rfl, hbr.trans (hb14.mono hbr.size)⟩
                · have HE := hide (balE_4 (by rw [HO.out]; exact HA.out) hkl (may_mid hm1 hm2) hz)
                  have hz1 : (l[j + 1].amt == 0) = false := by simpa using hz
                  clear hz
                  have hm1d : decide (l[j + 1].amt < -1000000000000000000) = false := by simpa using hm1
                  have hm2d : decide (1000000000000000000 < l[j + 1].amt) = false := by simpa using hm2
                  have hga := hide HA.out
                  go_wp2_with fail
                  refine wp_region_still_tail 12 (by kernel_rfl) (by kernel_rfl) ?_
                  simp only [List.take_succ_cons, List.take_zero, List.drop_succ_cons, List.drop_zero]
                  change wpStill _ _ wr.drew _ _ _
                  repeat still_step
                  refine wpStill_nil ?_
                  change wpList _ _ _ _ _ wr.drew
                  go_wp2_with (first | (go_at_call 105; refine (ahead_any l[j] l[j + 1] _).mono ?_; rintro e w4 ⟨rfl, hb4⟩; rw [HA.out]; have q34 := below_cell hb4 (show b < wr.drew.heap.size from hbs) q3))
                  have hb14 : Below wr.heap.size wr w4 := (bdrewN (Below.refl _ wr) 1).trans hb4
                  go_roundw
                  case rel => exact ⟨j + 1 + 1, by omega, by go_num, by rw [firstE_succ HTo.out]; exact HE.out, hbr.trans (hb14.mono hbr.size)⟩
                  case measure => simp [intOf]; omega
      · have HF : Hid (balsE l = 0) := by show _ = _; rw [balsE, if_neg (by have := Hn.out; omega), Hn.out, show n = k by omega]; exact HTo.out
        go_wp2_with fail
        go_ret
        exact ⟨by rw [HF.out]; rfl, hbr⟩

theorem getB_hit {l : List Bal} {ent : Int} {acc cur : ByteArray} {k : Nat} (h : NoTo (isAt ent acc cur) l k) (hk : k < l.length) (hp : isAt ent acc cur l[k] = true) : getB l ent acc cur = l[k].amt := by
  rw [getB, h.hit hk hp]
theorem getB_none {l : List Bal} {ent : Int} {acc cur : ByteArray} {k : Nat} (h : NoTo (isAt ent acc cur) l k) (hk : l.length ≤ k) : getB l ent acc cur = 0 := by
  rw [getB, h.all hk]

set_option maxHeartbeats 1000000 in
set_option maxRecDepth 100000 in
theorem lget_any (l : List Bal) (ent : Int) (acc cur : ByteArray) (A : Option Addr) (n cap : Nat) (w : World) (hl : n ≤ 9223372036854775807) (ha : Rd w 4 balEnc A n l) :
    Calls Tryz.prog 100 #[.slice A n cap, .int .i64 ent, .string acc, .string cur] w fun e w' => e = .returned (.int .i64 (getB l ent acc cur)) ∧ Below w.heap.size w w' := by
  have Hn := hide ha.1
  go_enter Tryz.func100, Tryz.ntmps100
  go_wp2_with fail
  go_loopw [13] (fun iv wr => ∃ k : Nat, k ≤ n ∧ iv = .int .i64 k ∧ NoTo (isAt ent acc cur) l k ∧ Below w.heap.size w wr) (fun iv _ => n - (intOf iv).toNat)
  case atStart => exact ⟨0, by omega, rfl, NoTo.zero _ _, Below.refl _ _⟩
  case round =>
    obtain ⟨k, hk, rfl, hto, hbr⟩ := hrel
    have HTo := hide hto
    clear hto
    by_cases hlt : k < n
    · have hkl : k < l.length := by have := Hn.out; omega
      obtain ⟨b, off, rfl, hcs⟩ := (Rd.below ha hbr).2 (by omega)
      have q0 := hcs k 0 _ hkl rfl
      have q1 := hcs k 1 _ hkl rfl
      have q2 := hcs k 2 _ hkl rfl
      have q3 := hcs k 3 _ hkl rfl
      rw [Nat.add_zero] at q0
      clear hcs
      have k0 : (0 : Int) ≤ (k : Int) := by omega
      have k1 : (k : Int) < (n : Int) := by omega
      have hbx : Below w.heap.size w (wr.alloc (.cells #[.int .i64 l[k].ent, .string l[k].acc, .string l[k].cur, .int .i64 l[k].amt] 73)) := hbr.alloc hbr.size _
      cases e1 : (l[k].ent == ent) with
      | false =>
        have HX : Hid (isAt ent acc cur l[k] = false) := by show _ = _; unfold isAt; simp only [e1, Bool.false_and]
        go_wp2_with fail
        go_roundw
        case rel => exact ⟨k + 1, by omega, by go_num, HTo.out.succ hkl HX.out, hbx⟩
        case measure => simp [intOf]; omega
      | true =>
        cases e2 : (l[k].acc.toList == acc.toList) with
        | false =>
          have HX : Hid (isAt ent acc cur l[k] = false) := by show _ = _; unfold isAt; simp only [e1, e2, Bool.false_and, Bool.and_false]
          go_wp2_with fail
          go_roundw
          case rel => exact ⟨k + 1, by omega, by go_num, HTo.out.succ hkl HX.out, hbx⟩
          case measure => simp [intOf]; omega
        | true =>
          cases e3 : (l[k].cur.toList == cur.toList) with
          | false =>
            have HX : Hid (isAt ent acc cur l[k] = false) := by show _ = _; unfold isAt; simp only [e1, e2, e3, Bool.true_and, Bool.and_false]
            go_wp2_with fail
            go_roundw
            case rel => exact ⟨k + 1, by omega, by go_num, HTo.out.succ hkl HX.out, hbx⟩
            case measure => simp [intOf]; omega
          | true =>
            have HX : Hid (isAt ent acc cur l[k] = true) := by show _ = _; unfold isAt; simp only [e1, e2, e3, Bool.true_and]
            have HG := hide (getB_hit HTo.out hkl HX.out)
            go_wp2_with fail
            go_ret
            exact ⟨ret_int HG.out.symm, hbx⟩
    · have HG := hide (getB_none HTo.out (by have := Hn.out; omega))
      go_wp2_with fail
      go_ret
      exact ⟨ret_int HG.out.symm, hbr⟩

set_option maxHeartbeats 1000000 in
set_option maxRecDepth 100000 in
theorem refGet_any (l : List Bal) (ent : Int) (acc cur : ByteArray) (A : Option Addr) (n cap : Nat) (w : World) (hl : n ≤ 9223372036854775807) (ha : Rd w 4 balEnc A n l) :
    Calls Tryz.prog 58 #[.slice A n cap, .int .i64 ent, .string acc, .string cur] w fun e w' => e = .returned (.int .i64 (getB l ent acc cur)) ∧ Below w.heap.size w w' := by
  have Hn := hide ha.1
  go_enter Tryz.func58, Tryz.ntmps58
  go_wp2_with fail
  go_loopw [9] (fun iv wr => ∃ k : Nat, k ≤ n ∧ iv = .int .i64 k ∧ NoTo (isAt ent acc cur) l k ∧ Below w.heap.size w wr) (fun iv _ => n - (intOf iv).toNat)
  case atStart => exact ⟨0, by omega, rfl, NoTo.zero _ _, Below.refl _ _⟩
  case round =>
    obtain ⟨k, hk, rfl, hto, hbr⟩ := hrel
    have HTo := hide hto
    clear hto
    by_cases hlt : k < n
    · have hkl : k < l.length := by have := Hn.out; omega
      obtain ⟨b, off, rfl, hcs⟩ := (Rd.below ha hbr).2 (by omega)
      have q0 := hcs k 0 _ hkl rfl
      have q1 := hcs k 1 _ hkl rfl
      have q2 := hcs k 2 _ hkl rfl
      have q3 := hcs k 3 _ hkl rfl
      rw [Nat.add_zero] at q0
      clear hcs
      have k0 : (0 : Int) ≤ (k : Int) := by omega
      have k1 : (k : Int) < (n : Int) := by omega
      have hbx : Below w.heap.size w (wr.alloc (.cells #[.int .i64 l[k].ent, .string l[k].acc, .string l[k].cur, .int .i64 l[k].amt] 73)) := hbr.alloc hbr.size _
      cases e1 : (l[k].ent == ent) with
      | false =>
        have HX : Hid (isAt ent acc cur l[k] = false) := by show _ = _; unfold isAt; simp only [e1, Bool.false_and]
        go_wp2_with fail
        go_roundw
        case rel => exact ⟨k + 1, by omega, by go_num, HTo.out.succ hkl HX.out, hbr⟩
        case measure => simp [intOf]; omega
      | true =>
        cases e2 : (l[k].acc.toList == acc.toList) with
        | false =>
          have HX : Hid (isAt ent acc cur l[k] = false) := by show _ = _; unfold isAt; simp only [e1, e2, Bool.false_and, Bool.and_false]
          go_wp2_with fail
          go_roundw
          case rel => exact ⟨k + 1, by omega, by go_num, HTo.out.succ hkl HX.out, hbr⟩
          case measure => simp [intOf]; omega
        | true =>
          cases e3 : (l[k].cur.toList == cur.toList) with
          | false =>
            have HX : Hid (isAt ent acc cur l[k] = false) := by show _ = _; unfold isAt; simp only [e1, e2, e3, Bool.true_and, Bool.and_false]
            go_wp2_with fail
            go_roundw
            case rel => exact ⟨k + 1, by omega, by go_num, HTo.out.succ hkl HX.out, hbr⟩
            case measure => simp [intOf]; omega
          | true =>
            have HX : Hid (isAt ent acc cur l[k] = true) := by show _ = _; unfold isAt; simp only [e1, e2, e3, Bool.true_and]
            have HG := hide (getB_hit HTo.out hkl HX.out)
            go_wp2_with fail
            go_ret
            exact ⟨ret_int HG.out.symm, hbr⟩
    · have HG := hide (getB_none HTo.out (by have := Hn.out; omega))
      go_wp2_with fail
      go_ret
      exact ⟨ret_int HG.out.symm, hbr⟩
end Go.Proofs.YthmjkhlndphldaaGreatDoor
