/- Entries that make both sides of pairs 0: plain facts, how they lie. -/
import Derived.Test.YthmjkhlndphldaaGreatDoorPairY
import Derived.Test.YthmjkhlndphldaaGreatDoorPairF
import Derived.Test.YthmjkhlndphldaaGreatDoorPairC
import Derived.Test.YthmjkhlndphldaaGreatDoorPlayAll
namespace Go.Proofs.YthmjkhlndphldaaGreatDoor
open Go Go.RowKit
set_option linter.unusedVariables false

/-- side k of a pair -/
def sdEnt (p : Pr) (k : Nat) : Int := if k = 0 then p.a else p.b
def sdAcc (p : Pr) (k : Nat) : ByteArray := if k = 0 then p.one else p.other
def nSide (b : List Bal) (cur : ByteArray) (p : Pr) (k : Nat) : Int := getB b (sdEnt p k) (sdAcc p k) cur
def pairB : ByteArray := ⟨#[112, 97, 105, 114, 45]⟩
def abB : ByteArray := ⟨#[97, 98]⟩
def pairRef (i k : Nat) : ByteArray := pairB ++ ⟨(Lib.decDigits i).toArray⟩ ++ abB.extract k (k + 1)
abbrev Core := ByteArray × Int × Int × List Line
/-- the entry of side m % 2 of pair m / 2 -/
def nOf (l : List Pr) (b : List Bal) (cur : ByteArray) (m : Nat) : Int := match l[m / 2]? with | none => 0 | some p => nSide b cur p (m % 2)
def coreOf (l : List Pr) (b : List Bal) (cur : ByteArray) (per : Int) (m : Nat) : List Core := match l[m / 2]? with
  | none => []
  | some p => if nSide b cur p (m % 2) = 0 then [] else [(pairRef (m / 2) (m % 2), sdEnt p (m % 2), per, [⟨sdAcc p (m % 2), cur, -(nSide b cur p (m % 2))⟩, ⟨p.diff, cur, nSide b cur p (m % 2)⟩])]
def coresTo (l : List Pr) (b : List Bal) (cur : ByteArray) (per : Int) (m : Nat) : List Core := (List.range m).flatMap (coreOf l b cur per)
def farE (l : List Pr) (b : List Bal) (cur : ByteArray) (m : Nat) : Int := if nOf l b cur m = 0 then 0 else if inB (-1000000000000000) 1000000000000000 (nOf l b cur m) = false then 1 else 0
section
variable {l : List Pr} {b : List Bal} {cur : ByteArray} {per : Int} {k j : Nat}
theorem at_2 (hj : j < 2) : (2 * k + j) / 2 = k ∧ (2 * k + j) % 2 = j := by omega
theorem nOf_at (hk : k < l.length) (hj : j < 2) : nOf l b cur (2 * k + j) = nSide b cur l[k] j := by
  unfold nOf
  rw [(at_2 hj).1, (at_2 hj).2, List.getElem?_eq_getElem hk]
theorem coresTo_succ (m : Nat) : coresTo l b cur per (m + 1) = coresTo l b cur per m ++ coreOf l b cur per m := by
  unfold coresTo
  rw [List.range_succ, List.flatMap_append]
  simp
theorem cores_no (hk : k < l.length) (hj : j < 2) (h : nSide b cur l[k] j = 0) : coresTo l b cur per (2 * k + j + 1) = coresTo l b cur per (2 * k + j) := by
  rw [coresTo_succ]
  unfold coreOf
  rw [(at_2 hj).1, (at_2 hj).2, List.getElem?_eq_getElem hk]
  show _ ++ (if nSide b cur l[k] j = 0 then _ else _) = _
  rw [if_pos h, List.append_nil]
theorem cores_yes (hk : k < l.length) (hj : j < 2) (h : nSide b cur l[k] j ≠ 0) : coresTo l b cur per (2 * k + j + 1) = coresTo l b cur per (2 * k + j) ++ [(pairRef k j, sdEnt l[k] j, per, [⟨sdAcc l[k] j, cur, -(nSide b cur l[k] j)⟩, ⟨l[k].diff, cur, nSide b cur l[k] j⟩])] := by
  rw [coresTo_succ]
  congr 1
  unfold coreOf
  rw [(at_2 hj).1, (at_2 hj).2, List.getElem?_eq_getElem hk]
  show (if nSide b cur l[k] j = 0 then _ else _) = _
  rw [if_neg h]
theorem coresTo_len (m : Nat) : (coresTo l b cur per m).length ≤ m := by
  induction m with
  | zero => simp [coresTo]
  | succ m ih =>
    rw [coresTo_succ, List.length_append]
    have : (coreOf l b cur per m).length ≤ 1 := by
      unfold coreOf
      cases l[m / 2]? with
      | none => simp
      | some p => dsimp only; split <;> simp
    omega
theorem far_no (hk : k < l.length) (hj : j < 2) (h : nSide b cur l[k] j = 0) : farE l b cur (2 * k + j) = 0 := by rw [farE, nOf_at hk hj, if_pos h]
theorem far_1 (hk : k < l.length) (hj : j < 2) (h : nSide b cur l[k] j ≠ 0) (h2 : inB (-1000000000000000) 1000000000000000 (nSide b cur l[k] j) = false) : farE l b cur (2 * k + j) = 1 := by rw [farE, nOf_at hk hj, if_neg h, if_pos h2]
theorem far_0 (hk : k < l.length) (hj : j < 2) (h : nSide b cur l[k] j ≠ 0) (h2 : inB (-1000000000000000) 1000000000000000 (nSide b cur l[k] j) = true) : farE l b cur (2 * k + j) = 0 := by
  rw [farE, nOf_at hk hj, if_neg h, if_neg (by rw [h2]; decide)]
end
/-- what is wrong -/
def elimE (c : List Acc) (l : List Pr) (b : List Bal) (cur : ByteArray) (per : Int) : Int :=
  if pairsE c l ≠ 0 then pairsE c l else if leftE l b cur ≠ 0 then leftE l b cur else if inB 1 120 per = false then 1 else firstE (farE l b cur) (2 * l.length)
section
variable {c : List Acc} {l : List Pr} {b : List Bal} {cur : ByteArray} {per : Int}
theorem elimE_1 (h : pairsE c l ≠ 0) : elimE c l b cur per = pairsE c l := if_pos h
theorem elimE_2 (h : pairsE c l = 0) (h2 : leftE l b cur ≠ 0) : elimE c l b cur per = leftE l b cur := by rw [elimE, if_neg (by simpa using h), if_pos h2]
theorem elimE_3 (h : pairsE c l = 0) (h2 : leftE l b cur = 0) (h3 : inB 1 120 per = false) : elimE c l b cur per = 1 := by rw [elimE, if_neg (by simpa using h), if_neg (by simpa using h2), if_pos h3]
theorem elimE_4 (h : pairsE c l = 0) (h2 : leftE l b cur = 0) (h3 : inB 1 120 per = true) : elimE c l b cur per = firstE (farE l b cur) (2 * l.length) := by rw [elimE, if_neg (by simpa using h), if_neg (by simpa using h2), if_neg (by rw [h3]; decide)]
theorem farE_range (m : Nat) : 0 ≤ farE l b cur m ∧ farE l b cur m ≤ 12 := by
  unfold farE
  repeat' split
  all_goals omega
theorem elimE_range : 0 ≤ elimE c l b cur per ∧ elimE c l b cur per ≤ 12 := by
  have h1 := pairsE_range c l
  have h2 := leftE_range l b cur
  have h3 := firstE_range (f := farE l b cur) farE_range (2 * l.length)
  unfold elimE
  repeat' split
  all_goals first | assumption | omega
end

/-- entries of the call's own, each with lines in a block apart -/
structure Pack (w : World) (B : Nat) (v : Value) (es : List Ent) : Prop where
  own : Own w B 25 4 Ent.enc v es
  all : ∀ e, e ∈ es → Rd w 3 lineEnc e.A e.n e.lines ∧ e.n ≤ 20 ∧ ∃ b off, e.A = some ⟨b, off, none⟩ ∧ b < w.heap.size ∧ v.ownBlock ≠ some b
section
variable {w w' : World} {B : Nat} {v v' : Value} {es : List Ent}
theorem Pack.nil (w : World) (B : Nat) : Pack w B (.slice none 0 0) [] := ⟨Own.nil _ _ _ _ _, fun e he => by cases he⟩
theorem Pack.below (h : Pack w B v es) (hb : Below w.heap.size w w') : Pack w' B v es :=
  ⟨h.own.below hb, fun e he => by
    obtain ⟨h1, h2, b, off, h3, h4, h5⟩ := h.all e he
    exact ⟨h1.below hb, h2, b, off, h3, Nat.lt_of_lt_of_le h4 hb.size, h5⟩⟩
theorem Pack.push (h : Pack w B v es) {e : Ent} (hown : Own w' B 25 4 Ent.enc v' (es ++ [e])) (hg : w.grownBy w' v.ownBlock) (hat : v'.ownBlock = v.ownBlock ∨ v'.ownBlock = some w.heap.size)
    (h1 : Rd w 3 lineEnc e.A e.n e.lines) (h2 : e.n ≤ 20) {b off : Nat} (h3 : e.A = some ⟨b, off, none⟩) (h4 : b < w.heap.size) (h5 : v.ownBlock ≠ some b) : Pack w' B v' (es ++ [e]) := by
  refine ⟨hown, fun x hx => ?_⟩
  have key : ∀ x : Ent, (Rd w 3 lineEnc x.A x.n x.lines ∧ x.n ≤ 20 ∧ ∃ b off, x.A = some ⟨b, off, none⟩ ∧ b < w.heap.size ∧ v.ownBlock ≠ some b) → Rd w' 3 lineEnc x.A x.n x.lines ∧ x.n ≤ 20 ∧ ∃ b off, x.A = some ⟨b, off, none⟩ ∧ b < w'.heap.size ∧ v'.ownBlock ≠ some b := by
    rintro x ⟨h1, h2, b, off, h3, h4, h5⟩
    refine ⟨h1.grownA hg fun b2 o2 s e => ?_, h2, b, off, h3, Nat.lt_of_lt_of_le h4 hg.size, ?_⟩
    · rw [h3] at e
      injection e with e
      injection e with e1
      subst e1
      exact fun e => h5 e.symm
    · rcases hat with e | e
      · rw [e]; exact h5
      · rw [e]; intro e2; injection e2 with e2; omega
  rcases List.mem_append.1 hx with hx | hx
  · exact key x (h.all x hx)
  · have : x = e := by simpa using hx
    subst this
    exact key x ⟨h1, h2, b, off, h3, h4, h5⟩
end
theorem cores_len {es : List Ent} {l : List Core} (h : es.map Ent.core = l) : es.length = l.length := by rw [← h, List.length_map]
end Go.Proofs.YthmjkhlndphldaaGreatDoor
