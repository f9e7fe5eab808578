/- Plain facts of what is of the base: the balances of one currency, and what they are worth. -/
import Derived.Test.YtmaaehajficnhaaGreatDoorBalP
namespace Go.Proofs.YtmaaehajficnhaaGreatDoor
set_option linter.unusedVariables false

def eur : ByteArray := ⟨#[69, 85, 82]⟩
def isEur (x : Bal) : Bool := x.cur.toList == eur.toList
/-- of the first k balances those of the base -/
def eurTo (b : List Bal) (k : Nat) : List Bal := (b.take k).filter isEur
theorem eurTo_yes {b : List Bal} {k : Nat} (hk : k < b.length) (h : isEur b[k] = true) : eurTo b (k + 1) = eurTo b k ++ [b[k]] := by
  unfold eurTo
  rw [List.take_succ_eq_append_getElem hk, List.filter_append, List.filter_cons, if_pos h]
  rfl
theorem eurTo_no {b : List Bal} {k : Nat} (hk : k < b.length) (h : isEur b[k] = false) : eurTo b (k + 1) = eurTo b k := by
  unfold eurTo
  rw [List.take_succ_eq_append_getElem hk, List.filter_append, List.filter_cons, if_neg (by rw [h]; decide)]
  simp
theorem eurTo_len (b : List Bal) (k : Nat) : (eurTo b k).length ≤ k := by
  unfold eurTo
  exact Nat.le_trans (List.length_filter_le _ _) (by rw [List.length_take]; omega)
/-- all are of the base -/
def Eurs (S : List Bal) : Prop := ∀ (k : Nat) (hk : k < S.length), S[k].cur = eur
theorem eurTo_mem {b : List Bal} {k : Nat} {x : Bal} (hx : x ∈ eurTo b k) : x.cur = eur := by
  unfold eurTo at hx
  have h := (List.mem_filter.1 hx).2
  unfold isEur at h
  have h2 := eq_of_beq h
  rw [ByteArray.toList_eq, ByteArray.toList_eq] at h2
  cases hc : x.cur with
  | mk d =>
    rw [hc] at h2
    have : d = eur.data := Array.ext' h2
    rw [this]
theorem eurs_of (b : List Bal) (k : Nat) : Eurs (eurTo b k) := fun _ hj => eurTo_mem (List.getElem_mem hj)
theorem eurTo_ok {b : List Bal} (h : BalsOk b) (k : Nat) : BalsOk (eurTo b k) := by
  intro x hx
  unfold eurTo at hx
  exact h x (List.mem_of_mem_take (List.mem_filter.1 hx).1)
/-- what one is worth to an entity -/
def worthOf (ent : Int) (x : Bal) : Int := if x.ent = ent then x.amt else 0
def worthTo (ent : Int) (S : List Bal) (k : Nat) : List Int := (S.take k).map (worthOf ent)
theorem worthTo_succ {ent : Int} {S : List Bal} {k : Nat} (hk : k < S.length) : worthTo ent S (k + 1) = worthTo ent S k ++ [worthOf ent S[k]] := by
  unfold worthTo
  rw [List.take_succ_eq_append_getElem hk, List.map_append]
  rfl
theorem worthTo_len (ent : Int) (S : List Bal) (k : Nat) (hk : k ≤ S.length) : (worthTo ent S k).length = k := by
  unfold worthTo
  rw [List.length_map, List.length_take]
  omega
theorem worthTo_at {ent : Int} {S : List Bal} {k : Nat} (hk : k < (worthTo ent S S.length).length) (hk2 : k < S.length) : (worthTo ent S S.length)[k] = worthOf ent S[k] := by
  simp [worthTo]
/-- the fault of a valuation at no rates -/
def atE (ent per : Int) : Int := if inB 1 12 ent = true ∧ inB 1 120 per = true then 0 else 1
def worthE (S : List Bal) (ent per : Int) : Int := if balsE S ≠ 0 then balsE S else atE ent per
theorem worthE_1 {S : List Bal} {ent per : Int} (h : balsE S ≠ 0) : worthE S ent per = balsE S := if_pos h
theorem worthE_2 {S : List Bal} {ent per : Int} (h : balsE S = 0) : worthE S ent per = atE ent per := if_neg (by simpa using h)
end Go.Proofs.YtmaaehajficnhaaGreatDoor
