/- dayref1.Account, walked. -/
import Derived.Test.YtkeapacfmeblgaaGreatDoorRefA
import Derived.Deep.QuietTactic
import Derived.BigQuiet
import Derived.IntWalk
import Derived.Deep.RegionHeld3
namespace Go.Proofs.YtkeapacfmeblgaaGreatDoor
open Go Go.RowKit
set_option linter.unusedVariables false

/-- what is wrong behind code and name -/
def accR (f : List Acc) (a : Acc) : Int :=
  if a.kind < 1 then 1 else
  if 5 < a.kind then 1 else
  if ordOk f a = false then 5 else
  if a.parent.toList.isEmpty = true then 0 else
  match idxO f a.parent with
  | none => 6
  | some k => if (f[k]?.map (·.kind)) = some a.kind then 0 else 12
theorem accF_R {f : List Acc} {a : Acc} (h1 : digitsB a.code 6 = true) (h2 : nameB a.name = true) : accF f a = accR f a := by
  unfold accF accR
  rw [if_neg (by simp [h1]), if_neg (by simp [h2])]
  rfl
theorem accR_k1 {f : List Acc} {a : Acc} (h : a.kind < 1) : accR f a = 1 := by unfold accR; rw [if_pos h]
theorem accR_k5 {f : List Acc} {a : Acc} (h0 : 1 ≤ a.kind) (h : 5 < a.kind) : accR f a = 1 := by unfold accR; rw [if_neg (by omega), if_pos h]
theorem accR_o {f : List Acc} {a : Acc} (h0 : 1 ≤ a.kind) (h1 : a.kind ≤ 5) (h : ordOk f a = false) : accR f a = 5 := by unfold accR; rw [if_neg (by omega), if_neg (by omega), if_pos h]
theorem accR_p {f : List Acc} {a : Acc} (h0 : 1 ≤ a.kind) (h1 : a.kind ≤ 5) (h : ordOk f a = true) (hp : a.parent.toList.isEmpty = true) : accR f a = 0 := by
  unfold accR; rw [if_neg (by omega), if_neg (by omega), if_neg (by simp [h]), if_pos hp]
theorem accR_n {f : List Acc} {a : Acc} (h0 : 1 ≤ a.kind) (h1 : a.kind ≤ 5) (h : ordOk f a = true) (hp : a.parent.toList.isEmpty = false) (hx : idxO f a.parent = none) : accR f a = 6 := by
  unfold accR; rw [if_neg (by omega), if_neg (by omega), if_neg (by simp [h]), if_neg (by simp [hp]), hx]
theorem accR_s {f : List Acc} {a : Acc} {k : Nat} (h0 : 1 ≤ a.kind) (h1 : a.kind ≤ 5) (h : ordOk f a = true) (hp : a.parent.toList.isEmpty = false) (hx : idxO f a.parent = some k) : accR f a = if (f[k]?.map (·.kind)) = some a.kind then 0 else 12 := by
  unfold accR; rw [if_neg (by omega), if_neg (by omega), if_neg (by simp [h]), if_neg (by simp [hp]), hx]
theorem ord_p {l : List Acc} {i : Nat} (h0 : 0 < i) (h : i < l.length) : ordOk (l.take i) l[i] = Op.bytesLess (l[i-1]'(by omega)).code.toList l[i].code.toList := by unfold ordOk; rw [take_last h0 h]
theorem ord_z {l : List Acc} {i : Nat} (h0 : i = 0) (h : i < l.length) : ordOk (l.take i) l[i] = true := by unfold ordOk; rw [show (l.take i).getLast? = none from by rw [h0]; rfl]
end Go.Proofs.YtkeapacfmeblgaaGreatDoor
