/- package dayref1: digits, Account, Chart: what each returns. -/
import Derived.Test.YtmpnbkjcpgnifaaGreatDoorChartP
import Derived.Deep.QuietTactic
import Derived.BigQuiet
import Derived.IntWalk
import Derived.Deep.RegionHeld3
import Derived.Test.YtmpnbkjcpgnifaaGreatDoorChartX
namespace Go.Proofs.YtmpnbkjcpgnifaaGreatDoor
open Go Go.RowKit
set_option linter.unusedVariables false

theorem all_bytes {p : UInt8 → Bool} (h : ∀ n, n < 256 → p (UInt8.ofNat n) = true) (b : UInt8) : p b = true := by
  have := h b.toNat (UInt8.toNat_lt b)
  rwa [UInt8.ofNat_toNat] at this
theorem decs_byte (b : UInt8) : decs.data.toList.contains b = decide (48 ≤ b.toNat ∧ b.toNat ≤ 57) := by
  have := all_bytes (p := fun b => decs.data.toList.contains b == decide (48 ≤ b.toNat ∧ b.toNat ≤ 57)) (by decide +kernel) b
  simpa using this
theorem name_byte (b : UInt8) : nameSet.data.toList.contains b = decide (b.toNat = 45 ∨ (48 ≤ b.toNat ∧ b.toNat ≤ 57) ∨ (65 ≤ b.toNat ∧ b.toNat ≤ 90) ∨ (97 ≤ b.toNat ∧ b.toNat ≤ 122)) := by
  have := all_bytes (p := fun b => nameSet.data.toList.contains b == decide (b.toNat = 45 ∨ (48 ≤ b.toNat ∧ b.toNat ≤ 57) ∨ (65 ≤ b.toNat ∧ b.toNat ≤ 90) ∨ (97 ≤ b.toNat ∧ b.toNat ≤ 122))) (by decide +kernel) b
  simpa using this

/-- each byte ahead of k is one of cs -/
def InTo (s cs : ByteArray) (k : Nat) : Prop := ∀ (j : Nat) (h : j < s.size), j < k → cs.data.toList.contains s[j] = true
theorem InTo.zero (s cs : ByteArray) : InTo s cs 0 := fun _ _ h => absurd h (by omega)
theorem InTo.succ {s cs : ByteArray} {k : Nat} (h : InTo s cs k) (hk : k < s.size) (hc : cs.data.toList.contains s[k] = true) : InTo s cs (k + 1) := by
  intro j hj hjk
  by_cases e : j = k
  · subst e; exact hc
  · exact h j hj (by omega)
theorem InTo.all {s cs : ByteArray} {k : Nat} (h : InTo s cs k) (hk : s.size ≤ k) : allIn s cs = true := by
  unfold allIn
  rw [List.all_eq_true]
  intro x hx
  obtain ⟨j, hj, rfl⟩ := List.getElem_of_mem hx
  have hj' : j < s.size := by simpa using hj
  exact h j hj' (by omega)
theorem InTo.not {s cs : ByteArray} {k : Nat} (hk : k < s.size) (hc : cs.data.toList.contains s[k] = false) : allIn s cs = false := by
  unfold allIn
  rw [List.all_eq_false]
  refine ⟨s[k], ?_, by rw [hc]; decide⟩
  exact List.getElem_mem (l := s.data.toList) (n := k) (by simpa using hk)

end Go.Proofs.YtmpnbkjcpgnifaaGreatDoor

namespace Go.Proofs.YtmpnbkjcpgnifaaGreatDoor
open Go Go.RowKit
set_option linter.unusedVariables false

/-- what is wrong behind code and name -/
def accR (f : List Acc) (a : Acc) : Int :=
  if a.kind < 1 then 1 else
  if 5 < a.kind then 1 else
  if ordOk f a = false then 5 else
  if a.parent.toList.isEmpty = true then 0 else
  match idxO f a.parent with
  | none => 6
  | some k => if (f[k]?.map (·.kind)) = some a.kind then 0 else 12
theorem accF_R {f : List Acc} {a : Acc} (h1 : digitsB a.code 6 = true) (h2 : nameB a.name = true) : accF f a = accR f a := by
  unfold accF accR
  rw [if_neg (by simp [h1]), if_neg (by simp [h2])]
  rfl
theorem accR_k1 {f : List Acc} {a : Acc} (h : a.kind < 1) : accR f a = 1 := by unfold accR; rw [if_pos h]
theorem accR_k5 {f : List Acc} {a : Acc} (h0 : 1 ≤ a.kind) (h : 5 < a.kind) : accR f a = 1 := by unfold accR; rw [if_neg (by omega), if_pos h]
theorem accR_o {f : List Acc} {a : Acc} (h0 : 1 ≤ a.kind) (h1 : a.kind ≤ 5) (h : ordOk f a = false) : accR f a = 5 := by unfold accR; rw [if_neg (by omega), if_neg (by omega), if_pos h]
theorem accR_p {f : List Acc} {a : Acc} (h0 : 1 ≤ a.kind) (h1 : a.kind ≤ 5) (h : ordOk f a = true) (hp : a.parent.toList.isEmpty = true) : accR f a = 0 := by
  unfold accR; rw [if_neg (by omega), if_neg (by omega), if_neg (by simp [h]), if_pos hp]
theorem accR_n {f : List Acc} {a : Acc} (h0 : 1 ≤ a.kind) (h1 : a.kind ≤ 5) (h : ordOk f a = true) (hp : a.parent.toList.isEmpty = false) (hx : idxO f a.parent = none) : accR f a = 6 := by
  unfold accR; rw [if_neg (by omega), if_neg (by omega), if_neg (by simp [h]), if_neg (by simp [hp]), hx]
theorem accR_s {f : List Acc} {a : Acc} {k : Nat} (h0 : 1 ≤ a.kind) (h1 : a.kind ≤ 5) (h : ordOk f a = true) (hp : a.parent.toList.isEmpty = false) (hx : idxO f a.parent = some k) : accR f a = if (f[k]?.map (·.kind)) = some a.kind then 0 else 12 := by
  unfold accR; rw [if_neg (by omega), if_neg (by omega), if_neg (by simp [h]), if_neg (by simp [hp]), hx]
theorem ord_p {l : List Acc} {i : Nat} (h0 : 0 < i) (h : i < l.length) : ordOk (l.take i) l[i] = Op.bytesLess (l[i-1]'(by omega)).code.toList l[i].code.toList := by unfold ordOk; rw [take_last h0 h]
theorem ord_z {l : List Acc} {i : Nat} (h0 : i = 0) (h : i < l.length) : ordOk (l.take i) l[i] = true := by unfold ordOk; rw [show (l.take i).getLast? = none from by rw [h0]; rfl]
end Go.Proofs.YtmpnbkjcpgnifaaGreatDoor

namespace Go.Proofs.YtmpnbkjcpgnifaaGreatDoor
open Go Go.RowKit
set_option linter.unusedVariables false

end Go.Proofs.YtmpnbkjcpgnifaaGreatDoor
