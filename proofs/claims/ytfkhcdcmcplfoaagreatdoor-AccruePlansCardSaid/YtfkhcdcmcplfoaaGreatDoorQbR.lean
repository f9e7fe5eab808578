/- Numbers of 32-bit words: a number by one word (plain). -/
import Derived.Test.YtfkhcdcmcplfoaaGreatDoorQbP
namespace Go.Proofs.YtfkhcdcmcplfoaaGreatDoor
set_option linter.unusedVariables false

/-- words by one word, with what is carried -/
def mulL : List Nat → Nat → Nat → List Nat
  | [], _, c => [c]
  | x :: a, d, c => (x * d + c) % 4294967296 :: mulL a d ((x * d + c) / 4294967296)
theorem mulL_val : ∀ (a : List Nat) (d c : Nat), qval (mulL a d c) = qval a * d + c
  | [], d, c => by simp [mulL, qval]
  | x :: a, d, c => by
    rw [mulL, qval, qval, mulL_val a d]
    have := Nat.mod_add_div (x * d + c) 4294967296
    rw [Nat.add_mul, Nat.mul_assoc, Nat.mul_add]
    omega
theorem carry_lt {x d c : Nat} (hx : x < 4294967296) (hd : d < 4294967296) (hc : c < 4294967296) : x * d + c < 18446744073709551616 ∧ (x * d + c) / 4294967296 < 4294967296 := by
  have h : x * d ≤ 4294967295 * 4294967295 := Nat.mul_le_mul (by omega) (by omega)
  constructor
  · omega
  · omega
theorem mulL_dig : ∀ (a : List Nat) (d c : Nat), QDig a → d < 4294967296 → c < 4294967296 → QDig (mulL a d c)
  | [], d, c, _, _, hc => by intro y hy; simp [mulL] at hy; omega
  | x :: a, d, c, ha, hd, hc => by
    intro y hy
    rw [mulL] at hy
    rcases List.mem_cons.1 hy with rfl | hy
    · exact Nat.mod_lt _ (by decide)
    · exact mulL_dig a d _ ha.tail hd (carry_lt (ha x (by simp)) hd hc).2 y hy
theorem mulL_len : ∀ (a : List Nat) (d c : Nat), (mulL a d c).length = a.length + 1
  | [], d, c => rfl
  | x :: a, d, c => by rw [mulL, List.length_cons, mulL_len a d, List.length_cons]
def MulAt (a : List Nat) (d i cr : Nat) (pre : List Nat) : Prop := mulL a d 0 = pre ++ mulL (a.drop i) d cr ∧ pre.length = i ∧ cr < 4294967296
theorem MulAt.zero (a : List Nat) (d : Nat) : MulAt a d 0 0 [] := ⟨rfl, rfl, by omega⟩
theorem MulAt.succ {a pre : List Nat} {d i cr : Nat} (h : MulAt a d i cr pre) (ha : QDig a) (hd : d < 4294967296) (hi : i < a.length) :
    MulAt a d (i + 1) ((a[i] * d + cr) / 4294967296) (pre ++ [(a[i] * d + cr) % 4294967296]) := by
  obtain ⟨h1, h2, h3⟩ := h
  refine ⟨?_, by simp [h2], (carry_lt (ha _ (List.getElem_mem hi)) hd h3).2⟩
  rw [h1, List.drop_eq_getElem_cons hi, mulL]
  simp
theorem MulAt.end {a pre : List Nat} {d cr : Nat} (h : MulAt a d a.length cr pre) : mulL a d 0 = pre ++ [cr] := by
  rw [h.1, List.drop_length]
  rfl
end Go.Proofs.YtfkhcdcmcplfoaaGreatDoor
