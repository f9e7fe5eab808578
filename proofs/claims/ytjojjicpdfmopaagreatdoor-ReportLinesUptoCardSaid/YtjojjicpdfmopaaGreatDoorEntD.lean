/- What an entry is made of: Ref, Cur, Entity, Period, Amount of the program. -/
import Derived.Test.YtjojjicpdfmopaaGreatDoorLine
import Derived.Test.YtjojjicpdfmopaaGreatDoorChartX
namespace Go.Proofs.YtjojjicpdfmopaaGreatDoor
open Go Go.RowKit
set_option linter.unusedVariables false

def refSet : ByteArray := ⟨#[97, 98, 99, 100, 101, 102, 103, 104, 105, 106, 107, 108, 109, 110, 111, 112, 113, 114, 115, 116, 117, 118, 119, 120, 121, 122, 48, 49, 50, 51, 52, 53, 54, 55, 56, 57, 45]⟩
/-- does it begin with byte 45? -/
def dashB (s : ByteArray) : Bool := match s.data.toList.head? with | some c => c == 45 | none => false
/-- a text that is a Ref -/
def refB (s : ByteArray) : Bool := !s.toList.isEmpty && decide ((s.size : Int) ≤ 12) && !dashB s && allIn s refSet
/-- a text that is a currency -/
def curB (s : ByteArray) : Bool := decide ((s.size : Int) = 3) && allIn s uppers

theorem dash_get (s : ByteArray) (h : 0 < s.size) : dashB s = (s[0] == 45) := by
  unfold dashB
  have hl : 0 < s.data.toList.length := by simpa using h
  rw [List.head?_eq_getElem?, List.getElem?_eq_getElem hl]
  rfl

/-- is a number from a to b? -/
def inB (a b n : Int) : Bool := decide (a ≤ n) && decide (n ≤ b)
theorem entity_any (n : Int) (w : World) : Calls Tryz.prog 19 #[.int .i64 n] w fun e w' => e = .returned (.bool (inB 1 12 n)) ∧ w = w' := by
  unfold inB
  by_cases h1 : 1 ≤ n
  · go_enter Tryz.func19, Tryz.ntmps19
    go_wp2_with fail
    go_ret
    exact ⟨by simp [h1], rfl⟩
  · have h1' : n < 1 := by omega
    have h1d : decide (1 ≤ n) = false := by simpa using h1
    clear h1
    go_enter Tryz.func19, Tryz.ntmps19
    go_wp2_with fail
    go_ret
    exact ⟨by simp [h1d], rfl⟩
/-- the place of the first line of which p is so, or -1 -/
def idxP (l : List Line) (p : Line → Bool) : Int := match l.findIdx? p with | some k => k | none => -1
def NoneP (l : List Line) (p : Line → Bool) (k : Nat) : Prop := ∀ (j : Nat) (h : j < l.length), j < k → p l[j] = false
theorem NoneP.zero (l : List Line) (p : Line → Bool) : NoneP l p 0 := fun _ _ h => absurd h (by omega)
theorem NoneP.succ {l : List Line} {p : Line → Bool} {k : Nat} (h : NoneP l p k) (hk : k < l.length) (hc : p l[k] = false) : NoneP l p (k + 1) := by
  intro j hj hjk
  by_cases e : j = k
  · subst e; exact hc
  · exact h j hj (by omega)
theorem NoneP.hit {l : List Line} {p : Line → Bool} {k : Nat} (h : NoneP l p k) (hk : k < l.length) (hc : p l[k] = true) : idxP l p = k := by
  have : l.findIdx? p = some k := by
    rw [List.findIdx?_eq_some_iff_getElem]
    exact ⟨hk, hc, fun j hj => by rw [h j (by omega) hj]; decide⟩
  simp [idxP, this]
theorem NoneP.miss {l : List Line} {p : Line → Bool} {k : Nat} (h : NoneP l p k) (hk : l.length ≤ k) : idxP l p = -1 := by
  have : l.findIdx? p = none := by
    rw [List.findIdx?_eq_none_iff]
    intro x hx
    obtain ⟨j, hj, rfl⟩ := List.getElem_of_mem hx
    exact h j hj (by omega)
  simp [idxP, this]
theorem idxP_any (l : List Line) (p : Line → Bool) : decide (0 ≤ idxP l p) = l.any p := by
  unfold idxP
  cases h : l.findIdx? p with
  | none =>
    rw [List.findIdx?_eq_none_iff] at h
    have : l.any p = false := by rw [List.any_eq_false]; intro x hx; rw [h x hx]; decide
    rw [this]; rfl
  | some k =>
    obtain ⟨hk, hc, _⟩ := List.findIdx?_eq_some_iff_getElem.1 h
    have : l.any p = true := List.any_eq_true.2 ⟨_, List.getElem_mem hk, hc⟩
    rw [this]; simp

/-- what is asked of a function of lines: it says p, and turns nothing -/
def Asks (K : Nat) (p : Line → Bool) : Prop := ∀ (x : Line) (w : World), Calls Tryz.prog K #[.agg #[.string x.acc, .string x.cur, .int .i64 x.amt]] w fun e w' => e = .returned (.bool (p x)) ∧ Below w.heap.size w w'

end Go.Proofs.YtjojjicpdfmopaaGreatDoor
