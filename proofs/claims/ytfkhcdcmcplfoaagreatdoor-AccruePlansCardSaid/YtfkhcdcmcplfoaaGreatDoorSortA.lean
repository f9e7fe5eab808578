/- entry.Compare: what it returns. -/
import Derived.Test.YtfkhcdcmcplfoaaGreatDoorLine
import Derived.Test.YtfkhcdcmcplfoaaGreatDoorOwn
import Derived.Deep.QuietTactic
import Derived.BigQuiet
import Derived.StillTailTactics
import Derived.Sort.Grow
import Derived.Outline
namespace Go.Proofs.YtfkhcdcmcplfoaaGreatDoor
open Go Go.RowKit
set_option linter.unusedVariables false

def lineEnc (x : Line) : List Value := [.string x.acc, .string x.cur, .int .i64 x.amt]
theorem lineEnc_ok : Enc 3 lineEnc := ⟨fun _ => rfl, fun _ u hu => by simp [lineEnc] at hu; rcases hu with rfl | rfl | rfl <;> rfl⟩

/-- Go's three-way order of texts -/
def cmpB (a b : ByteArray) : Int := if lessB a b = true then -1 else if lessB b a = true then 1 else 0
theorem cmpB_m {a b : ByteArray} (h : lessB a b = true) : cmpB a b = -1 := by rw [cmpB, if_pos h]
theorem cmpB_p {a b : ByteArray} (h : lessB b a = true) : cmpB a b = 1 := by rw [cmpB, if_neg (by rw [lessB_asymm h]; decide), if_pos h]
theorem cmpB_z (a : ByteArray) : cmpB a a = 0 := by rw [cmpB, if_neg (by rw [lessB_irrefl]; decide), if_neg (by rw [lessB_irrefl]; decide)]

def orV (x y : Int) : Int := if x = 0 then y else x
/-- the order of lines: by account, then by currency -/
def cmpL (x y : Line) : Int := orV (cmpB x.acc y.acc) (cmpB x.cur y.cur)
theorem cmpB_lt (a b : ByteArray) : decide (cmpB a b < 0) = lessB a b := by
  unfold cmpB
  cases h : lessB a b
  · cases h2 : lessB b a <;> simp
  · simp
theorem cmpB_0 {a b : ByteArray} : cmpB a b = 0 ↔ a = b := by
  constructor
  · intro h
    cases h1 : lessB a b with
    | true => rw [cmpB_m h1] at h; cases h
    | false =>
      cases h2 : lessB b a with
      | true => rw [cmpB_p h2] at h; cases h
      | false => exact lessB_tri h1 h2
  · rintro rfl; exact cmpB_z a
theorem cmpL_lt (x y : Line) : decide (cmpL x y < 0) = Key.lt x.key y.key := by
  unfold cmpL orV
  by_cases h : cmpB x.acc y.acc = 0
  · rw [if_pos h, cmpB_lt]
    have e := cmpB_0.1 h
    simp [Key.lt, Line.key, e, lessB_irrefl]
  · rw [if_neg h, cmpB_lt]
    have e : ¬ x.acc = y.acc := fun e => h (cmpB_0.2 e)
    simp [Key.lt, Line.key, e]
theorem cmpL_0 (x y : Line) : cmpL x y = 0 ↔ x.key = y.key := by
  unfold cmpL orV
  by_cases h : cmpB x.acc y.acc = 0
  · rw [if_pos h, cmpB_0]
    have e := cmpB_0.1 h
    simp [Line.key, e]
  · rw [if_neg h]
    have e : ¬ x.acc = y.acc := fun e => h (cmpB_0.2 e)
    simp [Line.key, e, h]
end Go.Proofs.YtfkhcdcmcplfoaaGreatDoor
