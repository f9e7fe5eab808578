/- entry.Compare: what it returns. -/
import Derived.Test.YtjojjicpdfmopaaGreatDoorLine
import Derived.Test.YtjojjicpdfmopaaGreatDoorOwn
import Derived.Deep.QuietTactic
import Derived.BigQuiet
import Derived.StillTailTactics
import Derived.Sort.Grow
import Derived.Outline
namespace Go.Proofs.YtjojjicpdfmopaaGreatDoor
open Go Go.RowKit
set_option linter.unusedVariables false

def lineEnc (x : Line) : List Value := [.string x.acc, .string x.cur, .int .i64 x.amt]
theorem lineEnc_ok : Enc 3 lineEnc := ⟨fun _ => rfl, fun _ u hu => by simp [lineEnc] at hu; rcases hu with rfl | rfl | rfl <;> rfl⟩

/-- Go's three-way order of texts -/
def cmpB (a b : ByteArray) : Int := if lessB a b = true then -1 else if lessB b a = true then 1 else 0
theorem cmpB_m {a b : ByteArray} (h : lessB a b = true) : cmpB a b = -1 := by rw [cmpB, if_pos h]
theorem cmpB_p {a b : ByteArray} (h : lessB b a = true) : cmpB a b = 1 := by rw [cmpB, if_neg (by rw [lessB_asymm h]; decide), if_pos h]
theorem cmpB_z (a : ByteArray) : cmpB a a = 0 := by rw [cmpB, if_neg (by rw [lessB_irrefl]; decide), if_neg (by rw [lessB_irrefl]; decide)]

theorem isNaN_str (a : ByteArray) (w : World) : Calls Tryz.prog 82 #[.string a] w fun e w' => e = .returned (.bool false) ∧ w' = w := by
  have h : (a.toList == a.toList) = true := by simp
  go_enter Tryz.func82, Tryz.ntmps82
  go_wp2_with fail
  go_ret
  exact ⟨by simp, rfl⟩
theorem compare_str (a b : ByteArray) (w : World) : Calls Tryz.prog 70 #[.string a, .string b] w fun e w' => e = .returned (.int .i64 (cmpB a b)) ∧ w' = w := by
  cases h1 : lessB a b with
  | true =>
    have H := hide (cmpB_m h1)
    have h2 : Op.bytesLess a.toList b.toList = true := h1
    clear h1
    go_enter Tryz.func70, Tryz.ntmps70
    go_wp2_with (go_at_call 82; refine (isNaN_str _ _).mono ?_; rintro e w1 ⟨rfl, rfl⟩)
    go_ret
    exact ⟨by rw [H.out]; rfl, rfl⟩
  | false =>
    cases h2 : lessB b a with
    | true =>
      have H := hide (cmpB_p h2)
      have k1 : Op.bytesLess a.toList b.toList = false := h1
      have k2 : (a.toList == b.toList) = false := by
        rw [beq_toList]
        refine decide_eq_false fun e => ?_
        subst e
        rw [lessB_irrefl] at h2; cases h2
      clear h1 h2
      go_enter Tryz.func70, Tryz.ntmps70
      go_wp2_with (go_at_call 82; refine (isNaN_str _ _).mono ?_; rintro e w1 ⟨rfl, rfl⟩)
      go_ret
      exact ⟨by rw [H.out]; rfl, rfl⟩
    | false =>
      obtain rfl := lessB_tri h1 h2
      have H := hide (cmpB_z a)
      have k1 : Op.bytesLess a.toList a.toList = false := h1
      have k2 : (a.toList == a.toList) = true := by simp
      clear h1 h2
      go_enter Tryz.func70, Tryz.ntmps70
      go_wp2_with (go_at_call 82; refine (isNaN_str _ _).mono ?_; rintro e w1 ⟨rfl, rfl⟩)
      go_ret
      exact ⟨by rw [H.out]; rfl, rfl⟩

def orV (x y : Int) : Int := if x = 0 then y else x
/-- cmp.Or of two numbers -/
theorem or_two (x y : Int) (g cap : Nat) (w : World) (h0 : w.cell? ⟨g, 0, none⟩ = some (.int .i64 x)) (h1 : w.cell? ⟨g, 1, none⟩ = some (.int .i64 y)) :
    Calls Tryz.prog 68 #[.slice (some ⟨g, 0, none⟩) 2 cap] w fun e w' => e = .returned (.int .i64 (orV x y)) ∧ w' = w := by
  go_enter Tryz.func68, Tryz.ntmps68
  go_wp2_with fail
  go_loop [8] (fun i => ∃ k : Nat, k ≤ 2 ∧ i = .int .i64 k ∧ Hid (1 ≤ k → x = 0) ∧ Hid (2 ≤ k → y = 0)) (fun i => 2 - (intOf i).toNat)
  case atStart => exact ⟨0, by omega, rfl, fun h => absurd h (by omega), fun h => absurd h (by omega)⟩
  case round =>
    obtain ⟨k, hk, rfl, hx, hy⟩ := hrel
    by_cases k0 : k = 0
    · subst k0
      cases hz : x == 0 with
      | true =>
        have hz2 : (x != 0) = false := by rw [bne, hz]; rfl
        have HX : Hid (x = 0) := by show x = 0; simpa using hz
        go_wp2_with fail
        go_round
        case rel => exact ⟨1, by omega, rfl, fun _ => HX.out, fun h => absurd h (by omega)⟩
        case measure => simp [intOf]
      | false =>
        have hz2 : (x != 0) = true := by rw [bne, hz]; rfl
        have HX : Hid (¬ x = 0) := by show ¬ x = 0; simpa using hz
        go_wp2_with fail
        go_ret
        exact ⟨ret_int (by rw [orV, if_neg HX.out]), rfl⟩
    · by_cases k1 : k = 1
      · subst k1
        have HX := hide (hx.out (by omega))
        clear k0 hx hy
        cases hz : y == 0 with
        | true =>
          have hz2 : (y != 0) = false := by rw [bne, hz]; rfl
          have HY : Hid (y = 0) := by show y = 0; simpa using hz
          go_wp2_with fail
          go_round
          case rel => exact ⟨2, by omega, rfl, fun _ => HX.out, fun _ => HY.out⟩
          case measure => simp [intOf]
        | false =>
          have hz2 : (y != 0) = true := by rw [bne, hz]; rfl
          go_wp2_with fail
          go_ret
          exact ⟨ret_int (by rw [orV, if_pos HX.out]), rfl⟩
      · have k2 : k = 2 := by omega
        subst k2
        have HX := hide (hx.out (by omega))
        have HY := hide (hy.out (by omega))
        clear k0 k1 hx hy
        go_wp2_with fail
        go_ret
        exact ⟨ret_int (by rw [orV, if_pos HX.out, HY.out]), rfl⟩

/-- the order of lines: by account, then by currency -/
def cmpL (x y : Line) : Int := orV (cmpB x.acc y.acc) (cmpB x.cur y.cur)
theorem cmpB_lt (a b : ByteArray) : decide (cmpB a b < 0) = lessB a b := by
  unfold cmpB
  cases h : lessB a b
  · cases h2 : lessB b a <;> simp
  · simp
theorem cmpB_0 {a b : ByteArray} : cmpB a b = 0 ↔ a = b := by
  constructor
  · intro h
    cases h1 : lessB a b with
    | true => rw [cmpB_m h1] at h; cases h
    | false =>
      cases h2 : lessB b a with
      | true => rw [cmpB_p h2] at h; cases h
      | false => exact lessB_tri h1 h2
  · rintro rfl; exact cmpB_z a
theorem cmpL_lt (x y : Line) : decide (cmpL x y < 0) = Key.lt x.key y.key := by
  unfold cmpL orV
  by_cases h : cmpB x.acc y.acc = 0
  · rw [if_pos h, cmpB_lt]
    have e := cmpB_0.1 h
    simp [Key.lt, Line.key, e, lessB_irrefl]
  · rw [if_neg h, cmpB_lt]
    have e : ¬ x.acc = y.acc := fun e => h (cmpB_0.2 e)
    simp [Key.lt, Line.key, e]
theorem cmpL_0 (x y : Line) : cmpL x y = 0 ↔ x.key = y.key := by
  unfold cmpL orV
  by_cases h : cmpB x.acc y.acc = 0
  · rw [if_pos h, cmpB_0]
    have e := cmpB_0.1 h
    simp [Line.key, e]
  · rw [if_neg h]
    have e : ¬ x.acc = y.acc := fun e => h (cmpB_0.2 e)
    simp [Line.key, e, h]
end Go.Proofs.YtjojjicpdfmopaaGreatDoor
