/- dayref1.Sum, dayref1.Roll, daysame.Ints: what each returns. -/
import Derived.Test.YtggmbjdonlbfkaaGreatDoorBesafterRoll
namespace Go.Proofs.YtggmbjdonlbfkaaGreatDoorBesafter
open Go Go.RowKit
set_option linter.unusedVariables false

theorem ints_same (l : List Int) (A M : Option Addr) (n c mc : Nat) (w : World) (ha : Rd w 1 intEnc2 A n l) (hm : Rd w 1 intEnc2 M n l) (hn : n ≤ 9223372036854775807) :
    Calls Tryz.prog 7 #[.slice A n c, .slice M n mc] w fun e w' => e = .returned (.bool true) ∧ Below w.heap.size w w' := by
  have Hn := hide ha.1
  go_enter Tryz.func7, Tryz.ntmps7
  go_wp2_with fail
  go_loopw [5] (fun iv wr => ∃ k : Nat, k ≤ n ∧ iv = .int .i64 k ∧ Below w.heap.size w wr) (fun iv _ => n - (intOf iv).toNat)
  case atStart => exact ⟨0, by omega, rfl, Below.refl _ _⟩
  case round =>
    obtain ⟨k, hk, rfl, hbr⟩ := hrel
    by_cases hlt : k < n
    · have hkl : k < l.length := by have := Hn.out; omega
      obtain ⟨b, off, rfl, hcs⟩ := (Rd.below ha hbr).2 (by omega)
      have q0 := hcs k 0 _ hkl rfl
      rw [Nat.mul_one, Nat.add_zero] at q0
      obtain ⟨b', off', rfl, hcs'⟩ := (Rd.below hm hbr).2 (by omega)
      have q1 := hcs' k 0 _ hkl rfl
      rw [Nat.mul_one, Nat.add_zero] at q1
      clear hcs hcs'
      have k0 : (0 : Int) ≤ (k : Int) := by omega
      have k1 : (k : Int) < (n : Int) := by omega
      go_wp2_with fail
      go_quiet (fail)
      go_wp2_with fail
      go_roundw
      case rel => exact ⟨k + 1, by omega, by go_num, bdrewN hbr _⟩
      case measure => simp [intOf]; omega
    · go_wp2_with fail
      go_ret
      exact ⟨rfl, hbr⟩

end Go.Proofs.YtggmbjdonlbfkaaGreatDoorBesafter
