/- dayref2.Get leaves the world as it is. -/
import Derived.Test.YtmpnbkjcpgnifaaGreatDoorBalX
namespace Go.Proofs.YtmpnbkjcpgnifaaGreatDoor
open Go Go.RowKit
set_option linter.unusedVariables false

set_option maxHeartbeats 1000000 in
set_option maxRecDepth 100000 in
theorem refGet_w (l : List Bal) (ent : Int) (acc cur : ByteArray) (A : Option Addr) (n cap : Nat) (w : World) (hl : n ≤ 9223372036854775807) (ha : Rd w 4 balEnc A n l) :
    Calls Tryz.prog 7 #[.slice A n cap, .int .i64 ent, .string acc, .string cur] w fun e w' => e = .returned (.int .i64 (getB l ent acc cur)) ∧ w = w' := by
  have Hn := hide ha.1
  go_enter Tryz.func7, Tryz.ntmps7
  go_wp2_with fail
  go_loop [9] (fun iv => ∃ k : Nat, k ≤ n ∧ iv = .int .i64 k ∧ NoTo (isAt ent acc cur) l k) (fun iv => n - (intOf iv).toNat)
  case atStart => exact ⟨0, by omega, rfl, NoTo.zero _ _⟩
  case round =>
    obtain ⟨k, hk, rfl, hto⟩ := hrel
    have HTo := hide hto
    clear hto
    by_cases hlt : k < n
    · have hkl : k < l.length := by have := Hn.out; omega
      obtain ⟨b, off, rfl, hcs⟩ := ha.2 (by omega)
      have q0 := hcs k 0 _ hkl rfl
      have q1 := hcs k 1 _ hkl rfl
      have q2 := hcs k 2 _ hkl rfl
      have q3 := hcs k 3 _ hkl rfl
      rw [Nat.add_zero] at q0
      clear hcs
      have k0 : (0 : Int) ≤ (k : Int) := by omega
      have k1 : (k : Int) < (n : Int) := by omega
      cases e1 : (l[k].ent == ent) with
      | false =>
        have HX : Hid (isAt ent acc cur l[k] = false) := by show _ = _; unfold isAt; simp only [e1, Bool.false_and]
        go_wp2_with fail
        go_round
        case rel => exact ⟨k + 1, by omega, by go_num, HTo.out.succ hkl HX.out⟩
        case measure => simp [intOf]; omega
      | true =>
        cases e2 : (l[k].acc.toList == acc.toList) with
        | false =>
          have HX : Hid (isAt ent acc cur l[k] = false) := by show _ = _; unfold isAt; simp only [e1, e2, Bool.false_and, Bool.and_false]
          go_wp2_with fail
          go_round
          case rel => exact ⟨k + 1, by omega, by go_num, HTo.out.succ hkl HX.out⟩
          case measure => simp [intOf]; omega
        | true =>
          cases e3 : (l[k].cur.toList == cur.toList) with
          | false =>
            have HX : Hid (isAt ent acc cur l[k] = false) := by show _ = _; unfold isAt; simp only [e1, e2, e3, Bool.true_and, Bool.and_false]
            go_wp2_with fail
            go_round
            case rel => exact ⟨k + 1, by omega, by go_num, HTo.out.succ hkl HX.out⟩
            case measure => simp [intOf]; omega
          | true =>
            have HX : Hid (isAt ent acc cur l[k] = true) := by show _ = _; unfold isAt; simp only [e1, e2, e3, Bool.true_and]
            have HG := hide (getB_hit HTo.out hkl HX.out)
            go_wp2_with fail
            go_ret
            exact ⟨ret_int HG.out.symm, rfl⟩
    · have HG := hide (getB_none HTo.out (by have := Hn.out; omega))
      go_wp2_with fail
      go_ret
      exact ⟨ret_int HG.out.symm, rfl⟩
theorem refGet_s (l : List Bal) (ent : Int) (acc cur : ByteArray) (A : Option Addr) (n cap : Nat) (w : World) (hl : n ≤ 9223372036854775807) (ha : Rd w 4 balEnc A n l) :
    Calls Tryz.prog 7 #[.slice A n cap, .int .i64 ent, .string acc, .string cur] w fun e w' => e = .returned (.int .i64 (getB l ent acc cur)) ∧ w' = w :=
  (refGet_w l ent acc cur A n cap w hl ha).mono fun e w' h => ⟨h.1, h.2.symm⟩
end Go.Proofs.YtmpnbkjcpgnifaaGreatDoor
