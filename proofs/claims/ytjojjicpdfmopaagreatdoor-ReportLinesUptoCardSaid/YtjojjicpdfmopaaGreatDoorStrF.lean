/- How many bits a word has at most; the digits of a number. -/
import Derived.Test.YtjojjicpdfmopaaGreatDoorStrY
import Derived.Test.YtjojjicpdfmopaaGreatDoorDwX
namespace Go.Proofs.YtjojjicpdfmopaaGreatDoor
open Go Go.RowKit
set_option linter.unusedVariables false

theorem or_ge (a : Nat) (b : Int) (ha : a < 18446744073709551616) (h0 : 0 ≤ b) (hb : b < 18446744073709551616) : ∃ r : Nat, bits BinOp.or IntKind.u64 (a : Int) b = (r : Int) ∧ a ≤ r ∧ r < 18446744073709551616 := by
  obtain ⟨n, rfl⟩ : ∃ n : Nat, b = (n : Int) := ⟨b.toNat, by omega⟩
  refine ⟨a ||| n, Go.bits_or_u64_nat _ _ (by omega) (by omega), Nat.left_le_or, ?_⟩
  exact Nat.or_lt_two_pow (n := 64) ha (by omega)
set_option maxHeartbeats 1000000 in
set_option maxRecDepth 100000 in
theorem bitLen_one (xb c x : Nat) (w : World) (hx : x < W64) (hx0 : x ≠ 0) (hxw : w.cell? ⟨xb, 0, none⟩ = some (.int .u64 (x : Int))) :
    Calls Tryz.prog 104 #[.slice (some ⟨xb, 0, none⟩) 1 c] w fun e w' => ∃ L : Nat, e = .returned (.int .i64 (L : Int)) ∧ L ≤ 64 ∧ x < 2 ^ L ∧ ∃ n, w' = w.drewN n := by
  have hx : x < 18446744073709551616 := hx
  obtain ⟨x1, h1, l1, b1⟩ := or_ge x ((x : Int) / 2) hx (by omega) (by omega)
  obtain ⟨x2, h2, l2, b2⟩ := or_ge x1 ((x1 : Int) / 4) b1 (by omega) (by omega)
  obtain ⟨x3, h3, l3, b3⟩ := or_ge x2 ((x2 : Int) / 16) b2 (by omega) (by omega)
  obtain ⟨x4, h4, l4, b4⟩ := or_ge x3 ((x3 : Int) / 256) b3 (by omega) (by omega)
  obtain ⟨x5, h5, l5, b5⟩ := or_ge x4 ((x4 : Int) / 65536) b4 (by omega) (by omega)
  obtain ⟨x6, h6, l6, b6⟩ := or_ge x5 ((x5 : Int) / 65536 / 65536) b5 (by omega) (by omega)
  have hB := bitLen_bd (x := x6) b6 (by omega)
  have HB := hide hB.2.2.2
  have HB1 := hide hB.2.1
  have HL := hide (show x ≤ x6 by omega)
  have HN := hide (fun W => Tryz.bits_Len (x6 : Int) W (by omega) (by omega))
  clear hB l1 l2 l3 l4 l5 l6 b1 b2 b3 b4 b5 b6 hx hx0
  go_enter Tryz.func104, Tryz.ntmps104
  go_wp2_with fail
  refine (HN.out _).mono ?_
  rintro e w1 ⟨rfl, rfl⟩
  rw [Int.toNat_natCast]
  have hL : Hid (Lib.bitLen x6 ≤ 64 ∧ x < 2 ^ Lib.bitLen x6) := hide ⟨HB1.out, Nat.lt_of_le_of_lt HL.out HB.out⟩
  have hl := hide HB1.out
  generalize Lib.bitLen x6 = L at hL hl
  have hw : IntKind.i64.wrap (L : Int) = (L : Int) := by have := hl.out; simp [IntKind.wrap, IntKind.bits, IntKind.signed]; omega
  clear HB HB1 HN HL hl
  go_wp2_with fail
  go_ret
  exact ⟨L, rfl, hL.out.1, hL.out.2, 0, rfl⟩
end Go.Proofs.YtjojjicpdfmopaaGreatDoor
