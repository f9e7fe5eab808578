/- Words of great numbers: bits.Add, bits.Sub, addVV and subVV of one word. -/
import Derived.Test.YtjojjicpdfmopaaGreatDoorOwn
import Derived.Laws.Twins
import Derived.Laws.Externs
import Derived.Shelf.Spec.BitsCarry
import Derived.Deep.QuietTactic
import Derived.BigQuiet
import Derived.IntWalk
namespace Go.Proofs.YtjojjicpdfmopaaGreatDoor
open Go Go.RowKit
set_option linter.unusedVariables false

def W64 : Nat := 18446744073709551616
def wEnc (n : Nat) : List Value := [.int .u64 (n : Int)]
theorem wEnc_ok : Enc 1 wEnc := ⟨fun _ => rfl, by
  intro a u hu
  simp only [wEnc, List.mem_singleton] at hu
  subst hu; rfl⟩

theorem bits_add64 (x y c : Nat) (hc : c ≤ 1) (w : World) :
    (callFunc 114 #[.int .u64 (x : Int), .int .u64 (y : Int), .int .u64 (c : Int)]).run Tryz.prog w =
      .ok (.value (.tuple #[.int .u64 (((x + y + c) % 18446744073709551616 : Nat) : Int), .int .u64 (((x + y + c) / 18446744073709551616 : Nat) : Int)])) w := by
  rw [run_callFunc_extern Tryz.func114 (by kernel_rfl) (by kernel_rfl) (by kernel_rfl) (e := add64Entry) (by kernel_rfl), run_add64 x y c (by omega) (by omega) (by omega) (by omega)]
  simp only [Result.andThen]
  congr 5 <;> omega
theorem bits_sub64 (x y b : Nat) (hb : b ≤ 1) (w : World) :
    (callFunc 116 #[.int .u64 (x : Int), .int .u64 (y : Int), .int .u64 (b : Int)]).run Tryz.prog w =
      .ok (.value (.tuple #[.int .u64 (((x + 18446744073709551616 - y - b) % 18446744073709551616 : Nat) : Int), .int .u64 ((if x < y + b then 1 else 0 : Nat) : Int)])) w := by
  rw [run_callFunc_extern Tryz.func116 (by kernel_rfl) (by kernel_rfl) (by kernel_rfl) (e := sub64Entry) (by kernel_rfl), run_sub64 x y b hb]
  rfl

theorem addVV_enters (args : Array Value) (w : World) : (callFunc 84 args).run Tryz.prog w = .ok (.enter 34 args) w :=
  run_callFunc_twin (twin := Tryz.f34.name) Tryz.func84 (by kernel_rfl) (by kernel_rfl) (by kernel_rfl) (by kernel_rfl) Tryz.func34 (by kernel_rfl) (by kernel_rfl) (by kernel_rfl) args w
theorem subVV_enters (args : Array Value) (w : World) : (callFunc 88 args).run Tryz.prog w = .ok (.enter 35 args) w :=
  run_callFunc_twin (twin := Tryz.f35.name) Tryz.func88 (by kernel_rfl) (by kernel_rfl) (by kernel_rfl) (by kernel_rfl) Tryz.func35 (by kernel_rfl) (by kernel_rfl) (by kernel_rfl) args w

theorem bitsAdd_any (x y c s d : Nat) (hx : x < W64) (hy : y < W64) (hc : c ≤ 1) (hs : (x + y + c) % W64 = s) (hd : (x + y + c) / W64 = d) (w : World) :
    Calls Tryz.prog 87 #[.int .u64 (x : Int), .int .u64 (y : Int), .int .u64 (c : Int)] w
      fun e w' => e = .returned (.tuple #[.int .u64 (s : Int), .int .u64 (d : Int)]) ∧ ∃ n, w' = w.drewN n := by
  have h1 := bits_add64 x y c hc
  have e1 : (x + y + c) % 18446744073709551616 = s := hs
  have e2 : (x + y + c) / 18446744073709551616 = d := hd
  have hs1 : s < W64 := by subst hs; exact Nat.mod_lt _ (by decide)
  have hd1 : d ≤ 1 := by unfold W64 at *; omega
  simp only [e1, e2] at h1
  unfold W64 at *
  clear e1 e2 hs hd
  go_enter Tryz.func87, Tryz.ntmps87
  go_wp2_with fail
  go_ret2
  exact ⟨by simp, 0, rfl⟩
theorem bitsSub_any (x y b s d : Nat) (hx : x < W64) (hy : y < W64) (hb : b ≤ 1) (hs : (x + W64 - y - b) % W64 = s) (hd : (if x < y + b then 1 else 0 : Nat) = d) (w : World) :
    Calls Tryz.prog 90 #[.int .u64 (x : Int), .int .u64 (y : Int), .int .u64 (b : Int)] w
      fun e w' => e = .returned (.tuple #[.int .u64 (s : Int), .int .u64 (d : Int)]) ∧ ∃ n, w' = w.drewN n := by
  have h1 := bits_sub64 x y b hb
  have e1 : (x + 18446744073709551616 - y - b) % 18446744073709551616 = s := hs
  have hs1 : s < W64 := by subst hs; exact Nat.mod_lt _ (by decide)
  have hd1 : d ≤ 1 := by subst hd; split <;> omega
  simp only [e1, hd] at h1
  unfold W64 at *
  clear e1 hs hd
  go_enter Tryz.func90, Tryz.ntmps90
  go_wp2_with fail
  go_ret2
  exact ⟨by simp, 0, rfl⟩

/-- one word and one word: their sum is stored, the carry handed back -/
theorem addVV1 (zb zo zc xb xo xc yb yo yc : Nat) (u : Value) (x y s d : Nat) (hx : x < W64) (hy : y < W64) (hs : (x + y + 0) % W64 = s) (hd : (x + y + 0) / W64 = d) (w : World)
    (hz : w.cell? ⟨zb, zo, none⟩ = some u) (hu : u.oneCell' = true) (hf : w.frozen? ⟨zb, zo, none⟩ = false) (hcx : w.cell? ⟨xb, xo, none⟩ = some (.int .u64 (x : Int))) (hcy : w.cell? ⟨yb, yo, none⟩ = some (.int .u64 (y : Int))) :
    Calls Tryz.prog 34 #[.slice (some ⟨zb, zo, none⟩) 1 zc, .slice (some ⟨xb, xo, none⟩) 1 xc, .slice (some ⟨yb, yo, none⟩) 1 yc] w
      fun e w' => e = .returned (.int .u64 (d : Int)) ∧ ∃ n, w' = (w.drewN n).setCell ⟨zb, zo, none⟩ (.int .u64 (s : Int)) := by
  have hs1 : s < W64 := by subst hs; exact Nat.mod_lt _ (by decide)
  have hd1 : d ≤ 1 := by unfold W64 at *; omega
  have hs2 : s < 18446744073709551616 := hs1
  go_enter Tryz.func34, Tryz.ntmps34
  go_wp2_with fail
  go_loopw [6, 25] (fun cv iv wr => (iv = .int .i64 0 ∧ cv = .int .u64 0 ∧ wr = w) ∨ (iv = .int .i64 1 ∧ cv = .int .u64 (d : Int) ∧ ∃ n, wr = (w.drewN n).setCell ⟨zb, zo, none⟩ (.int .u64 (s : Int)))) (fun _ iv _ => 1 - (intOf iv).toNat)
  case atStart => exact .inl ⟨rfl, rfl, rfl⟩
  case round =>
    rcases hrel with ⟨rfl, rfl, rfl⟩ | ⟨rfl, rfl, n, rfl⟩
    · go_wp2_with fail
      go_quiet ((go_at_call 87; exact Calls.quiet_of (bitsAdd_any x y 0 s d hx hy (by omega) hs hd _)))
      go_wp2_with fail
      go_roundw
      case rel => exact .inr ⟨by go_num, rfl, nq, rfl⟩
      case measure => simp [intOf]
    · go_wp2_with fail
      go_ret
      exact ⟨rfl, n, rfl⟩
theorem subVV1 (zb zo zc xb xo xc yb yo yc : Nat) (u : Value) (x y s d : Nat) (hx : x < W64) (hy : y < W64) (hs : (x + W64 - y - 0) % W64 = s) (hd : (if x < y + 0 then 1 else 0 : Nat) = d) (w : World)
    (hz : w.cell? ⟨zb, zo, none⟩ = some u) (hu : u.oneCell' = true) (hf : w.frozen? ⟨zb, zo, none⟩ = false) (hcx : w.cell? ⟨xb, xo, none⟩ = some (.int .u64 (x : Int))) (hcy : w.cell? ⟨yb, yo, none⟩ = some (.int .u64 (y : Int))) :
    Calls Tryz.prog 35 #[.slice (some ⟨zb, zo, none⟩) 1 zc, .slice (some ⟨xb, xo, none⟩) 1 xc, .slice (some ⟨yb, yo, none⟩) 1 yc] w
      fun e w' => e = .returned (.int .u64 (d : Int)) ∧ ∃ n, w' = (w.drewN n).setCell ⟨zb, zo, none⟩ (.int .u64 (s : Int)) := by
  have hs1 : s < W64 := by subst hs; exact Nat.mod_lt _ (by decide)
  have hd1 : d ≤ 1 := by subst hd; split <;> omega
  have hs2 : s < 18446744073709551616 := hs1
  go_enter Tryz.func35, Tryz.ntmps35
  go_wp2_with fail
  go_loopw [6, 25] (fun cv iv wr => (iv = .int .i64 0 ∧ cv = .int .u64 0 ∧ wr = w) ∨ (iv = .int .i64 1 ∧ cv = .int .u64 (d : Int) ∧ ∃ n, wr = (w.drewN n).setCell ⟨zb, zo, none⟩ (.int .u64 (s : Int)))) (fun _ iv _ => 1 - (intOf iv).toNat)
  case atStart => exact .inl ⟨rfl, rfl, rfl⟩
  case round =>
    rcases hrel with ⟨rfl, rfl, rfl⟩ | ⟨rfl, rfl, n, rfl⟩
    · go_wp2_with fail
      go_quiet ((go_at_call 90; exact Calls.quiet_of (bitsSub_any x y 0 s d hx hy (by omega) hs hd _)))
      go_wp2_with fail
      go_roundw
      case rel => exact .inr ⟨by go_num, rfl, nq, rfl⟩
      case measure => simp [intOf]
    · go_wp2_with fail
      go_ret
      exact ⟨rfl, n, rfl⟩
end Go.Proofs.YtjojjicpdfmopaaGreatDoor
