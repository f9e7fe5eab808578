/- Great numbers: make, norm, set, cmp of words. -/
import Derived.Test.YtkeapacfmeblgaaGreatDoorBigA
import Derived.Test.YtkeapacfmeblgaaGreatDoorChartX
import Derived.Lib.Builder
namespace Go.Proofs.YtkeapacfmeblgaaGreatDoor
open Go Go.RowKit
set_option linter.unusedVariables false

theorem setCell_drewN (w : World) (a : Addr) (v : Value) (n : Nat) : (w.setCell a v).drewN n = (w.drewN n).setCell a v := rfl
theorem drewN_add (w : World) (a b : Nat) : (w.drewN a).drewN b = w.drewN (a + b) := by
  simp [World.drewN, Nat.add_assoc]
theorem word_info : (Tryz.prog.info? 70).map (fun i => (i.zero, i.size, i.bytes)) = some (some (.int .u64 0), 1, 8) := by kernel_rfl
theorem ptr_same (a : Addr) (w : World) : (binOp .neq 149 (.pointer (some a)) (.pointer (some a))).run Tryz.prog w = .ok (.bool false) w := by
  obtain ⟨i0, hi0, _⟩ := info_parts word_info
  exact Lib.run_neq_ptr_same w a Tryz.underlying149 hi0

theorem addVW1 (zb zo zc xc : Nat) (x y s : Nat) (hx : x < W64) (hy : y < W64) (hs : (x + y + 0) % W64 = s) (hd : (x + y + 0) / W64 = 0) (w : World)
    (hf : w.frozen? ⟨zb, zo, none⟩ = false) (hcx : w.cell? ⟨zb, zo, none⟩ = some (.int .u64 (x : Int))) :
    Calls Tryz.prog 130 #[.slice (some ⟨zb, zo, none⟩) 1 zc, .slice (some ⟨zb, zo, none⟩) 1 xc, .int .u64 (y : Int)] w
      fun e w' => e = .returned (.int .u64 0) ∧ ∃ n, w' = (w.drewN n).setCell ⟨zb, zo, none⟩ (.int .u64 (s : Int)) := by
  have hs1 : s < W64 := by subst hs; exact Nat.mod_lt _ (by decide)
  have hs2 : s < 18446744073709551616 := hs1
  go_enter Tryz.func130, Tryz.ntmps130
  go_wp2_with fail
  refine (bitsAdd_any x y 0 s 0 hx hy (by omega) hs hd _).mono ?_
  rintro e w1 ⟨rfl, n1, rfl⟩
  have hf1 : (w.drewN n1).frozen? ⟨zb, zo, none⟩ = false := hf
  have hcx1 : (w.drewN n1).cell? ⟨zb, zo, none⟩ = some (.int .u64 (x : Int)) := hcx
  have hps := ptr_same ⟨zb, zo, none⟩
  clear hf hcx
  go_wp2_with fail
  go_quiet (fail)
  go_wp2_with fail
  go_ret
  exact ⟨rfl, n1 + nq, by rw [setCell_drewN, drewN_add]⟩
theorem subVW1 (zb zo zc xc : Nat) (x y s : Nat) (hx : x < W64) (hy : y < W64) (hs : (x + W64 - y - 0) % W64 = s) (hd : (if x < y + 0 then 1 else 0 : Nat) = 0) (w : World)
    (hf : w.frozen? ⟨zb, zo, none⟩ = false) (hcx : w.cell? ⟨zb, zo, none⟩ = some (.int .u64 (x : Int))) :
    Calls Tryz.prog 174 #[.slice (some ⟨zb, zo, none⟩) 1 zc, .slice (some ⟨zb, zo, none⟩) 1 xc, .int .u64 (y : Int)] w
      fun e w' => e = .returned (.int .u64 0) ∧ ∃ n, w' = (w.drewN n).setCell ⟨zb, zo, none⟩ (.int .u64 (s : Int)) := by
  have hs1 : s < W64 := by subst hs; exact Nat.mod_lt _ (by decide)
  have hs2 : s < 18446744073709551616 := hs1
  go_enter Tryz.func174, Tryz.ntmps174
  go_wp2_with fail
  refine (bitsSub_any x y 0 s 0 hx hy (by omega) hs hd _).mono ?_
  rintro e w1 ⟨rfl, n1, rfl⟩
  have hf1 : (w.drewN n1).frozen? ⟨zb, zo, none⟩ = false := hf
  have hcx1 : (w.drewN n1).cell? ⟨zb, zo, none⟩ = some (.int .u64 (x : Int)) := hcx
  have hps := ptr_same ⟨zb, zo, none⟩
  clear hf hcx
  go_wp2_with fail
  go_quiet (fail)
  go_wp2_with fail
  go_ret
  exact ⟨rfl, n1 + nq, by rw [setCell_drewN, drewN_add]⟩

/-- all from k on are 0 -/
def ZeroFrom (ws : List Nat) (k : Nat) : Prop := ∀ (i : Nat) (hi : i < ws.length), k ≤ i → ws[i] = 0
theorem natNorm (ws : List Nat) (g c : Nat) (w : World) (h : Rd w 1 wEnc (some ⟨g, 0, none⟩) ws.length ws) (hn : ws.length ≤ 100) (hnc : ws.length ≤ c) :
    Calls Tryz.prog 86 #[.slice (some ⟨g, 0, none⟩) ws.length c] w
      fun e w' => (∃ k, k ≤ ws.length ∧ e = .returned (.slice (some ⟨g, 0, none⟩) k c) ∧ ZeroFrom ws k ∧ (0 < k → ∃ hk : k - 1 < ws.length, ws[k - 1] ≠ 0)) ∧ ∃ n, w' = w.drewN n := by
  have hcell : ∀ (i : Nat) (hi : i < ws.length), w.cell? ⟨g, i, none⟩ = some (.int .u64 (ws[i] : Int)) := by
    intro i hi
    obtain ⟨b, off, e, hc⟩ := h.2 (by omega)
    injection e with e
    injection e with e1 e2
    subst e1 e2
    have := hc i 0 _ hi rfl
    rwa [Nat.zero_add, Nat.mul_one, Nat.add_zero] at this
  go_enter Tryz.func86, Tryz.ntmps86
  go_wp2_with fail
  go_loopw [3] (fun iv wr => ∃ k : Nat, k ≤ ws.length ∧ iv = .int .i64 k ∧ ZeroFrom ws k ∧ ∃ n, wr = w.drewN n) (fun iv _ => (intOf iv).toNat)
  case atStart => exact ⟨ws.length, Nat.le_refl _, rfl, (fun i hi h => absurd h (by omega)), 0, rfl⟩
  case round =>
    obtain ⟨k, hk, rfl, hz, n, rfl⟩ := hrel
    have HZ := hide hz
    clear hz
    by_cases hk0 : k = 0
    · subst hk0
      go_wp2_with fail
      go_ret
      exact ⟨⟨0, hk, rfl, HZ.out, fun h => absurd h (by omega)⟩, n, rfl⟩
    · obtain ⟨j, rfl⟩ : ∃ j, k = j + 1 := ⟨k - 1, by omega⟩
      have hc : (w.drewN n).cell? ⟨g, j, none⟩ = some (.int .u64 (ws[j] : Int)) := hcell j (by omega)
      have j0 : (0 : Int) < ((j + 1 : Nat) : Int) := by omega
      have j1 : (0 : Int) ≤ (j : Int) := by omega
      have j2 : (j : Int) < (ws.length : Int) := by omega
      by_cases hw : ws[j] = 0
      · rw [hw] at hc
        have HS : Hid (ZeroFrom ws j) := by
          intro i hi hji
          by_cases e : i = j
          · subst e; exact hw
          · exact HZ.out i hi (by omega)
        clear hw
        go_wp2_with fail
        go_roundw
        case rel => exact ⟨j, by omega, by go_num, HS.out, n, rfl⟩
        case measure => simp [intOf]
      · have hb : ((ws[j] : Int) == 0) = false := by rw [beq_eq_false_iff_ne]; omega
        have hb2 : (ws[j] == 0) = false := by rw [beq_eq_false_iff_ne]; exact hw
        have HW := hide hw
        have hjc : (j : Int) + 1 ≤ (c : Int) := by omega
        clear hw
        go_wp2_with fail
        go_ret
        exact ⟨⟨j + 1, by omega, rfl, HZ.out, fun _ => ⟨by omega, HW.out⟩⟩, n, rfl⟩

theorem natMake_fits (A : Option Addr) (zn zc n : Nat) (w : World) (hn : n ≤ zc) (hz : zc ≤ maxLen) :
    Calls Tryz.prog 84 #[.slice A zn zc, .int .i64 (n : Int)] w fun e w' => e = .returned (.slice A n zc) ∧ ∃ n, w' = w.drewN n := by
  go_enter Tryz.func84, Tryz.ntmps84
  go_wp2_with fail
  go_ret
  exact ⟨rfl, 0, rfl⟩
/-- so many words of 0 -/
def zeros (n : Nat) : Array Value := Array.replicate n (.int .u64 0)
theorem mk_words (n c : Nat) (hnc : n ≤ c) (hc : c ≤ 100) (w : World) :
    (Instr.makeSlice 53 (.int .i64 (n : Int)) (.int .i64 (c : Int))).run Tryz.prog w = .ok (.slice (some ⟨w.heap.size, 0, none⟩) n c) (w.alloc (.cells (Array.replicate c (.int .u64 0)) 70)) := by
  obtain ⟨i0, hi0, hz0, hz1, hz2⟩ := info_parts word_info
  have hr := run_make (P := Tryz.prog) w 53 70 i0 _ Tryz.underlying53 hi0 hz0 .i64 .i64 n c (by omega) (by omega) (by rw [hz2]; omega) (by omega)
  simp only [Int.toNat_natCast, hz1, Nat.mul_one, show (Value.int .u64 0).cells = #[.int .u64 0] from rfl, madeCells_one] at hr
  exact hr
set_option maxRecDepth 100000 in
theorem natMake_1 (A : Option Addr) (zn : Nat) (w : World) :
    Calls Tryz.prog 84 #[.slice A zn 0, .int .i64 1] w fun e w' => e = .returned (.slice (some ⟨w.heap.size, 0, none⟩) 1 1) ∧ w' = w.alloc (.cells (zeros 1) 70) := by
  have hmk : ∀ w : World, (Instr.makeSlice 53 (.int .i64 1) (.int .i64 1)).run Tryz.prog w = .ok (.slice (some ⟨w.heap.size, 0, none⟩) 1 1) (w.alloc (.cells (zeros 1) 70)) := fun w => mk_words 1 1 (by omega) (by omega) w
  go_enter Tryz.func84, Tryz.ntmps84
  go_wp2_with fail
  go_ret
  exact ⟨rfl, rfl⟩
set_option maxRecDepth 100000 in
theorem natMake_2 (A : Option Addr) (zn zc : Nat) (w : World) (hz : zc ≤ 1) :
    Calls Tryz.prog 84 #[.slice A zn zc, .int .i64 2] w fun e w' => e = .returned (.slice (some ⟨w.heap.size, 0, none⟩) 2 6) ∧ w' = w.alloc (.cells (zeros 6) 70) := by
  have hmk : ∀ w : World, (Instr.makeSlice 53 (.int .i64 2) (.int .i64 6)).run Tryz.prog w = .ok (.slice (some ⟨w.heap.size, 0, none⟩) 2 6) (w.alloc (.cells (zeros 6) 70)) := fun w => mk_words 2 6 (by omega) (by omega) w
  have hz' : ¬ (2 : Int) ≤ (zc : Int) := by omega
  go_enter Tryz.func84, Tryz.ntmps84
  go_wp2_with fail
  go_ret
  exact ⟨rfl, rfl⟩
end Go.Proofs.YtkeapacfmeblgaaGreatDoor
