/- Great numbers: 0 shifted, 0 held against 1; two numbers' memory that overlaps. -/
import Derived.Test.YtggmbjdonlbfkaaGreatDoorBesafterDivA
import Derived.Deep.QuietTactic
import Derived.BigQuiet
namespace Go.Proofs.YtggmbjdonlbfkaaGreatDoorBesafter
open Go Go.RowKit
set_option linter.unusedVariables false

set_option maxRecDepth 100000 in
theorem natLsh_0 (w : World) : Calls Tryz.prog 65 #[.slice none 0 0, .slice none 0 0, .int .u64 1] w fun e w' => e = .returned (.slice none 0 0) ∧ ∃ n, w' = w.drewN n := by
  go_enter Tryz.func65, Tryz.ntmps65
  go_wp2_with fail
  go_ret
  exact ⟨rfl, 0, rfl⟩
set_option maxRecDepth 100000 in
theorem alias_nil (A : Option Addr) (n c : Nat) (w : World) : Calls Tryz.prog 61 #[.slice none 0 0, .slice A n c] w fun e w' => e = .returned (.bool false) ∧ ∃ k, w' = w.drewN k := by
  have h0 : decide ((0 : Int) > 0) = false := rfl
  go_enter Tryz.func61, Tryz.ntmps61
  go_wp2_with fail
  go_quiet (fail)
  go_wp2_with fail
  go_ret
  exact ⟨by simp, _, rfl⟩
theorem natCmp_01 (yc : Nat) (YA : Option Addr) (w : World) : Calls Tryz.prog 66 #[.slice none 0 0, .slice YA 1 yc] w fun e w' => e = .returned (.int .i64 (-1)) ∧ ∃ n, w' = w.drewN n := by
  have := natCmp_len 0 1 0 yc none YA w (by omega) (by omega) (by omega)
  simpa using this
set_option maxHeartbeats 1000000 in
set_option maxRecDepth 100000 in
/-- 0 and 1 -/
theorem bigCmp_01 (B g gy yb yo yc : Nat) (w : World) (h : BigAt w B g (.slice none 0 0) 0) (hne : g ≠ gy) (b1 : Blk w g) (b2 : Blk w gy)
    (y0 : w.cell? ⟨gy, 0, none⟩ = some (.bool false)) (y1 : w.cell? ⟨gy, 1, none⟩ = some (.slice (some ⟨yb, yo, none⟩) 1 yc)) :
    Calls Tryz.prog 36 #[.pointer (some ⟨g, 0, none⟩), .pointer (some ⟨gy, 0, none⟩)] w fun e w' => e = .returned (.int .i64 (-1)) ∧ ∃ k, w' = w.drewN k := by
  have hpo := ptr_other hne b1 b2
  have z0 : w.cell? ⟨g, 0, none⟩ = some (.bool false) := h.c0
  have z1 := h.c1
  clear h b1 b2 hne
  go_enter Tryz.func36, Tryz.ntmps36
  go_wp2_with fail
  clear hpo
  go_quiet (fail)
  have z0 : (w.drewN nq).cell? ⟨g, 0, none⟩ = some (.bool false) := z0
  have z1 : (w.drewN nq).cell? ⟨g, 1, none⟩ = some (.slice none 0 0) := z1
  have y1 : (w.drewN nq).cell? ⟨gy, 1, none⟩ = some (.slice (some ⟨yb, yo, none⟩) 1 yc) := y1
  have hwf : ∃ k, w.drewN nq = w.drewN k := ⟨nq, rfl⟩
  generalize w.drewN nq = wa at z0 z1 y1 hwf ⊢
  have HWF := hide hwf
  clear hwf
  go_wp2_with fail
  go_quiet ((go_at_call 66; exact Calls.quiet_of (natCmp_01 yc (some ⟨yb, yo, none⟩) _)))
  go_wp2_with fail
  go_ret
  obtain ⟨k0, hk⟩ := HWF.out
  exact ⟨rfl, k0 + nq, by rw [hk, drewN_add]⟩

set_option maxHeartbeats 4000000 in
set_option maxRecDepth 100000 in
/-- 0, shifted by one -/
theorem bigLsh_0 (B g : Nat) (w : World) (h : BigAt w B g (.slice none 0 0) 0) (hk : Blk w g) (hBw : B ≤ w.heap.size) :
    Calls Tryz.prog 35 #[.pointer (some ⟨g, 0, none⟩), .pointer (some ⟨g, 0, none⟩), .int .u64 1] w fun e w' => e = .returned (.pointer (some ⟨g, 0, none⟩)) ∧ BigAt w' B g (.slice none 0 0) 0 ∧ Blk w' g ∧ Below B w w' ∧ w.grownBy w' (some g) := by
  have z0 : w.cell? ⟨g, 0, none⟩ = some (.bool false) := h.c0
  have z1 := h.c1
  have f0 := h.fr 0
  have f1 := h.fr 1
  have HH := hide h
  have HB := hide hk
  clear h hk
  go_enter Tryz.func35, Tryz.ntmps35
  go_wp2_with fail
  go_region_law (go_simp; go_at_call 65; refine (natLsh_0 _).mono ?_; rintro e w3 ⟨rfl, n3, rfl⟩)
  all_goals
    go_wp2_with fail
  all_goals
    go_ret
    have hG : Gave w (w.drewN (1 + n3)) B (.slice none 0 0) (.slice none 0 0) (wordsOf (0 : Int).natAbs) := Gave.same HH.out.wds (1 + n3)
    have hb : Blk (w.drewN (1 + n3)) g := HB.out
    exact ⟨rfl, HH.out.put (r := 0) hG, (hb.setCell g 1 _).setCell g 0 _, HH.out.put_below (r := 0) hG (Below.refl _ _) hBw (Nat.le_refl _) _, only_setCell (only_setCell (only_drewN (only_refl w (some g)) (1 + n3)) 1 _) 0 _⟩
end Go.Proofs.YtggmbjdonlbfkaaGreatDoorBesafter
