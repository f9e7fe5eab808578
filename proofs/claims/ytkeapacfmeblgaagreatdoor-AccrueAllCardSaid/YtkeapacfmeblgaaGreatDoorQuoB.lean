/- Great numbers: (Int).Quo of a number of one word by a number of one word, into itself. -/
import Derived.Test.YtkeapacfmeblgaaGreatDoorQuoA
import Derived.BigRegion
import Derived.Deep.CutRange
namespace Go.Proofs.YtkeapacfmeblgaaGreatDoor
open Go Go.RowKit
set_option linter.unusedVariables false
set_option linter.unusedSimpArgs false

theorem sign_tdiv {x : Int} {p : Nat} (h : x.tdiv (p : Int) ≠ 0) : decide (x.tdiv (p : Int) < 0) = (decide (x < 0) != false) := by
  rw [Bool.bne_false]
  by_cases hx : x < 0
  · have h1 : x.tdiv (p : Int) ≤ 0 := by
      obtain ⟨m, hm⟩ := Int.eq_ofNat_of_zero_le (show 0 ≤ -x by omega)
      obtain rfl : x = -(m : Int) := by omega
      rw [Int.neg_tdiv, ← Int.ofNat_tdiv]
      generalize m / p = z
      omega
    have h2 : x.tdiv (p : Int) < 0 := by omega
    rw [decide_eq_true h2, decide_eq_true hx]
  · have h1 : 0 ≤ x.tdiv (p : Int) := by
      obtain ⟨m, rfl⟩ := Int.eq_ofNat_of_zero_le (show 0 ≤ x by omega)
      rw [← Int.ofNat_tdiv]
      generalize m / p = z
      omega
    have h2 : ¬ x.tdiv (p : Int) < 0 := by omega
    rw [decide_eq_false h2, decide_eq_false hx]
set_option maxHeartbeats 4000000 in
set_option maxRecDepth 100000 in
theorem bigQuo_self (B g gy p yb yo yc : Nat) (V : Value) (x : Int) (w : World) (hBw : B ≤ w.heap.size) (h : BigAt w B g V x) (hxl : x.natAbs < W64) (hp0 : 0 < p) (hp2 : p < W64) (hvy : V.ownBlock ≠ some gy)
    (y0 : w.cell? ⟨gy, 0, none⟩ = some (.bool false)) (y1 : w.cell? ⟨gy, 1, none⟩ = some (.slice (some ⟨yb, yo, none⟩) 1 yc)) (hcy : w.cell? ⟨yb, yo, none⟩ = some (.int .u64 (p : Int))) :
    Calls Tryz.prog 22 #[.pointer (some ⟨g, 0, none⟩), .pointer (some ⟨g, 0, none⟩), .pointer (some ⟨gy, 0, none⟩)] w
      fun e w' => e = .returned (.pointer (some ⟨g, 0, none⟩)) ∧ ∃ V', BigAt w' B g V' (x.tdiv (p : Int)) ∧ Below B w w' := by
  obtain ⟨A, c, rfl⟩ := h.form
  obtain ⟨n0, hn0⟩ : ∃ n, n = (wordsOf x.natAbs).length := ⟨_, rfl⟩
  rw [← hn0] at h hvy
  have HN0 := hide hn0
  have c0 := h.c0
  have c1 := h.c1
  have hab : (x.tdiv (p : Int)).natAbs = x.natAbs / p := by rw [Int.natAbs_tdiv]; rfl
  have HAB := hide hab
  have hW : BigAt w.drew B g (.slice A n0 c) x := h.below (bdrewN (Below.refl _ w) 1)
  have hWb : Below B w w.drew := bdrewN (Below.refl B w) 1
  have HWB := hide hWb
  have HWS : Hid (B ≤ w.drew.heap.size) := hBw
  have HWD := hide hW.wds
  have HCY : Hid (w.drew.cell? ⟨yb, yo, none⟩ = some (.int .u64 (p : Int))) := hcy
  have HXL := hide hxl
  have HP0 := hide hp0
  have HP2 := hide hp2
  obtain ⟨bx, hbx'⟩ : ∃ b, b = decide (x < 0) := ⟨_, rfl⟩
  obtain ⟨bb, hbb'⟩ : ∃ b, b = false := ⟨_, rfl⟩
  have HX := hide hbx'
  have HY := hide hbb'
  rw [← hbx'] at c0
  rw [← hbb'] at y0
  clear hbx' hbb'
  have y0d : w.drew.cell? ⟨gy, 0, none⟩ = some (.bool bb) := y0
  obtain ⟨L, hL⟩ : ∃ L, L = (wordsOf (x.natAbs / p)).length := ⟨_, rfl⟩
  have HLL := hide hL
  have HK : Hid (∀ (w' : World) (V' : Value), Gave w.drew w' B (.slice A n0 c) V' (wordsOf (x.natAbs / p)) → (∃ A c, V' = .slice A L c) ∧ w'.cell? ⟨g, 1, none⟩ = some (.slice A n0 c) ∧ w'.cell? ⟨g, 0, none⟩ = some (.bool bx) ∧ w'.frozen? ⟨g, 0, none⟩ = false ∧ w'.frozen? ⟨g, 1, none⟩ = false ∧ w'.cell? ⟨gy, 0, none⟩ = some (.bool bb)) := by
    intro w' V' hG
    obtain ⟨k0, k1, kf0, kf1, A3, cc3, e⟩ := hW.kept hG
    rw [← hL] at e
    rw [← HX.out] at k0
    exact ⟨⟨A3, cc3, e⟩, k1, k0, kf0, kf1, hG.grown.cell y0d (fun e => hvy e.symm)⟩
  have HW := hide hW
  clear h hW hWb hab hBw hcy hxl hp0 hp2 y0d hL hn0 hvy
  go_enter Tryz.func22, Tryz.ntmps22
  go_upto_region 1 with fail
  go_cut [] from 7 to 25 (fun wx => ∃ (w3 : World) (A3 : Option Addr) (cc3 : Nat), Gave w.drew w3 B (.slice A n0 c) (.slice A3 L cc3) (wordsOf (x.natAbs / p)) ∧ wx = w3.setCell ⟨g, 1, none⟩ (.slice A3 L cc3))
  case first =>
    clear c0 y0
    go_region_law (go_simp; go_at_call 39; refine (natDiv_self B x.natAbs p n0 c yb yo yc A _ HWS.out HXL.out HP0.out HP2.out HWD.out HN0.out HCY.out).mono ?_; rintro e w3 ⟨V3, R3, rfl, hG⟩; obtain ⟨⟨A3, cc3, rfl⟩, k1, k0, kf0, kf1, y3⟩ := HK.out _ _ hG; have HF := hide hG; clear hG)
    all_goals
      go_wp2_with fail
      go_meet
      exact ⟨w3, A3, cc3, HF.out, rfl⟩
  case rest =>
  obtain ⟨w3, A3, cc3, hG, rfl⟩ := hcut
  obtain ⟨_, k1, k0, kf0, kf1, y3⟩ := HK.out _ _ hG
  have HF := hide hG
  clear hG c0 c1 y0 y1
  generalize hwb : w3.setCell ⟨g, 1, none⟩ (.slice A3 L cc3) = wb
  have b0 : wb.drew.cell? ⟨g, 0, none⟩ = some (.bool bx) := by show wb.cell? _ = _; rw [← hwb]; exact (World.cell?_setCell_other _ _ _ _ (by simp)).trans k0
  have b1 : wb.drew.cell? ⟨g, 1, none⟩ = some (.slice A3 L cc3) := by show wb.cell? _ = _; rw [← hwb]; exact World.cell?_setCell_same _ ⟨g, 1, none⟩ _ k1
  have bf : wb.drew.frozen? ⟨g, 0, none⟩ = false := by show wb.frozen? _ = _; rw [← hwb]; simp [kf0]
  have by0 : wb.drew.cell? ⟨gy, 0, none⟩ = some (.bool bb) := by show wb.cell? _ = _; rw [← hwb]; exact (World.cell?_setCell_other _ _ _ _ (by simp)).trans y3
  have HWE := hide hwb
  clear hwb k0 k1 kf0 kf1 y3
  go_upto_region 2 with fail
  by_cases hz : x.natAbs / p = 0
  · have hl0 : L = 0 := by rw [HLL.out, hz]; rfl
    have HD : Hid (decide (x.tdiv (p : Int) < 0) = false) := by
      show _ = _
      have : x.tdiv (p : Int) = 0 := Int.natAbs_eq_zero.1 (by rw [HAB.out, hz])
      rw [this]; rfl
    subst hl0
    clear hz
    go_region
    all_goals
      go_wp2_with fail
    all_goals
      go_ret
    all_goals
      have hG : Gave w.drew w3 B (.slice A n0 c) (.slice A3 0 cc3) (wordsOf (x.tdiv p).natAbs) := by rw [HAB.out]; exact HF.out
      have hp := HW.out.put (r := x.tdiv p) hG
      have hb := HW.out.put_below (r := x.tdiv p) hG HWB.out HWS.out (Nat.le_refl _) (.bool false)
      rw [HD.out, HWE.out] at hp
      rw [HWE.out] at hb
      exact ⟨rfl, _, hp.below (bdrewN (Below.refl _ _) 1), bdrewN hb 1⟩
  · have hpos : 0 < L := by
      have := words_pos (v := x.natAbs / p) hz
      rw [← HLL.out] at this
      exact this
    have HD : Hid (decide (x.tdiv (p : Int) < 0) = (bx != bb)) := by
      show _ = _
      rw [HX.out, HY.out]
      exact sign_tdiv (fun e => hz (by rw [← HAB.out, e]; rfl))
    clear hz
    go_region
    all_goals
      go_wp2_with fail
    all_goals
      go_ret
    all_goals
      have hG : Gave w.drew w3 B (.slice A n0 c) (.slice A3 L cc3) (wordsOf (x.tdiv p).natAbs) := by rw [HAB.out]; exact HF.out
      have hp := HW.out.put (r := x.tdiv p) hG
      have hb := HW.out.put_below (r := x.tdiv p) hG HWB.out HWS.out (Nat.le_refl _) (.bool (bx != bb))
      rw [HD.out, HWE.out] at hp
      rw [HWE.out] at hb
      exact ⟨rfl, _, hp.below (bdrewN (Below.refl _ _) 1), bdrewN hb 1⟩
end Go.Proofs.YtkeapacfmeblgaaGreatDoor
