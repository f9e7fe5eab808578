/- Great numbers: (Int).QuoRem by 1, into new numbers. -/
import Derived.Test.YtmaaehajficnhaaGreatDoorDivC
import Derived.BigRegion
import Derived.Deep.CutRange
namespace Go.Proofs.YtmaaehajficnhaaGreatDoor
open Go Go.RowKit
set_option linter.unusedVariables false
set_option linter.unusedSimpArgs false

theorem Wds.setCell {w : World} {B q : Nat} {V : Value} {ws : List Nat} (h : Wds w B V ws) (hne : V.ownBlock ≠ some q) (i : Nat) (v : Value) : Wds (w.setCell ⟨q, i, none⟩ v) B V ws :=
  ⟨h.own.grown (only_setCell (only_refl w (some q)) i v) (.inr hne), h.cap⟩

theorem Wds.fresh_ne {w w' : World} {V : Value} {ws : List Nat} (h : Fresh w w' V ws) {g : Nat} (hg : g < w.heap.size) : V.ownBlock ≠ some g := by
  intro e
  have := (h.1.own.block g e).1
  omega
/-- two numbers, each written anew -/
theorem two_end {w0 w w3 W : World} {B g gr : Nat} {V : Value} {x : Int} {b : Bool} (hg : g ≠ gr) (hBg : B ≤ g) (hBr : B ≤ gr) (hF : Fresh w w3 V (wordsOf x.natAbs)) (hgl : g < w.heap.size) (hrl : gr < w.heap.size) (hB : B ≤ w.heap.size)
    (k0 : w3.cell? ⟨g, 0, none⟩ = some (.bool false)) (k1 : w3.cell? ⟨g, 1, none⟩ = some (.slice none 0 0)) (m0 : w3.cell? ⟨gr, 0, none⟩ = some (.bool false)) (m1 : w3.cell? ⟨gr, 1, none⟩ = some (.slice none 0 0))
    (kf : ∀ q, w3.frozen? ⟨g, q, none⟩ = false) (mf : ∀ q, w3.frozen? ⟨gr, q, none⟩ = false) (hb : decide (x < 0) = b) (B1 : Blk w3 g) (B2 : Blk w3 gr) (hbe : Below B w0 w3)
    (hW : W = (((w3.setCell ⟨g, 1, none⟩ V).setCell ⟨gr, 1, none⟩ (.slice none 0 0)).drew.setCell ⟨g, 0, none⟩ (.bool b)).setCell ⟨gr, 0, none⟩ (.bool false)) :
    (∃ V', BigAt W B g V' x ∧ V'.ownBlock ≠ some gr) ∧ BigAt W B gr (.slice none 0 0) 0 ∧ Below B w0 W ∧ Blk W g ∧ Blk W gr := by
  have n1 := Wds.fresh_ne hF hgl
  have n2 := Wds.fresh_ne hF hrl
  have hg2 : gr ≠ g := fun e => hg e.symm
  have a1 : (w3.setCell ⟨g, 1, none⟩ V).cell? ⟨gr, 1, none⟩ = some (.slice none 0 0) := (World.cell?_setCell_other _ _ _ _ (by simp)).trans m1
  have a2 : ((w3.setCell ⟨g, 1, none⟩ V).setCell ⟨gr, 1, none⟩ (.slice none 0 0)).cell? ⟨g, 0, none⟩ = some (.bool false) := (World.cell?_setCell_other _ _ _ _ (by simp)).trans ((World.cell?_setCell_other _ _ _ _ (by simp)).trans k0)
  have a3 : ((w3.setCell ⟨g, 1, none⟩ V).setCell ⟨gr, 1, none⟩ (.slice none 0 0)).cell? ⟨gr, 0, none⟩ = some (.bool false) := (World.cell?_setCell_other _ _ _ _ (by simp)).trans ((World.cell?_setCell_other _ _ _ _ (by simp)).trans m0)
  have a4 : ((w3.setCell ⟨g, 1, none⟩ V).setCell ⟨gr, 1, none⟩ (.slice none 0 0)).cell? ⟨g, 1, none⟩ = some V := (World.cell?_setCell_other _ _ _ _ (by simp)).trans (World.cell?_setCell_same _ ⟨g, 1, none⟩ _ k1)
  have a5 : ((w3.setCell ⟨g, 1, none⟩ V).setCell ⟨gr, 1, none⟩ (.slice none 0 0)).cell? ⟨gr, 1, none⟩ = some (.slice none 0 0) := World.cell?_setCell_same _ ⟨gr, 1, none⟩ _ a1
  have hw : Wds ((w3.setCell ⟨g, 1, none⟩ V).setCell ⟨gr, 1, none⟩ (.slice none 0 0)) B V (wordsOf x.natAbs) := Wds.setCell (Wds.setCell ⟨own_lower hF.1.own hB, hF.1.cap⟩ n1 1 V) n2 1 _
  have b1 := ((B1.setCell g 1 V).setCell gr 1 (.slice none 0 0))
  have b2 := ((B2.setCell g 1 V).setCell gr 1 (.slice none 0 0))
  have be := (hbe.setCell hBg (p := ⟨g, 1, none⟩) V).setCell hBr (p := ⟨gr, 1, none⟩) (.slice none 0 0)
  have ff : ∀ q, ((w3.setCell ⟨g, 1, none⟩ V).setCell ⟨gr, 1, none⟩ (.slice none 0 0)).frozen? ⟨g, q, none⟩ = false := fun q => by simp [kf q]
  have gf : ∀ q, ((w3.setCell ⟨g, 1, none⟩ V).setCell ⟨gr, 1, none⟩ (.slice none 0 0)).frozen? ⟨gr, q, none⟩ = false := fun q => by simp [mf q]
  generalize (w3.setCell ⟨g, 1, none⟩ V).setCell ⟨gr, 1, none⟩ (.slice none 0 0) = wb at hW a2 a3 a4 a5 hw b1 b2 be ff gf
  have a2 : wb.drew.cell? ⟨g, 0, none⟩ = some (.bool false) := a2
  have a3 : wb.drew.cell? ⟨gr, 0, none⟩ = some (.bool false) := a3
  have a4 : wb.drew.cell? ⟨g, 1, none⟩ = some V := a4
  have a5 : wb.drew.cell? ⟨gr, 1, none⟩ = some (.slice none 0 0) := a5
  have hw : Wds wb.drew B V (wordsOf x.natAbs) := ⟨hw.own.below (bdrewN (Below.refl _ _) 1), hw.cap⟩
  have b1 : Blk wb.drew g := b1
  have b2 : Blk wb.drew gr := b2
  have be : Below B w0 wb.drew := bdrewN be 1
  have ff : ∀ q, wb.drew.frozen? ⟨g, q, none⟩ = false := ff
  have gf : ∀ q, wb.drew.frozen? ⟨gr, q, none⟩ = false := gf
  generalize wb.drew = wd at hW a2 a3 a4 a5 hw b1 b2 be ff gf
  subst hW
  refine ⟨⟨V, ⟨hBg, ?_, ?_, fun q => by simp [ff q], Wds.setCell (Wds.setCell hw n1 0 _) n2 0 _, n1⟩, n2⟩, ⟨hBr, ?_, ?_, fun q => by simp [gf q], ⟨Own.nil _ _ _ _ _, none, 0, rfl, by omega⟩, by simp [Value.ownBlock]⟩, (be.setCell hBg _).setCell hBr _, (b1.setCell g 0 _).setCell gr 0 _, (b2.setCell g 0 _).setCell gr 0 _⟩
  · rw [hb]; exact (World.cell?_setCell_other _ _ _ _ (by simp)).trans (World.cell?_setCell_same _ ⟨g, 0, none⟩ _ a2)
  · exact (World.cell?_setCell_other _ _ _ _ (by simp)).trans ((World.cell?_setCell_other _ _ _ _ (by simp)).trans a4)
  · exact World.cell?_setCell_same _ ⟨gr, 0, none⟩ _ ((World.cell?_setCell_other _ _ _ _ (by simp)).trans a3)
  · exact (World.cell?_setCell_other _ _ _ _ (by simp)).trans ((World.cell?_setCell_other _ _ _ _ (by simp)).trans a5)

set_option maxHeartbeats 4000000 in
set_option maxRecDepth 100000 in
theorem quoRem_one (B g gx gy gr xn xc yb yo yc : Nat) (x : Int) (XA : Option Addr) (w : World) (hBw : B ≤ w.heap.size) (h : BigAt w B g (.slice none 0 0) 0) (hr : BigAt w B gr (.slice none 0 0) 0) (hg : g ≠ gr) (hx : BigRd w gx x XA xn xc)
    (y0 : w.cell? ⟨gy, 0, none⟩ = some (.bool false)) (y1 : w.cell? ⟨gy, 1, none⟩ = some (.slice (some ⟨yb, yo, none⟩) 1 yc)) (hcy : w.cell? ⟨yb, yo, none⟩ = some (.int .u64 1)) (b1 : Blk w g) (b2 : Blk w gr) :
    Calls Tryz.prog 70 #[.pointer (some ⟨g, 0, none⟩), .pointer (some ⟨gx, 0, none⟩), .pointer (some ⟨gy, 0, none⟩), .pointer (some ⟨gr, 0, none⟩)] w
      fun e w' => e = .returned (.tuple #[.pointer (some ⟨g, 0, none⟩), .pointer (some ⟨gr, 0, none⟩)]) ∧ (∃ V', BigAt w' B g V' x ∧ V'.ownBlock ≠ some gr) ∧ BigAt w' B gr (.slice none 0 0) 0 ∧ Below B w w' ∧ Blk w' g ∧ Blk w' gr := by
  have z0 := h.c0
  have z1 := h.c1
  have r0 := hr.c0
  have r1 := hr.c1
  have x0 := hx.c0
  have x1 := hx.c1
  have hxd : YWds w.drew XA xn x.natAbs := ⟨hx.wds.1, hx.wds.2⟩
  have hcyd : w.drew.cell? ⟨yb, yo, none⟩ = some (.int .u64 1) := hcy
  obtain ⟨bx, hbx'⟩ : ∃ b, b = decide (x < 0) := ⟨_, rfl⟩
  have HX := hide hbx'
  rw [← hbx'] at x0
  clear hbx'
  have HK : Hid (∀ (w' : World) (V' : Value), Fresh w.drew w' V' (wordsOf x.natAbs) → (∃ A c, V' = .slice A (wordsOf x.natAbs).length c) ∧ w'.cell? ⟨g, 0, none⟩ = some (.bool false) ∧ w'.cell? ⟨g, 1, none⟩ = some (.slice none 0 0) ∧ w'.cell? ⟨gr, 0, none⟩ = some (.bool false) ∧ w'.cell? ⟨gr, 1, none⟩ = some (.slice none 0 0) ∧
      (∀ q, w'.frozen? ⟨g, q, none⟩ = false) ∧ (∀ q, w'.frozen? ⟨gr, q, none⟩ = false) ∧ w'.cell? ⟨gx, 0, none⟩ = some (.bool bx) ∧ w'.cell? ⟨gy, 0, none⟩ = some (.bool false) ∧ Blk w' g ∧ Blk w' gr ∧ Below B w w') := by
    intro w' V' hF
    have hb : Below w.heap.size w w' := (bdrewN (Below.refl _ w) 1).trans hF.2
    obtain ⟨A, c, e, _⟩ := hF.1.cap
    exact ⟨⟨A, c, e⟩, below_cell hb h.lt z0, below_cell hb h.lt z1, below_cell hb hr.lt r0, below_cell hb hr.lt r1, fun q => (hb.frozen (p := ⟨g, q, none⟩) h.lt).trans (h.fr q), fun q => (hb.frozen (p := ⟨gr, q, none⟩) hr.lt).trans (hr.fr q),
      below_cell hb (World.block_lt_of_cell? _ _ x0) x0, below_cell hb (World.block_lt_of_cell? _ _ y0) y0, b1.below hb, b2.below hb, hb.mono hBw⟩
  have HXD := hide hxd
  have HCY := hide hcyd
  have HXC := hide hx.cap
  have HG := hide hg
  have HBW : Hid (B ≤ w.drew.heap.size) := hBw
  obtain ⟨L, hL⟩ : ∃ L, L = (wordsOf x.natAbs).length := ⟨_, rfl⟩
  have HLL := hide hL
  have HH := hide h
  have HR := hide hr
  rw [← hL] at HK
  clear h hr hx hxd hcyd hcy b1 b2 hL hBw
  go_enter Tryz.func70, Tryz.ntmps70
  go_upto_region 1 with fail
  go_cut [] from 10 to 35 (fun wx => ∃ (w3 : World) (A3 : Option Addr) (cc3 : Nat), Fresh w.drew w3 (.slice A3 L cc3) (wordsOf x.natAbs) ∧ wx = (w3.setCell ⟨g, 1, none⟩ (.slice A3 L cc3)).setCell ⟨gr, 1, none⟩ (.slice none 0 0))
  case first =>
    clear z0 r0 x0 y0
    go_region_law (go_simp; go_at_call 98; refine (natDiv_one x.natAbs xn xc yb yo yc XA _ HXD.out HCY.out).mono ?_; rintro e w3 ⟨V3, rfl, hF⟩; obtain ⟨⟨A3, cc3, rfl⟩, k0, k1, m0, m1, kf, mf, x3, y3, B1, B2, hb3⟩ := HK.out _ _ hF; have HF := hide hF; clear hF; have kf1 := kf 1; have mf1 := mf 1)
    all_goals
      go_wp2_with fail
      go_meet
      exact ⟨w3, A3, cc3, HF.out, rfl⟩
  case rest =>
  obtain ⟨w3, A3, cc3, hF, rfl⟩ := hcut
  obtain ⟨_, k0, k1, m0, m1, kf, mf, x3, y3, B1, B2, hb3⟩ := HK.out _ _ hF
  have kf1 := kf 1
  have mf1 := mf 1
  have HF := hide hF
  have HKF := hide kf
  have HMF := hide mf
  have HB := hide hb3
  clear z0 r0 x0 y0 hF kf mf hb3
  generalize hwb : (w3.setCell ⟨g, 1, none⟩ (.slice A3 L cc3)).setCell ⟨gr, 1, none⟩ (.slice none 0 0) = wb
  have zb0 : wb.drew.cell? ⟨g, 0, none⟩ = some (.bool false) := by show wb.cell? _ = _; rw [← hwb]; exact (World.cell?_setCell_other _ _ _ _ (by simp)).trans ((World.cell?_setCell_other _ _ _ _ (by simp)).trans k0)
  have zb1 : wb.drew.cell? ⟨g, 1, none⟩ = some (.slice A3 L cc3) := by show wb.cell? _ = _; rw [← hwb]; exact (World.cell?_setCell_other _ _ _ _ (by simp)).trans (World.cell?_setCell_same _ ⟨g, 1, none⟩ _ k1)
  have rb0 : wb.drew.cell? ⟨gr, 0, none⟩ = some (.bool false) := by show wb.cell? _ = _; rw [← hwb]; exact (World.cell?_setCell_other _ _ _ _ (by simp)).trans ((World.cell?_setCell_other _ _ _ _ (by simp)).trans m0)
  have rb1 : wb.drew.cell? ⟨gr, 1, none⟩ = some (.slice none 0 0) := by show wb.cell? _ = _; rw [← hwb]; exact World.cell?_setCell_same _ ⟨gr, 1, none⟩ _ ((World.cell?_setCell_other _ _ _ _ (by simp)).trans m1)
  have xb0 : wb.drew.cell? ⟨gx, 0, none⟩ = some (.bool bx) := by show wb.cell? _ = _; rw [← hwb]; exact (World.cell?_setCell_other _ _ _ _ (by simp)).trans ((World.cell?_setCell_other _ _ _ _ (by simp)).trans x3)
  have yb0 : wb.drew.cell? ⟨gy, 0, none⟩ = some (.bool false) := by show wb.cell? _ = _; rw [← hwb]; exact (World.cell?_setCell_other _ _ _ _ (by simp)).trans ((World.cell?_setCell_other _ _ _ _ (by simp)).trans y3)
  have zf : wb.drew.frozen? ⟨g, 0, none⟩ = false := by show wb.frozen? _ = _; rw [← hwb]; simp [HKF.out 0]
  have rf : wb.drew.frozen? ⟨gr, 0, none⟩ = false := by show wb.frozen? _ = _; rw [← hwb]; simp [HMF.out 0]
  have HWE := hide hwb
  have HK0 := hide k0
  have HK1 := hide k1
  have HM0 := hide m0
  have HM1 := hide m1
  have HB1 := hide B1
  have HB2 := hide B2
  clear hwb k0 k1 kf1 mf1 x3 y3 B1 B2 z1 r1 x1 y1
  have hgr : ¬ gr = g := fun e => HG.out e.symm
  have hgr2 : ¬ g = gr := HG.out
  go_upto_region 2 with fail
  rcases Nat.eq_zero_or_pos L with hL0 | hpos
  · have HD : Hid (decide (x < 0) = false) := by
      show _ = _
      have e := HLL.out
      rw [hL0] at e
      have hx0 : x.natAbs = 0 := by
        rcases Nat.eq_zero_or_pos x.natAbs with h | h
        · exact h
        · have := words_pos (v := x.natAbs) (by omega)
          omega
      rw [decide_eq_false_iff_not]; omega
    subst hL0
    have rb2 : (wb.setCell ⟨g, 0, none⟩ (.bool false)).drew.cell? ⟨gr, 0, none⟩ = some (.bool false) := (World.cell?_setCell_other wb _ _ _ (by simp)).trans rb0
    have rf2 : (wb.setCell ⟨g, 0, none⟩ (.bool false)).drew.frozen? ⟨gr, 0, none⟩ = false := by
      show (wb.setCell ⟨g, 0, none⟩ (.bool false)).frozen? _ = _
      simp
      exact rf
    go_region
    all_goals
      go_wp2_with fail
    all_goals
      go_ret2
    all_goals
      exact ⟨rfl, two_end HG.out HH.out.gB HR.out.gB HF.out (show g < w.drew.heap.size from HH.out.lt) (show gr < w.drew.heap.size from HR.out.lt) HBW.out HK0.out HK1.out HM0.out HM1.out HKF.out HMF.out HD.out HB1.out HB2.out HB.out (by have e := HWE.out; subst e; rfl)⟩
  · have HD : Hid (decide (x < 0) = bx) := HX.out.symm
    have rb2 : (wb.setCell ⟨g, 0, none⟩ (.bool bx)).drew.cell? ⟨gr, 0, none⟩ = some (.bool false) := (World.cell?_setCell_other wb _ _ _ (by simp)).trans rb0
    have rf2 : (wb.setCell ⟨g, 0, none⟩ (.bool bx)).drew.frozen? ⟨gr, 0, none⟩ = false := by
      show (wb.setCell ⟨g, 0, none⟩ (.bool bx)).frozen? _ = _
      simp
      exact rf
    go_region
    all_goals
      go_wp2_with fail
    all_goals
      go_ret2
    all_goals
      exact ⟨rfl, two_end HG.out HH.out.gB HR.out.gB HF.out (show g < w.drew.heap.size from HH.out.lt) (show gr < w.drew.heap.size from HR.out.lt) HBW.out HK0.out HK1.out HM0.out HM1.out HKF.out HMF.out HD.out HB1.out HB2.out HB.out (by have e := HWE.out; subst e; rfl)⟩
end Go.Proofs.YtmaaehajficnhaaGreatDoor
