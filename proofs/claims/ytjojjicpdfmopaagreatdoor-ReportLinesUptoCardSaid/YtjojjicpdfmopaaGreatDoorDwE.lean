/- Great numbers: (Int).QuoRem by one word above 0, into new numbers. -/
import Derived.Test.YtjojjicpdfmopaaGreatDoorDwD
import Derived.BigRegion
import Derived.Deep.CutRange
namespace Go.Proofs.YtjojjicpdfmopaaGreatDoor
open Go Go.RowKit
set_option linter.unusedVariables false
set_option linter.unusedSimpArgs false

theorem Wds.setCellD {w : World} {B q : Nat} {V : Value} {ws : List Nat} (h : Wds w B V ws) (hne : V.ownBlock ≠ some q) (i : Nat) (v : Value) : Wds (w.setCell ⟨q, i, none⟩ v) B V ws :=
  ⟨h.own.grown (only_setCell (only_refl w (some q)) i v) (.inr hne), h.cap⟩
theorem Wds.fresh_neD {w w' : World} {V : Value} {ws : List Nat} (h : Fresh w w' V ws) {g : Nat} (hg : g < w.heap.size) : V.ownBlock ≠ some g := by
  intro e
  have := (h.1.own.block g e).1
  omega
/-- two numbers, each written anew -/
theorem two_end2 {w0 w w3 W : World} {B g gr : Nat} {V R : Value} {x y : Int} {b c : Bool} (hg : g ≠ gr) (hBg : B ≤ g) (hBr : B ≤ gr) (hF : Fresh w w3 V (wordsOf x.natAbs)) (hF2 : Fresh w w3 R (wordsOf y.natAbs)) (hgl : g < w.heap.size) (hrl : gr < w.heap.size) (hB : B ≤ w.heap.size)
    (k0 : w3.cell? ⟨g, 0, none⟩ = some (.bool false)) (k1 : w3.cell? ⟨g, 1, none⟩ = some (.slice none 0 0)) (m0 : w3.cell? ⟨gr, 0, none⟩ = some (.bool false)) (m1 : w3.cell? ⟨gr, 1, none⟩ = some (.slice none 0 0))
    (kf : ∀ q, w3.frozen? ⟨g, q, none⟩ = false) (mf : ∀ q, w3.frozen? ⟨gr, q, none⟩ = false) (hb : decide (x < 0) = b) (hc : decide (y < 0) = c) (B1 : Blk w3 g) (B2 : Blk w3 gr) (hbe : Below B w0 w3)
    (hW : W = (((w3.setCell ⟨g, 1, none⟩ V).setCell ⟨gr, 1, none⟩ R).drew.setCell ⟨g, 0, none⟩ (.bool b)).setCell ⟨gr, 0, none⟩ (.bool c)) :
    BigAt W B g V x ∧ BigAt W B gr R y ∧ V.ownBlock ≠ some gr ∧ R.ownBlock ≠ some g ∧ Below B w0 W ∧ Blk W g ∧ Blk W gr := by
  have n1 := Wds.fresh_neD hF hgl
  have n2 := Wds.fresh_neD hF hrl
  have m1' := Wds.fresh_neD hF2 hgl
  have m2' := Wds.fresh_neD hF2 hrl
  have hg2 : gr ≠ g := fun e => hg e.symm
  have a1 : (w3.setCell ⟨g, 1, none⟩ V).cell? ⟨gr, 1, none⟩ = some (.slice none 0 0) := (World.cell?_setCell_other _ _ _ _ (by simp)).trans m1
  have a2 : ((w3.setCell ⟨g, 1, none⟩ V).setCell ⟨gr, 1, none⟩ R).cell? ⟨g, 0, none⟩ = some (.bool false) := (World.cell?_setCell_other _ _ _ _ (by simp)).trans ((World.cell?_setCell_other _ _ _ _ (by simp)).trans k0)
  have a3 : ((w3.setCell ⟨g, 1, none⟩ V).setCell ⟨gr, 1, none⟩ R).cell? ⟨gr, 0, none⟩ = some (.bool false) := (World.cell?_setCell_other _ _ _ _ (by simp)).trans ((World.cell?_setCell_other _ _ _ _ (by simp)).trans m0)
  have a4 : ((w3.setCell ⟨g, 1, none⟩ V).setCell ⟨gr, 1, none⟩ R).cell? ⟨g, 1, none⟩ = some V := (World.cell?_setCell_other _ _ _ _ (by simp)).trans (World.cell?_setCell_same _ ⟨g, 1, none⟩ _ k1)
  have a5 : ((w3.setCell ⟨g, 1, none⟩ V).setCell ⟨gr, 1, none⟩ R).cell? ⟨gr, 1, none⟩ = some R := World.cell?_setCell_same _ ⟨gr, 1, none⟩ _ a1
  have hw : Wds ((w3.setCell ⟨g, 1, none⟩ V).setCell ⟨gr, 1, none⟩ R) B V (wordsOf x.natAbs) := Wds.setCellD (Wds.setCellD ⟨own_lower hF.1.own hB, hF.1.cap⟩ n1 1 V) n2 1 _
  have hr : Wds ((w3.setCell ⟨g, 1, none⟩ V).setCell ⟨gr, 1, none⟩ R) B R (wordsOf y.natAbs) := Wds.setCellD (Wds.setCellD ⟨own_lower hF2.1.own hB, hF2.1.cap⟩ m1' 1 V) m2' 1 _
  have b1 := ((B1.setCell g 1 V).setCell gr 1 R)
  have b2 := ((B2.setCell g 1 V).setCell gr 1 R)
  have be := (hbe.setCell hBg (p := ⟨g, 1, none⟩) V).setCell hBr (p := ⟨gr, 1, none⟩) R
  have ff : ∀ q, ((w3.setCell ⟨g, 1, none⟩ V).setCell ⟨gr, 1, none⟩ R).frozen? ⟨g, q, none⟩ = false := fun q => by simp [kf q]
  have gf : ∀ q, ((w3.setCell ⟨g, 1, none⟩ V).setCell ⟨gr, 1, none⟩ R).frozen? ⟨gr, q, none⟩ = false := fun q => by simp [mf q]
  generalize (w3.setCell ⟨g, 1, none⟩ V).setCell ⟨gr, 1, none⟩ R = wb at hW a2 a3 a4 a5 hw hr b1 b2 be ff gf
  have a2 : wb.drew.cell? ⟨g, 0, none⟩ = some (.bool false) := a2
  have a3 : wb.drew.cell? ⟨gr, 0, none⟩ = some (.bool false) := a3
  have a4 : wb.drew.cell? ⟨g, 1, none⟩ = some V := a4
  have a5 : wb.drew.cell? ⟨gr, 1, none⟩ = some R := a5
  have hw : Wds wb.drew B V (wordsOf x.natAbs) := ⟨hw.own.below (bdrewN (Below.refl _ _) 1), hw.cap⟩
  have hr : Wds wb.drew B R (wordsOf y.natAbs) := ⟨hr.own.below (bdrewN (Below.refl _ _) 1), hr.cap⟩
  have b1 : Blk wb.drew g := b1
  have b2 : Blk wb.drew gr := b2
  have be : Below B w0 wb.drew := bdrewN be 1
  have ff : ∀ q, wb.drew.frozen? ⟨g, q, none⟩ = false := ff
  have gf : ∀ q, wb.drew.frozen? ⟨gr, q, none⟩ = false := gf
  generalize wb.drew = wd at hW a2 a3 a4 a5 hw hr b1 b2 be ff gf
  subst hW
  refine ⟨⟨hBg, ?_, ?_, fun q => by simp [ff q], Wds.setCellD (Wds.setCellD hw n1 0 _) n2 0 _, n1⟩, ⟨hBr, ?_, ?_, fun q => by simp [gf q], Wds.setCellD (Wds.setCellD hr m1' 0 _) m2' 0 _, m2'⟩, n2, m1', (be.setCell hBg _).setCell hBr _, (b1.setCell g 0 _).setCell gr 0 _, (b2.setCell g 0 _).setCell gr 0 _⟩
  · rw [hb]; exact (World.cell?_setCell_other _ _ _ _ (by simp)).trans (World.cell?_setCell_same _ ⟨g, 0, none⟩ _ a2)
  · exact (World.cell?_setCell_other _ _ _ _ (by simp)).trans ((World.cell?_setCell_other _ _ _ _ (by simp)).trans a4)
  · rw [hc]; exact World.cell?_setCell_same _ ⟨gr, 0, none⟩ _ ((World.cell?_setCell_other _ _ _ _ (by simp)).trans a3)
  · exact (World.cell?_setCell_other _ _ _ _ (by simp)).trans ((World.cell?_setCell_other _ _ _ _ (by simp)).trans a5)

/-- the signs -/
theorem tdiv_sign {x : Int} {p : Nat} (hp : p ≠ 0) : (wordsOf (x.natAbs / p)).length = 0 → decide (x.tdiv (p : Int) < 0) = false := by
  intro h
  have h0 : x.natAbs / p = 0 := by
    rcases Nat.eq_zero_or_pos (x.natAbs / p) with h1 | h1
    · exact h1
    · have := words_pos (v := x.natAbs / p) (by omega); omega
  have h2 : (x.tdiv (p : Int)).natAbs = 0 := by rw [Int.natAbs_tdiv]; exact h0
  rw [decide_eq_false_iff_not]; omega
theorem tdiv_sign2 {x : Int} {p : Nat} (hp : p ≠ 0) : 0 < (wordsOf (x.natAbs / p)).length → decide (x.tdiv (p : Int) < 0) = decide (x < 0) := by
  intro h
  have h0 : x.natAbs / p ≠ 0 := by
    intro e
    rw [e, wordsOf_0] at h
    exact absurd h (by simp)
  have h2 : (x.tdiv (p : Int)).natAbs ≠ 0 := by rw [Int.natAbs_tdiv]; exact h0
  by_cases hx : x < 0
  · have h3 : x.tdiv (p : Int) ≤ 0 := by
      have : 0 ≤ (-x).tdiv (p : Int) := Int.tdiv_nonneg (by omega) (by omega)
      rw [Int.neg_tdiv] at this
      omega
    rw [decide_eq_true hx, decide_eq_true (by omega)]
  · have h3 : 0 ≤ x.tdiv (p : Int) := Int.tdiv_nonneg (by omega) (by omega)
    rw [decide_eq_false hx, decide_eq_false (by omega)]
theorem tmod_sign {x : Int} {p : Nat} (hp : p ≠ 0) : (wordsOf (x.natAbs % p)).length = 0 → decide (x.tmod (p : Int) < 0) = false := by
  intro h
  have h0 : x.natAbs % p = 0 := by
    rcases Nat.eq_zero_or_pos (x.natAbs % p) with h1 | h1
    · exact h1
    · have := words_pos (v := x.natAbs % p) (by omega); omega
  have h2 : (x.tmod (p : Int)).natAbs = 0 := by rw [Int.natAbs_tmod]; exact h0
  rw [decide_eq_false_iff_not]; omega
theorem tmod_sign2 {x : Int} {p : Nat} (hp : p ≠ 0) : 0 < (wordsOf (x.natAbs % p)).length → decide (x.tmod (p : Int) < 0) = decide (x < 0) := by
  intro h
  have h0 : x.natAbs % p ≠ 0 := by
    intro e
    rw [e, wordsOf_0] at h
    exact absurd h (by simp)
  have h2 : (x.tmod (p : Int)).natAbs ≠ 0 := by rw [Int.natAbs_tmod]; exact h0
  by_cases hx : x < 0
  · have h3 : x.tmod (p : Int) ≤ 0 := by
      have : 0 ≤ (-x).tmod (p : Int) := Int.tmod_nonneg _ (by omega)
      rw [Int.neg_tmod] at this
      omega
    rw [decide_eq_true hx, decide_eq_true (by omega)]
  · have h3 : 0 ≤ x.tmod (p : Int) := Int.tmod_nonneg _ (by omega)
    rw [decide_eq_false hx, decide_eq_false (by omega)]

set_option maxHeartbeats 4000000 in
set_option maxRecDepth 100000 in
theorem quoRem_any (B Bx g gx gy gr p yb yo yc : Nat) (x : Int) (VX : Value) (w : World) (hBw : B ≤ w.heap.size) (h : BigAt w B g (.slice none 0 0) 0) (hr : BigAt w B gr (.slice none 0 0) 0) (hg : g ≠ gr) (hx : BigAt w Bx gx VX x) (hxl : x.natAbs < W64 * W64) (hp0 : p ≠ 0) (hp2 : p < W64) (hp1 : p = 1 → x.natAbs < W64)
    (y0 : w.cell? ⟨gy, 0, none⟩ = some (.bool false)) (y1 : w.cell? ⟨gy, 1, none⟩ = some (.slice (some ⟨yb, yo, none⟩) 1 yc)) (hcy : w.cell? ⟨yb, yo, none⟩ = some (.int .u64 (p : Int))) (b1 : Blk w g) (b2 : Blk w gr) :
    Calls Tryz.prog 266 #[.pointer (some ⟨g, 0, none⟩), .pointer (some ⟨gx, 0, none⟩), .pointer (some ⟨gy, 0, none⟩), .pointer (some ⟨gr, 0, none⟩)] w
      fun e w' => e = .returned (.tuple #[.pointer (some ⟨g, 0, none⟩), .pointer (some ⟨gr, 0, none⟩)]) ∧ ∃ V R, BigAt w' B g V (x.tdiv (p : Int)) ∧ BigAt w' B gr R (x.tmod (p : Int)) ∧ V.ownBlock ≠ some gr ∧ R.ownBlock ≠ some g ∧ (∀ b, V.ownBlock = some b → R.ownBlock ≠ some b ∧ w.heap.size ≤ b) ∧ (∀ b, R.ownBlock = some b → w.heap.size ≤ b) ∧ Below B w w' ∧ Blk w' g ∧ Blk w' gr := by
  obtain ⟨XA, xn, xc, rfl⟩ : ∃ A n c, VX = .slice A n c := by obtain ⟨A, c, e, _⟩ := hx.wds.cap; exact ⟨_, _, _, e⟩
  have z0 := h.c0
  have z1 := h.c1
  have r0 := hr.c0
  have r1 := hr.c1
  have x0 := hx.c0
  have x1 := hx.c1
  have hcyd : w.drew.cell? ⟨yb, yo, none⟩ = some (.int .u64 (p : Int)) := hcy
  have hxw : Wds w.drew Bx (.slice XA xn xc) (wordsOf x.natAbs) := ⟨hx.wds.own.below (bdrewN (Below.refl _ _) 1), hx.wds.cap⟩
  obtain ⟨bx, hbx'⟩ : ∃ b, b = decide (x < 0) := ⟨_, rfl⟩
  have HQ0 := hide (tdiv_sign (x := x) hp0)
  have HQ1 := hide (tdiv_sign2 (x := x) hp0)
  have HM0 := hide (tmod_sign (x := x) hp0)
  have HM1 := hide (tmod_sign2 (x := x) hp0)
  have HDIV := hide (natDiv_new Bx x.natAbs p xn xc yb yo yc XA w.drew hxl hp0 hp2 hp1 hxw hcyd)
  have eQ : (x.tdiv (p : Int)).natAbs = x.natAbs / p := by rw [Int.natAbs_tdiv]; rfl
  have eM : (x.tmod (p : Int)).natAbs = x.natAbs % p := by rw [Int.natAbs_tmod]; rfl
  rw [← eQ] at HQ0 HQ1 HDIV
  rw [← eM] at HM0 HM1 HDIV
  rw [← hbx'] at x0 HQ1 HM1
  clear hbx' eQ eM
  generalize x.tdiv (p : Int) = Q at HQ0 HQ1 HDIV ⊢
  generalize x.tmod (p : Int) = M at HM0 HM1 HDIV ⊢
  have HK : Hid (∀ (w' : World) (V' R' : Value), Fresh w.drew w' V' (wordsOf Q.natAbs) → Fresh w.drew w' R' (wordsOf M.natAbs) → (∃ A c, V' = .slice A (wordsOf Q.natAbs).length c) ∧ (∃ A c, R' = .slice A (wordsOf M.natAbs).length c) ∧ w'.cell? ⟨g, 0, none⟩ = some (.bool false) ∧ w'.cell? ⟨g, 1, none⟩ = some (.slice none 0 0) ∧ w'.cell? ⟨gr, 0, none⟩ = some (.bool false) ∧ w'.cell? ⟨gr, 1, none⟩ = some (.slice none 0 0) ∧
      (∀ q, w'.frozen? ⟨g, q, none⟩ = false) ∧ (∀ q, w'.frozen? ⟨gr, q, none⟩ = false) ∧ w'.cell? ⟨gx, 0, none⟩ = some (.bool bx) ∧ w'.cell? ⟨gy, 0, none⟩ = some (.bool false) ∧ Blk w' g ∧ Blk w' gr ∧ Below B w w') := by
    intro w' V' R' hF hF2
    have hb : Below w.heap.size w w' := (bdrewN (Below.refl _ w) 1).trans hF.2
    obtain ⟨A, c, e, _⟩ := hF.1.cap
    obtain ⟨A2, c2, e2, _⟩ := hF2.1.cap
    exact ⟨⟨A, c, e⟩, ⟨A2, c2, e2⟩, below_cell hb h.lt z0, below_cell hb h.lt z1, below_cell hb hr.lt r0, below_cell hb hr.lt r1, fun q => (hb.frozen (p := ⟨g, q, none⟩) h.lt).trans (h.fr q), fun q => (hb.frozen (p := ⟨gr, q, none⟩) hr.lt).trans (hr.fr q),
      below_cell hb (World.block_lt_of_cell? _ _ x0) x0, below_cell hb (World.block_lt_of_cell? _ _ y0) y0, b1.below hb, b2.below hb, hb.mono hBw⟩
  have HG := hide hg
  have HBW : Hid (B ≤ w.drew.heap.size) := hBw
  obtain ⟨L, hL⟩ : ∃ L, L = (wordsOf Q.natAbs).length := ⟨_, rfl⟩
  obtain ⟨K, hK⟩ : ∃ K, K = (wordsOf M.natAbs).length := ⟨_, rfl⟩
  have HH := hide h
  have HR := hide hr
  rw [← hL] at HK HQ0 HQ1
  rw [← hK] at HK HM0 HM1
  clear h hr hx hxw hcyd hcy b1 b2 hL hK hBw hxl hp0 hp1 hp2
  go_enter Tryz.func266, Tryz.ntmps266
  go_upto_region 1 with fail
  go_cut [] from 10 to 35 (fun wx => ∃ (w3 : World) (A3 : Option Addr) (cc3 : Nat) (A4 : Option Addr) (cc4 : Nat), Fresh w.drew w3 (.slice A3 L cc3) (wordsOf Q.natAbs) ∧ Fresh w.drew w3 (.slice A4 K cc4) (wordsOf M.natAbs) ∧ (∀ b, (Value.slice A3 L cc3).ownBlock = some b → (Value.slice A4 K cc4).ownBlock ≠ some b) ∧ wx = (w3.setCell ⟨g, 1, none⟩ (.slice A3 L cc3)).setCell ⟨gr, 1, none⟩ (.slice A4 K cc4))
  case first =>
    clear z0 r0 x0 y0
    go_region_law (go_simp; go_at_call 136; refine HDIV.out.mono ?_; rintro e w3 ⟨V3, R3, rfl, hF, hF2, hVR⟩; obtain ⟨⟨A3, cc3, rfl⟩, ⟨A4, cc4, rfl⟩, k0, k1, m0, m1, kf, mf, x3, y3, B1, B2, hb3⟩ := HK.out _ _ _ hF hF2; have HF := hide hF; have HF2 := hide hF2; have HVR := hide hVR; clear hF hF2 hVR; have kf1 := kf 1; have mf1 := mf 1)
    all_goals
      go_wp2_with fail
      go_meet
      exact ⟨w3, A3, cc3, A4, cc4, HF.out, HF2.out, HVR.out, rfl⟩
  case rest =>
  obtain ⟨w3, A3, cc3, A4, cc4, hF, hF2, hVR, rfl⟩ := hcut
  obtain ⟨_, _, k0, k1, m0, m1, kf, mf, x3, y3, B1, B2, hb3⟩ := HK.out _ _ _ hF hF2
  have kf1 := kf 1
  have mf1 := mf 1
  have HF := hide hF
  have HF2 := hide hF2
  have HVR := hide hVR
  have HKF := hide kf
  have HMF := hide mf
  have HB := hide hb3
  clear z0 r0 x0 y0 hF hF2 hVR kf mf hb3
  generalize hwb : (w3.setCell ⟨g, 1, none⟩ (.slice A3 L cc3)).setCell ⟨gr, 1, none⟩ (.slice A4 K cc4) = wb
  have zb0 : wb.drew.cell? ⟨g, 0, none⟩ = some (.bool false) := by show wb.cell? _ = _; rw [← hwb]; exact (World.cell?_setCell_other _ _ _ _ (by simp)).trans ((World.cell?_setCell_other _ _ _ _ (by simp)).trans k0)
  have zb1 : wb.drew.cell? ⟨g, 1, none⟩ = some (.slice A3 L cc3) := by show wb.cell? _ = _; rw [← hwb]; exact (World.cell?_setCell_other _ _ _ _ (by simp)).trans (World.cell?_setCell_same _ ⟨g, 1, none⟩ _ k1)
  have rb0 : wb.drew.cell? ⟨gr, 0, none⟩ = some (.bool false) := by show wb.cell? _ = _; rw [← hwb]; exact (World.cell?_setCell_other _ _ _ _ (by simp)).trans ((World.cell?_setCell_other _ _ _ _ (by simp)).trans m0)
  have rb1 : wb.drew.cell? ⟨gr, 1, none⟩ = some (.slice A4 K cc4) := by show wb.cell? _ = _; rw [← hwb]; exact World.cell?_setCell_same _ ⟨gr, 1, none⟩ _ ((World.cell?_setCell_other _ _ _ _ (by simp)).trans m1)
  have xb0 : wb.drew.cell? ⟨gx, 0, none⟩ = some (.bool bx) := by show wb.cell? _ = _; rw [← hwb]; exact (World.cell?_setCell_other _ _ _ _ (by simp)).trans ((World.cell?_setCell_other _ _ _ _ (by simp)).trans x3)
  have yb0 : wb.drew.cell? ⟨gy, 0, none⟩ = some (.bool false) := by show wb.cell? _ = _; rw [← hwb]; exact (World.cell?_setCell_other _ _ _ _ (by simp)).trans ((World.cell?_setCell_other _ _ _ _ (by simp)).trans y3)
  have zf : wb.drew.frozen? ⟨g, 0, none⟩ = false := by show wb.frozen? _ = _; rw [← hwb]; simp [HKF.out 0]
  have rf : wb.drew.frozen? ⟨gr, 0, none⟩ = false := by show wb.frozen? _ = _; rw [← hwb]; simp [HMF.out 0]
  have HWE := hide hwb
  have HK0 := hide k0
  have HK1 := hide k1
  have HN0 := hide m0
  have HN1 := hide m1
  have HB1 := hide B1
  have HB2 := hide B2
  have RB2 : Hid (∀ b, (wb.setCell ⟨g, 0, none⟩ (.bool b)).drew.cell? ⟨gr, 0, none⟩ = some (.bool false) ∧ (wb.setCell ⟨g, 0, none⟩ (.bool b)).drew.frozen? ⟨gr, 0, none⟩ = false) := by
    intro b
    refine ⟨(World.cell?_setCell_other wb _ _ _ (by simp)).trans rb0, ?_⟩
    show (wb.setCell ⟨g, 0, none⟩ (.bool b)).frozen? _ = _
    simp
    exact rf
  have HEND : Hid (∀ (b c : Bool) W, decide (Q < 0) = b → decide (M < 0) = c → W = (wb.drew.setCell ⟨g, 0, none⟩ (.bool b)).setCell ⟨gr, 0, none⟩ (.bool c) → ∃ V R, BigAt W B g V Q ∧ BigAt W B gr R M ∧ V.ownBlock ≠ some gr ∧ R.ownBlock ≠ some g ∧ (∀ b, V.ownBlock = some b → R.ownBlock ≠ some b ∧ w.heap.size ≤ b) ∧ (∀ b, R.ownBlock = some b → w.heap.size ≤ b) ∧ Below B w W ∧ Blk W g ∧ Blk W gr) := by
    intro b c W h1 h2 h3
    subst h3
    obtain ⟨e1, e2, e3, e4, e5, e6, e7⟩ := two_end2 HG.out HH.out.gB HR.out.gB HF.out HF2.out (show g < w.drew.heap.size from HH.out.lt) (show gr < w.drew.heap.size from HR.out.lt) HBW.out HK0.out HK1.out HN0.out HN1.out HKF.out HMF.out h1 h2 HB1.out HB2.out HB.out (W := (wb.drew.setCell ⟨g, 0, none⟩ (.bool b)).setCell ⟨gr, 0, none⟩ (.bool c)) (by rw [← HWE.out])
    exact ⟨_, _, e1, e2, e3, e4, fun b hb => ⟨HVR.out b hb, (HF.out.1.own.block b hb).1⟩, fun b hb => (HF2.out.1.own.block b hb).1, e5, e6, e7⟩
  clear hwb k0 k1 kf1 mf1 x3 y3 B1 B2 z1 r1 x1 y1 HDIV HK
  have hgr : ¬ gr = g := fun e => HG.out e.symm
  have hgr2 : ¬ g = gr := HG.out
  go_upto_region 2 with fail
  rcases Nat.eq_zero_or_pos L with hL0 | hL0
  · rcases Nat.eq_zero_or_pos K with hK0 | hK0
    · subst hL0 hK0
      have hs1 : Hid (decide (Q < 0) = false) := HQ0.out rfl
      have hs2 : Hid (decide (M < 0) = false) := HM0.out rfl
      obtain ⟨rb2, rf2⟩ := RB2.out false
      clear HQ0 HQ1 HM0 HM1 RB2
      go_region
      all_goals
        go_wp2_with fail
      all_goals
        go_ret2
      all_goals
        exact ⟨rfl, HEND.out _ _ _ hs1.out hs2.out rfl⟩
    · subst hL0
      have hs1 : Hid (decide (Q < 0) = false) := HQ0.out rfl
      have hs2 : Hid (decide (M < 0) = bx) := HM1.out hK0
      obtain ⟨rb2, rf2⟩ := RB2.out false
      clear HQ0 HQ1 HM0 HM1 RB2
      go_region
      all_goals
        go_wp2_with fail
      all_goals
        go_ret2
      all_goals
        exact ⟨rfl, HEND.out _ _ _ hs1.out hs2.out rfl⟩
  · rcases Nat.eq_zero_or_pos K with hK0 | hK0
    · subst hK0
      have hs1 : Hid (decide (Q < 0) = bx) := HQ1.out hL0
      have hs2 : Hid (decide (M < 0) = false) := HM0.out rfl
      obtain ⟨rb2, rf2⟩ := RB2.out bx
      clear HQ0 HQ1 HM0 HM1 RB2
      go_region
      all_goals
        go_wp2_with fail
      all_goals
        go_ret2
      all_goals
        exact ⟨rfl, HEND.out _ _ _ hs1.out hs2.out rfl⟩
    · skip
      have hs1 : Hid (decide (Q < 0) = bx) := HQ1.out hL0
      have hs2 : Hid (decide (M < 0) = bx) := HM1.out hK0
      obtain ⟨rb2, rf2⟩ := RB2.out bx
      clear HQ0 HQ1 HM0 HM1 RB2
      go_region
      all_goals
        go_wp2_with fail
      all_goals
        go_ret2
      all_goals
        exact ⟨rfl, HEND.out _ _ _ hs1.out hs2.out rfl⟩
end Go.Proofs.YtjojjicpdfmopaaGreatDoor
