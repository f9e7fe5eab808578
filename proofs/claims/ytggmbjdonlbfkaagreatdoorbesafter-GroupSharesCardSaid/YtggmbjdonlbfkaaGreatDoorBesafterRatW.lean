/- Great numbers: money.Ratio by p and p: the amount itself. -/
import Derived.Test.YtggmbjdonlbfkaaGreatDoorBesafterDwE
import Derived.Test.YtggmbjdonlbfkaaGreatDoorBesafterDivC
import Derived.Test.YtggmbjdonlbfkaaGreatDoorBesafterEntD
namespace Go.Proofs.YtggmbjdonlbfkaaGreatDoorBesafter
open Go Go.RowKit
set_option linter.unusedVariables false

theorem mratioW_any (n : Int) (w : World) : Calls Tryz.prog 31 #[.int .i64 n] w fun e w' => e = .returned (.bool (inB 0 1000000000 n)) ∧ w = w' := by
  unfold inB
  by_cases h1 : 0 ≤ n
  · go_enter Tryz.func31, Tryz.ntmps31
    go_wp2_with fail
    go_ret
    exact ⟨by simp [h1], rfl⟩
  · have h1' : n < 0 := by omega
    have h1d : decide (0 ≤ n) = false := by simpa using h1
    clear h1
    go_enter Tryz.func31, Tryz.ntmps31
    go_wp2_with fail
    go_ret
    exact ⟨by simp [h1d], rfl⟩

theorem BigAt.lowerW {w : World} {B B' g : Nat} {V : Value} {x : Int} (h : BigAt w B g V x) (hB : B' ≤ B) : BigAt w B' g V x := ⟨Nat.le_trans hB h.gB, h.c0, h.c1, h.fr, ⟨own_lower h.wds.own hB, h.wds.cap⟩, h.vg⟩
theorem BigAt.grownW {w w' : World} {B g q : Nat} {V : Value} {x : Int} (h : BigAt w B g V x) (hg : w.grownBy w' (some q)) (h1 : g ≠ q) (h2 : V.ownBlock ≠ some q) : BigAt w' B g V x :=
  ⟨h.gB, hg.cell h.c0 (by simp [h1]), hg.cell h.c1 (by simp [h1]), fun j => frozen_grown2 (h.fr j) h.lt hg (by simp; exact fun e => h1 e.symm), ⟨h.wds.own.grown hg (.inr h2), h.wds.cap⟩, h.vg⟩
theorem BigRd.belowW {w w' : World} {g : Nat} {y : Int} {YA : Option Addr} {yn yc : Nat} (h : BigRd w g y YA yn yc) (hb : Below w.heap.size w w') : BigRd w' g y YA yn yc :=
  ⟨below_cell hb (World.block_lt_of_cell? _ _ h.c0) h.c0, below_cell hb (World.block_lt_of_cell? _ _ h.c1) h.c1, ⟨h.wds.1.below hb, h.wds.2⟩, h.cap⟩
/-- a number p that is read: its word -/
theorem BigRd.word {w : World} {g yn yc p : Nat} {YA : Option Addr} (h : BigRd w g (p : Int) YA yn yc) (hp : p ≠ 0) : ∃ yb yo, YA = some ⟨yb, yo, none⟩ ∧ yn = 1 ∧ w.cell? ⟨yb, yo, none⟩ = some (.int .u64 (p : Int)) ∧ w.cell? ⟨g, 0, none⟩ = some (.bool false) := by
  have hz : decide ((p : Int) < 0) = false := decide_eq_false (by omega)
  have hc0 := h.c0
  rw [hz] at hc0
  rcases h.wds.cases with ⟨h0, _⟩ | ⟨_, h1, yb, yo, h2, h3⟩
  · rw [Int.natAbs_natCast] at h0; exact absurd h0 hp
  · rw [Int.natAbs_natCast] at h3; exact ⟨yb, yo, h2, h1, h3, hc0⟩
/-- 0: no words, wherever they lie -/
theorem BigAt.zero {w : World} {B g : Nat} {V : Value} (h : BigAt w B g V 0) : ∃ A c, V = .slice A 0 c := by
  obtain ⟨A, c, e, _⟩ := h.wds.cap
  exact ⟨A, c, e⟩

set_option maxRecDepth 100000 in
theorem natLsh_z (A : Option Addr) (c : Nat) (w : World) : Calls Tryz.prog 65 #[.slice A 0 c, .slice A 0 c, .int .u64 1] w fun e w' => e = .returned (.slice A 0 c) ∧ ∃ n, w' = w.drewN n := by
  go_enter Tryz.func65, Tryz.ntmps65
  go_wp2_with fail
  go_ret
  exact ⟨rfl, 0, rfl⟩
theorem natCmp_z1 (c yc : Nat) (A YA : Option Addr) (w : World) : Calls Tryz.prog 66 #[.slice A 0 c, .slice YA 1 yc] w fun e w' => e = .returned (.int .i64 (-1)) ∧ ∃ n, w' = w.drewN n := by
  have := natCmp_len 0 1 c yc A YA w (by omega) (by omega) (by omega)
  simpa using this
set_option maxHeartbeats 1000000 in
set_option maxRecDepth 100000 in
/-- 0 and a number of one word -/
theorem bigCmp_z1 (B g gy yb yo yc c : Nat) (A : Option Addr) (w : World) (h : BigAt w B g (.slice A 0 c) 0) (hne : g ≠ gy) (b1 : Blk w g) (b2 : Blk w gy)
    (y0 : w.cell? ⟨gy, 0, none⟩ = some (.bool false)) (y1 : w.cell? ⟨gy, 1, none⟩ = some (.slice (some ⟨yb, yo, none⟩) 1 yc)) :
    Calls Tryz.prog 36 #[.pointer (some ⟨g, 0, none⟩), .pointer (some ⟨gy, 0, none⟩)] w fun e w' => e = .returned (.int .i64 (-1)) ∧ ∃ k, w' = w.drewN k := by
  have hpo := ptr_other hne b1 b2
  have z0 : w.cell? ⟨g, 0, none⟩ = some (.bool false) := h.c0
  have z1 := h.c1
  clear h b1 b2 hne
  go_enter Tryz.func36, Tryz.ntmps36
  go_wp2_with fail
  clear hpo
  go_quiet (fail)
  have z0 : (w.drewN nq).cell? ⟨g, 0, none⟩ = some (.bool false) := z0
  have z1 : (w.drewN nq).cell? ⟨g, 1, none⟩ = some (.slice A 0 c) := z1
  have y1 : (w.drewN nq).cell? ⟨gy, 1, none⟩ = some (.slice (some ⟨yb, yo, none⟩) 1 yc) := y1
  have hwf : ∃ k, w.drewN nq = w.drewN k := ⟨nq, rfl⟩
  generalize w.drewN nq = wa at z0 z1 y1 hwf ⊢
  have HWF := hide hwf
  clear hwf
  go_wp2_with fail
  go_quiet ((go_at_call 66; exact Calls.quiet_of (natCmp_z1 c yc A (some ⟨yb, yo, none⟩) _)))
  go_wp2_with fail
  go_ret
  obtain ⟨k0, hk⟩ := HWF.out
  exact ⟨rfl, k0 + nq, by rw [hk, drewN_add]⟩

set_option maxHeartbeats 4000000 in
set_option maxRecDepth 100000 in
/-- 0, shifted by one -/
theorem bigLsh_z (B g c : Nat) (A : Option Addr) (w : World) (h : BigAt w B g (.slice A 0 c) 0) (hk : Blk w g) (hBw : B ≤ w.heap.size) :
    Calls Tryz.prog 35 #[.pointer (some ⟨g, 0, none⟩), .pointer (some ⟨g, 0, none⟩), .int .u64 1] w fun e w' => e = .returned (.pointer (some ⟨g, 0, none⟩)) ∧ BigAt w' B g (.slice A 0 c) 0 ∧ Blk w' g ∧ Below B w w' ∧ w.grownBy w' (some g) := by
  have z0 : w.cell? ⟨g, 0, none⟩ = some (.bool false) := h.c0
  have z1 := h.c1
  have f0 := h.fr 0
  have f1 := h.fr 1
  have HH := hide h
  have HB := hide hk
  clear h hk
  go_enter Tryz.func35, Tryz.ntmps35
  go_wp2_with fail
  go_region_law (go_simp; go_at_call 65; refine (natLsh_z A c _).mono ?_; rintro e w3 ⟨rfl, n3, rfl⟩)
  all_goals
    go_wp2_with fail
  all_goals
    go_ret
    have hG : Gave w (w.drewN (1 + n3)) B (.slice A 0 c) (.slice A 0 c) (wordsOf (0 : Int).natAbs) := Gave.same HH.out.wds (1 + n3)
    have hb : Blk (w.drewN (1 + n3)) g := HB.out
    exact ⟨rfl, HH.out.put (r := 0) hG, (hb.setCell g 1 _).setCell g 0 _, HH.out.put_below (r := 0) hG (Below.refl _ _) hBw (Nat.le_refl _) _, only_setCell (only_setCell (only_drewN (only_refl w (some g)) (1 + n3)) 1 _) 0 _⟩

set_option maxHeartbeats 2000000 in
set_option maxRecDepth 100000 in
/-- what goes into it without a rest -/
theorem divMod_ex (B Bx g gx gy gr p yb yo yc : Nat) (x : Int) (VX : Value) (w : World) (hBw : B ≤ w.heap.size) (h : BigAt w B g (.slice none 0 0) 0) (hr : BigAt w B gr (.slice none 0 0) 0) (hg : g ≠ gr) (hgy : g ≠ gy) (hx : BigAt w Bx gx VX x) (hxl : x.natAbs < W64 * W64) (hp0 : p ≠ 0) (hp2 : p < W64) (hp1 : p = 1 → x.natAbs < W64) (hm : x.tmod (p : Int) = 0)
    (y0 : w.cell? ⟨gy, 0, none⟩ = some (.bool false)) (y1 : w.cell? ⟨gy, 1, none⟩ = some (.slice (some ⟨yb, yo, none⟩) 1 yc)) (hcy : w.cell? ⟨yb, yo, none⟩ = some (.int .u64 (p : Int))) (b1 : Blk w g) (b2 : Blk w gr) (b3 : Blk w gy) :
    Calls Tryz.prog 34 #[.pointer (some ⟨g, 0, none⟩), .pointer (some ⟨gx, 0, none⟩), .pointer (some ⟨gy, 0, none⟩), .pointer (some ⟨gr, 0, none⟩)] w
      fun e w' => e = .returned (.tuple #[.pointer (some ⟨g, 0, none⟩), .pointer (some ⟨gr, 0, none⟩)]) ∧ ∃ V R, BigAt w' B g V (x.tdiv (p : Int)) ∧ BigAt w' B gr R 0 ∧ V.ownBlock ≠ some gr ∧ Below B w w' ∧ Blk w' g ∧ Blk w' gr := by
  have hpo : ∀ k, (binOp .eql 68 (.pointer (some ⟨g, 0, none⟩)) (.pointer (some ⟨gy, 0, none⟩))).run Tryz.prog (w.drewN k) = .ok (.bool false) (w.drewN k) := fun k => ptr_other (w := w.drewN k) hgy b1 b3
  have z1 := h.c1
  have HQ : Hid (∀ k, Calls Tryz.prog 63 #[.pointer (some ⟨g, 0, none⟩), .pointer (some ⟨gx, 0, none⟩), .pointer (some ⟨gy, 0, none⟩), .pointer (some ⟨gr, 0, none⟩)] (w.drewN k)
      fun e w' => e = .returned (.tuple #[.pointer (some ⟨g, 0, none⟩), .pointer (some ⟨gr, 0, none⟩)]) ∧ ∃ V R, BigAt w' B g V (x.tdiv (p : Int)) ∧ BigAt w' B gr R 0 ∧ V.ownBlock ≠ some gr ∧ Below B w w' ∧ Blk w' g ∧ Blk w' gr) := fun k => by
    have hd : Below w.heap.size w (w.drewN k) := bdrewN (Below.refl _ w) k
    have hq := quoRem_any B Bx g gx gy gr p yb yo yc x VX (w.drewN k) hBw (h.below hd) (hr.below hd) hg (hx.below hd) hxl hp0 hp2 hp1 y0 y1 hcy b1 b2
    rw [hm] at hq
    refine hq.mono ?_
    rintro e w' ⟨he, V, R, h1, h2, h3, _, _, _, h4, h5, h6⟩
    exact ⟨he, V, R, h1, h2, h3, (bdrewN (Below.refl B w) k).trans h4, h5, h6⟩
  generalize x.tdiv (p : Int) = Q at HQ ⊢
  clear h hr hx hxl hp0 hp1 hp2 hm hcy b1 b2 b3 hBw
  go_enter Tryz.func34, Tryz.ntmps34
  go_wp2_with fail
  go_quiet ((go_at_call 61; exact Calls.quiet_of (alias_nil (some ⟨yb, yo, none⟩) 1 yc _)))
  go_wp2_with fail
  refine (HQ.out _).mono ?_
  rintro e w1 ⟨rfl, V, R, hZ, hM, hvr, hb, k1, k2⟩
  have m0 : w1.cell? ⟨gr, 0, none⟩ = some (.bool false) := hM.c0
  go_wp2_with fail
  go_ret2
  exact ⟨rfl, V, R, hZ, hM, hvr, hb, k1, k2⟩

theorem ratio_num {a : Int} {p : Nat} (hp : p ≠ 0) : (a * (p : Int)).tdiv (p : Int) = a ∧ (a * (p : Int)).tmod (p : Int) = 0 :=
  ⟨Int.mul_tdiv_cancel a (by omega), Int.mul_tmod_left a p⟩

set_option maxHeartbeats 1000000 in
set_option maxRecDepth 100000 in
theorem ratio_pp (a : Int) (p : Nat) (w : World) (h0 : -9223372036854775808 ≤ a) (h1 : a ≤ 9223372036854775807) (hp0 : p ≠ 0) (hp : p ≤ 1000000000) :
    Calls Tryz.prog 14 #[.int .i64 a, .int .i64 (p : Int), .int .i64 (p : Int)] w fun e w' => e = .returned (.tuple #[.int .i64 a, .nilIface]) ∧ Below w.heap.size w w' := by
  have hr : inB 0 1000000000 (p : Int) = true := by simp [inB]; omega
  have HI : Hid (in64 a = true) := in64_yes a ⟨h0, h1⟩
  have HW : Hid (a.natAbs < W64 * W64) := by show _ < _; unfold W64; omega
  have HXL : Hid ((a * (p : Int)).natAbs < W64 * W64) := by
    show _ < _
    rw [Int.natAbs_mul, Int.natAbs_natCast]
    have : a.natAbs * p ≤ 9223372036854775808 * 1000000000 := Nat.mul_le_mul (by omega) hp
    unfold W64; omega
  have HX1 : Hid (p = 1 → (a * (p : Int)).natAbs < W64) := by
    show _ → _
    rintro rfl
    unfold W64; omega
  obtain ⟨hq, hm⟩ := ratio_num (a := a) hp0
  have HQE := hide hq
  have HME := hide hm
  have HP : Hid (p < W64) := by show _ < _; unfold W64; omega
  have HP0 := hide hp0
  obtain ⟨x, hx⟩ : ∃ x, x = a * (p : Int) := ⟨_, rfl⟩
  have HXE := hide hx
  rw [← hx] at HXL HX1 HQE HME
  have H0 := hide h0
  have H1 := hide h1
  obtain ⟨P, hP⟩ : ∃ P : Int, P = (p : Int) := ⟨_, rfl⟩
  have hPb : Hid (-9223372036854775808 ≤ P ∧ P ≤ 9223372036854775807) := by show _ ∧ _; omega
  have hPn : (P == 0) = false := by rw [beq_eq_false_iff_ne]; omega
  have hPn2 : ¬ P = 0 := by omega
  have HPE := hide hP
  rw [← hP] at hr ⊢
  clear h0 h1 hp0 hp hq hm hx hP
  go_enter Tryz.func14, Tryz.ntmps14
  go_wp2_with fail
  refine (mratioW_any P _).mono ?_
  rintro e w1 ⟨rfl, rfl⟩
  rw [hr]
  go_wp2_with fail
  refine (mratioW_any P _).mono ?_
  rintro e w1 ⟨rfl, rfl⟩
  rw [hr]
  go_wp2_with fail
  have hZ := BigAt.new w
  have hb1 : Below w.heap.size w (w.alloc (.cells #[.bool false, .slice none 0 0] 72)) := (Below.refl _ _).alloc (Nat.le_refl _) _
  refine (big1_new a _ H0.out H1.out).mono ?_
  rintro e w2 ⟨gx, XA, xn, xc, rfl, hX, hgx, kx, hb2⟩
  have hZ := hZ.below hb2
  have hb2 := bthen hb1 (Nat.le_refl _) hb2
  go_wp2_with fail
  refine (big1_new P _ hPb.out.1 hPb.out.2).mono ?_
  rintro e w3 ⟨gy, YA, yn, yc, rfl, hY, hgy, ky, hb3⟩
  have hne : gx ≠ gy := by have := kx.lt; omega
  have hX := hX.belowW hb3
  have hZ := hZ.below hb3
  have kx := kx.below hb3
  have hb3 := bthen hb2 (Nat.le_refl _) hb3
  go_wp2_with fail
  refine (bigMul_any w.heap.size w.heap.size gx gy xn xc yn yc a P XA YA _ hb3.size hZ hX hY hne kx ky).mono ?_
  rintro e w4 ⟨rfl, V4, hP4, hb4⟩
  have hb4 := hb3.trans hb4
  rw [HPE.out, ← HXE.out] at hP4
  clear hX hZ hY kx ky hb3 hb2 hb1 hgx hgy hne
  have hs4 := hb4.size
  go_wp2_with fail
  have hA4 : Below w4.heap.size w4 (w4.alloc (.cells #[.bool false, .slice none 0 0] 72)) := (Below.refl _ _).alloc (Nat.le_refl _) _
  have hQ := BigAt.new w4
  have kq := Blk.new w4 #[.bool false, .slice none 0 0] 72
  refine (big1_new P _ hPb.out.1 hPb.out.2).mono ?_
  rintro e w5 ⟨gd, DA, dn, dc, rfl, hD, hgd, kd, hb5⟩
  have hP4 := (hP4.below hA4).below hb5
  have hQ := hQ.below hb5
  have kq := kq.below hb5
  have hq5 := kq.lt
  have hgd : w4.heap.size ≠ gd := by simp at hgd; omega
  have hb5 := bthen (hb4.trans (hA4.mono hs4)) (Nat.le_refl _) hb5
  have hs5 := hb5.size
  go_wp2_with fail
  have hA5 : Below w5.heap.size w5 (w5.alloc (.cells #[.bool false, .slice none 0 0] 72)) := (Below.refl _ _).alloc (Nat.le_refl _) _
  have hM := (BigAt.new w5).lowerW hs5
  have km := Blk.new w5 #[.bool false, .slice none 0 0] 72
  have hP4 := hP4.below hA5
  have hQ := (hQ.below hA5).lowerW hs4
  have kq := kq.below hA5
  have kd := kd.below hA5
  have hD := hD.belowW hA5
  have hb6 := hb5.trans (hA5.mono hs5)
  have hs6 := hb6.size
  rw [HPE.out] at hD
  obtain ⟨db, dO, rfl, rfl, hd1, hd0⟩ := hD.word HP0.out
  have hqm : w4.heap.size ≠ w5.heap.size := by omega
  have hdm := divMod_ex w.heap.size w.heap.size w4.heap.size w.heap.size gd w5.heap.size p db dO dc x V4 _ hs6 hQ hM hqm hgd hP4 HXL.out HP0.out HP.out HX1.out HME.out hd0 hD.c1 hd1 kq km kd
  rw [HQE.out] at hdm
  refine hdm.mono ?_
  rintro e w7 ⟨rfl, V7, R7, hQ7, hM7, hv7, hb7, kq7, km7⟩
  clear hdm
  have hb7 := hb6.trans hb7
  have hs7 := hb7.size
  clear hP4 hQ hM km kq kd hD hd1 hd0 hA4 hA5 hb4 hb5 hb6 kq7
  obtain ⟨RA, rc, rfl⟩ := hM7.zero
  go_wp2_with fail
  refine (bigLsh_z w.heap.size w5.heap.size rc RA _ hM7 km7 hs7).mono ?_
  rintro e w8 ⟨rfl, hM8, km8, hb8, hg8⟩
  have hQ8 := hQ7.grownW hg8 hqm hv7
  have hb8 := hb7.trans hb8
  clear hM7 km7 hQ7 hb7 hg8
  go_wp2_with fail
  refine (big1_new P _ hPb.out.1 hPb.out.2).mono ?_
  rintro e w9 ⟨gc, CA, cn, cc, rfl, hC, hgc, kc, hb9⟩
  rw [HPE.out] at hC
  obtain ⟨cb, co, rfl, rfl, hc1, hc0⟩ := hC.word HP0.out
  have hmc : w5.heap.size ≠ gc := by have := km8.lt; omega
  have hM9 := hM8.below hb9
  have km9 := km8.below hb9
  have hQ9 := hQ8.below hb9
  have hb9 := bthen hb8 (Nat.le_refl _) hb9
  have hC1 := hC.c1
  clear hM8 km8 hQ8 hb8 hgc hC hc1
  go_wp2_with fail
  refine (bigCmp_z1 w.heap.size w5.heap.size gc cb co cc rc RA _ hM9 hmc km9 kc hc0 hC1).mono ?_
  rintro e w10 ⟨rfl, k, rfl⟩
  have hQ10 := hQ9.below (bdrewN (Below.refl _ w9) k)
  have hb10 := bdrewN hb9 k
  clear hM9 km9 kc hc0 hC1 hQ9 hb9
  have hsv : smV a = a := if_pos HI.out
  have hse : smE a = 0 := if_pos HI.out
  go_wp2_with fail
  refine (msmall_any hQ10 HW.out).mono ?_
  rintro e w11 ⟨rfl, hb11⟩
  rw [hsv, hse]
  go_wp2_with fail
  go_ret2
  exact ⟨rfl, bthen hb10 (Nat.le_refl _) hb11⟩
theorem ratio_one (a : Int) (w : World) (h0 : -9223372036854775808 ≤ a) (h1 : a ≤ 9223372036854775807) :
    Calls Tryz.prog 14 #[.int .i64 a, .int .i64 1, .int .i64 1] w fun e w' => e = .returned (.tuple #[.int .i64 a, .nilIface]) ∧ Below w.heap.size w w' := ratio_pp a 1 w h0 h1 (by decide) (by decide)
end Go.Proofs.YtggmbjdonlbfkaaGreatDoorBesafter
