/- Great numbers: money.Ratio by 1 and 1: the amount itself. -/
import Derived.Test.YtmaaehajficnhaaGreatDoorDivD
import Derived.Test.YtmaaehajficnhaaGreatDoorEntD
namespace Go.Proofs.YtmaaehajficnhaaGreatDoor
open Go Go.RowKit
set_option linter.unusedVariables false

theorem mratio_any (n : Int) (w : World) : Calls Tryz.prog 35 #[.int .i64 n] w fun e w' => e = .returned (.bool (inB 0 1000000000 n)) ∧ w = w' := by
  unfold inB
  by_cases h1 : 0 ≤ n
  · go_enter Tryz.func35, Tryz.ntmps35
    go_wp2_with fail
    go_ret
    exact ⟨by simp [h1], rfl⟩
  · have h1' : n < 0 := by omega
    have h1d : decide (0 ≤ n) = false := by simpa using h1
    clear h1
    go_enter Tryz.func35, Tryz.ntmps35
    go_wp2_with fail
    go_ret
    exact ⟨by simp [h1d], rfl⟩

theorem BigAt.lower {w : World} {B B' g : Nat} {V : Value} {x : Int} (h : BigAt w B g V x) (hB : B' ≤ B) : BigAt w B' g V x := ⟨Nat.le_trans hB h.gB, h.c0, h.c1, h.fr, ⟨own_lower h.wds.own hB, h.wds.cap⟩, h.vg⟩
theorem BigAt.grown {w w' : World} {B g q : Nat} {V : Value} {x : Int} (h : BigAt w B g V x) (hg : w.grownBy w' (some q)) (h1 : g ≠ q) (h2 : V.ownBlock ≠ some q) : BigAt w' B g V x :=
  ⟨h.gB, hg.cell h.c0 (by simp [h1]), hg.cell h.c1 (by simp [h1]), fun j => frozen_grown2 (h.fr j) h.lt hg (by simp; exact fun e => h1 e.symm), ⟨h.wds.own.grown hg (.inr h2), h.wds.cap⟩, h.vg⟩
theorem BigRd.below {w w' : World} {g : Nat} {y : Int} {YA : Option Addr} {yn yc : Nat} (h : BigRd w g y YA yn yc) (hb : Below w.heap.size w w') : BigRd w' g y YA yn yc :=
  ⟨below_cell hb (World.block_lt_of_cell? _ _ h.c0) h.c0, below_cell hb (World.block_lt_of_cell? _ _ h.c1) h.c1, ⟨h.wds.1.below hb, h.wds.2⟩, h.cap⟩
/-- a number 1 that is read: its word -/
theorem BigRd.one {w : World} {g yn yc : Nat} {YA : Option Addr} (h : BigRd w g 1 YA yn yc) : ∃ yb yo, YA = some ⟨yb, yo, none⟩ ∧ yn = 1 ∧ w.cell? ⟨yb, yo, none⟩ = some (.int .u64 1) ∧ w.cell? ⟨g, 0, none⟩ = some (.bool false) := by
  rcases h.wds.cases with ⟨h0, _⟩ | ⟨_, h1, yb, yo, h2, h3⟩
  · cases h0
  · exact ⟨yb, yo, h2, h1, h3, h.c0⟩

set_option maxHeartbeats 1000000 in
set_option maxRecDepth 100000 in
theorem ratio_one (a : Int) (w : World) (h0 : -9223372036854775808 ≤ a) (h1 : a ≤ 9223372036854775807) :
    Calls Tryz.prog 20 #[.int .i64 a, .int .i64 1, .int .i64 1] w fun e w' => e = .returned (.tuple #[.int .i64 a, .nilIface]) ∧ Below w.heap.size w w' := by
  have hr : inB 0 1000000000 1 = true := rfl
  have H0 := hide h0
  have H1 := hide h1
  have HN : Hid (a.natAbs < W64) := by show _ < _; unfold W64; omega
  have HI : Hid (in64 a = true) := in64_yes a ⟨h0, h1⟩
  clear h0 h1
  go_enter Tryz.func20, Tryz.ntmps20
  go_wp2_with fail
  refine (mratio_any 1 _).mono ?_
  rintro e w1 ⟨rfl, rfl⟩
  rw [hr]
  go_wp2_with fail
  refine (mratio_any 1 _).mono ?_
  rintro e w1 ⟨rfl, rfl⟩
  rw [hr]
  go_wp2_with fail
  have hZ := BigAt.new w
  have hb1 : Below w.heap.size w (w.alloc (.cells #[.bool false, .slice none 0 0] 69)) := (Below.refl _ _).alloc (Nat.le_refl _) _
  refine (big1_new a _ H0.out H1.out).mono ?_
  rintro e w2 ⟨gx, XA, xn, xc, rfl, hX, hgx, kx, hb2⟩
  have hZ := hZ.below hb2
  have hb2 := bthen hb1 (Nat.le_refl _) hb2
  go_wp2_with fail
  refine (big1_new 1 _ (by omega) (by omega)).mono ?_
  rintro e w3 ⟨gy, YA, yn, yc, rfl, hY, hgy, ky, hb3⟩
  have hne : gx ≠ gy := by have := kx.lt; omega
  have hX := hX.below hb3
  have hZ := hZ.below hb3
  have kx := kx.below hb3
  have hb3 := bthen hb2 (Nat.le_refl _) hb3
  go_wp2_with fail
  refine (bigMul_any w.heap.size w.heap.size gx gy xn xc yn yc a 1 XA YA _ hb3.size hZ hX hY hne kx ky).mono ?_
  rintro e w4 ⟨rfl, V4, hP, hb4⟩
  have hb4 := hb3.trans hb4
  rw [Int.mul_one] at hP
  clear hX hZ hY kx ky hb3 hb2 hb1 hgx hgy hne
  have hs4 := hb4.size
  go_wp2_with fail
  have hA4 : Below w4.heap.size w4 (w4.alloc (.cells #[.bool false, .slice none 0 0] 69)) := (Below.refl _ _).alloc (Nat.le_refl _) _
  have hQ := BigAt.new w4
  have kq := Blk.new w4 #[.bool false, .slice none 0 0] 69
  refine (big1_new 1 _ (by omega) (by omega)).mono ?_
  rintro e w5 ⟨gd, DA, dn, dc, rfl, hD, hgd, kd, hb5⟩
  have hP := (hP.below hA4).below hb5
  have hQ := hQ.below hb5
  have kq := kq.below hb5
  have hq5 := kq.lt
  have hgd : w4.heap.size ≠ gd := by simp at hgd; omega
  have hb5 := bthen (hb4.trans (hA4.mono hs4)) (Nat.le_refl _) hb5
  have hs5 := hb5.size
  go_wp2_with fail
  have hA5 : Below w5.heap.size w5 (w5.alloc (.cells #[.bool false, .slice none 0 0] 69)) := (Below.refl _ _).alloc (Nat.le_refl _) _
  have hM := (BigAt.new w5).lower hs5
  have km := Blk.new w5 #[.bool false, .slice none 0 0] 69
  have hP := hP.below hA5
  have hQ := (hQ.below hA5).lower hs4
  have kq := kq.below hA5
  have kd := kd.below hA5
  have hD := hD.below hA5
  have hb6 := hb5.trans (hA5.mono hs5)
  have hs6 := hb6.size
  obtain ⟨XP, pn, pc, rfl, hPr⟩ := hP.rd HN.out
  obtain ⟨db, dO, rfl, rfl, hd1, hd0⟩ := hD.one
  have hqm : w4.heap.size ≠ w5.heap.size := by omega
  refine (divMod_one w.heap.size w4.heap.size w.heap.size gd w5.heap.size _ pc db dO dc a XP _ hs6 hQ hM hqm hgd hPr hd0 hD.c1 hd1 kq km kd).mono ?_
  rintro e w7 ⟨rfl, ⟨V7, hQ7, hv7⟩, hM7, hb7, kq7, km7⟩
  have hb7 := hb6.trans hb7
  have hs7 := hb7.size
  clear hP hPr hQ hM km kq kd hD hd1 hd0 hA4 hA5 hb4 hb5 hb6 kq7
  go_wp2_with fail
  refine (bigLsh_0 w.heap.size w5.heap.size _ hM7 km7 hs7).mono ?_
  rintro e w8 ⟨rfl, hM8, km8, hb8, hg8⟩
  have hQ8 := hQ7.grown hg8 hqm hv7
  have hb8 := hb7.trans hb8
  clear hM7 km7 hQ7 hb7 hg8
  go_wp2_with fail
  refine (big1_new 1 _ (by omega) (by omega)).mono ?_
  rintro e w9 ⟨gc, CA, cn, cc, rfl, hC, hgc, kc, hb9⟩
  obtain ⟨cb, co, rfl, rfl, hc1, hc0⟩ := hC.one
  have hmc : w5.heap.size ≠ gc := by have := km8.lt; omega
  have hM9 := hM8.below hb9
  have km9 := km8.below hb9
  have hQ9 := hQ8.below hb9
  have hb9 := bthen hb8 (Nat.le_refl _) hb9
  have hC1 := hC.c1
  clear hM8 km8 hQ8 hb8 hgc hC hc1
  go_wp2_with fail
  refine (bigCmp_01 w.heap.size w5.heap.size gc cb co cc _ hM9 hmc km9 kc hc0 hC1).mono ?_
  rintro e w10 ⟨rfl, k, rfl⟩
  have hQ10 := hQ9.below (bdrewN (Below.refl _ w9) k)
  have hb10 := bdrewN hb9 k
  clear hM9 km9 kc hc0 hC1 hQ9 hb9
  have HW : Hid (a.natAbs < W64 * W64) := by show _ < _; have := HN.out; unfold W64 at *; omega
  have hsv : smV a = a := if_pos HI.out
  have hse : smE a = 0 := if_pos HI.out
  go_wp2_with fail
  refine (msmall_any hQ10 HW.out).mono ?_
  rintro e w11 ⟨rfl, hb11⟩
  rw [hsv, hse]
  go_wp2_with fail
  go_ret2
  exact ⟨rfl, bthen hb10 (Nat.le_refl _) hb11⟩
end Go.Proofs.YtmaaehajficnhaaGreatDoor
