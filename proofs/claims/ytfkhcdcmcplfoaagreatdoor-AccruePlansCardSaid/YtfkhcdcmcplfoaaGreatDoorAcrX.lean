/- accrue.numbers, upto, part, Part: what they return. -/
import Derived.Test.YtfkhcdcmcplfoaaGreatDoorQuoX
import Derived.Test.YtfkhcdcmcplfoaaGreatDoorPlnP
import Derived.Deep.RegionHeld3
import Derived.Test.YtfkhcdcmcplfoaaGreatDoorChartX
namespace Go.Proofs.YtfkhcdcmcplfoaaGreatDoor
open Go Go.RowKit
set_option linter.unusedVariables false

/-- a plan in a block of its own -/
structure PlnAt (w : World) (g : Nat) (x : Pln) : Prop where
  c0 : w.cell? ⟨g, 0, none⟩ = some (.string x.ref)
  c1 : w.cell? ⟨g, 1, none⟩ = some (.int .i64 x.ent)
  c2 : w.cell? ⟨g, 2, none⟩ = some (.string x.fr)
  c3 : w.cell? ⟨g, 3, none⟩ = some (.string x.to)
  c4 : w.cell? ⟨g, 4, none⟩ = some (.string x.cur)
  c5 : w.cell? ⟨g, 5, none⟩ = some (.int .i64 x.amt)
  c6 : w.cell? ⟨g, 6, none⟩ = some (.int .i64 x.first)
  c7 : w.cell? ⟨g, 7, none⟩ = some (.int .i64 x.per)
theorem PlnAt.lt {w : World} {g : Nat} {x : Pln} (h : PlnAt w g x) : g < w.heap.size := World.block_lt_of_cell? _ _ h.c0
theorem PlnAt.below {w w' : World} {g : Nat} {x : Pln} (h : PlnAt w g x) (hb : Below w.heap.size w w') : PlnAt w' g x :=
  ⟨below_cell hb h.lt h.c0, below_cell hb h.lt h.c1, below_cell hb h.lt h.c2, below_cell hb h.lt h.c3, below_cell hb h.lt h.c4, below_cell hb h.lt h.c5, below_cell hb h.lt h.c6, below_cell hb h.lt h.c7⟩
theorem PlnAt.grown {w w' : World} {g : Nat} {x : Pln} {row : Option Nat} (h : PlnAt w g x) (hg : w.grownBy w' row) (hne : row ≠ some g) : PlnAt w' g x :=
  ⟨hg.cell h.c0 (fun e => hne e.symm), hg.cell h.c1 (fun e => hne e.symm), hg.cell h.c2 (fun e => hne e.symm), hg.cell h.c3 (fun e => hne e.symm), hg.cell h.c4 (fun e => hne e.symm), hg.cell h.c5 (fun e => hne e.symm), hg.cell h.c6 (fun e => hne e.symm), hg.cell h.c7 (fun e => hne e.symm)⟩
theorem PlnAt.eight {w : World} {g : Nat} {x : Pln} (h : PlnAt w g x) : w.cell? ⟨g, 0, none⟩ = some (.string x.ref) ∧ w.cell? ⟨g, 1, none⟩ = some (.int .i64 x.ent) ∧ w.cell? ⟨g, 2, none⟩ = some (.string x.fr) ∧ w.cell? ⟨g, 3, none⟩ = some (.string x.to) ∧ w.cell? ⟨g, 4, none⟩ = some (.string x.cur) ∧ w.cell? ⟨g, 5, none⟩ = some (.int .i64 x.amt) ∧ w.cell? ⟨g, 6, none⟩ = some (.int .i64 x.first) ∧ w.cell? ⟨g, 7, none⟩ = some (.int .i64 x.per) :=
  ⟨h.c0, h.c1, h.c2, h.c3, h.c4, h.c5, h.c6, h.c7⟩
theorem PlnAt.new (w : World) (x : Pln) : PlnAt (w.alloc (.cells #[.string x.ref, .int .i64 x.ent, .string x.fr, .string x.to, .string x.cur, .int .i64 x.amt, .int .i64 x.first, .int .i64 x.per] 37)) w.heap.size x := by constructor <;> simp

theorem BigRd.below {w w' : World} {g : Nat} {y : Int} {YA : Option Addr} {yn yc : Nat} (h : BigRd w g y YA yn yc) (hb : Below w.heap.size w w') : BigRd w' g y YA yn yc :=
  ⟨below_cell hb (World.block_lt_of_cell? _ _ h.c0) h.c0, below_cell hb (World.block_lt_of_cell? _ _ h.c1) h.c1, ⟨h.wds.1.below hb, h.wds.2⟩, h.cap⟩
theorem own_ne {w : World} {B g : Nat} {V : Value} {x : Int} (h : BigAt w B g V x) {q : Nat} (hq : w.heap.size ≤ q) : V.ownBlock ≠ some q := by
  intro e
  have := (h.wds.own.block q e).2
  omega

set_option maxRecDepth 100000 in
theorem numbers_any (x : Pln) (w : World) : Calls Tryz.prog 33 #[plnV x] w fun e w' => e = .returned (errV (numE x)) ∧ Below w.heap.size w w' := by
  have hb : Below w.heap.size w (w.alloc (.cells #[.string x.ref, .int .i64 x.ent, .string x.fr, .string x.to, .string x.cur, .int .i64 x.amt, .int .i64 x.first, .int .i64 x.per] 37)) := (Below.refl _ _).alloc (Nat.le_refl _) _
  unfold plnV
  by_cases h1 : x.amt = 0
  · have HF := hide (numE_1 h1)
    have h1b : (x.amt == 0) = true := by simpa using h1
    clear h1
    go_enter Tryz.func33, Tryz.ntmps33
    go_wp2_with fail
    go_ret
    exact ⟨by rw [HF.out]; rfl, hb⟩
  · have h1b : (x.amt == 0) = false := by simpa using h1
    cases h2 : inB (-1000000000000000) 1000000000000000 x.amt with
    | false =>
      have HF := hide (numE_2 h1 h2)
      have H2 := hide h2
      clear h1 h2
      go_enter Tryz.func33, Tryz.ntmps33
      go_wp2_with fail
      refine (amount_any _ _).mono ?_
      rintro e w1 ⟨rfl, rfl⟩
      rw [H2.out]
      go_wp2_with fail
      go_ret
      exact ⟨by rw [HF.out]; rfl, hb⟩
    | true =>
      cases h3 : inB 1 120 x.per with
      | false =>
        have HF := hide (numE_3 h1 h2 h3)
        have H2 := hide h2
        have H3 := hide h3
        clear h1 h2 h3
        go_enter Tryz.func33, Tryz.ntmps33
        go_wp2_with fail
        refine (amount_any _ _).mono ?_
        rintro e w1 ⟨rfl, rfl⟩
        rw [H2.out]
        go_wp2_with fail
        refine (period_any _ _).mono ?_
        rintro e w1 ⟨rfl, rfl⟩
        rw [H3.out]
        go_wp2_with fail
        go_ret
        exact ⟨by rw [HF.out]; rfl, hb⟩
      | true =>
        cases h4 : inB 1 120 x.first with
        | false =>
          have HF := hide (numE_4 h1 h2 h3 h4)
          have H2 := hide h2
          have H3 := hide h3
          have H4 := hide h4
          clear h1 h2 h3 h4
          go_enter Tryz.func33, Tryz.ntmps33
          go_wp2_with fail
          refine (amount_any _ _).mono ?_
          rintro e w1 ⟨rfl, rfl⟩
          rw [H2.out]
          go_wp2_with fail
          refine (period_any _ _).mono ?_
          rintro e w1 ⟨rfl, rfl⟩
          rw [H3.out]
          go_wp2_with fail
          refine (period_any _ _).mono ?_
          rintro e w1 ⟨rfl, rfl⟩
          rw [H4.out]
          go_wp2_with fail
          go_ret
          exact ⟨by rw [HF.out]; rfl, hb⟩
        | true =>
          have HF := hide (numE_5 h1 h2 h3 h4)
          have H2 := hide h2
          have H3 := hide h3
          have H4 := hide h4
          clear h1 h2 h3 h4
          go_enter Tryz.func33, Tryz.ntmps33
          go_wp2_with fail
          refine (amount_any _ _).mono ?_
          rintro e w1 ⟨rfl, rfl⟩
          rw [H2.out]
          go_wp2_with fail
          refine (period_any _ _).mono ?_
          rintro e w1 ⟨rfl, rfl⟩
          rw [H3.out]
          go_wp2_with fail
          refine (period_any _ _).mono ?_
          rintro e w1 ⟨rfl, rfl⟩
          rw [H4.out]
          go_wp2_with fail
          go_ret
          exact ⟨by rw [HF.out]; rfl, hb⟩

set_option maxHeartbeats 2000000 in
set_option maxRecDepth 100000 in
theorem upto_any (x : Pln) (k : Int) (w : World) (hk0 : 0 ≤ k) (hk1 : k ≤ 120) (hp0 : 1 ≤ x.per) (hp1 : x.per ≤ 120) (ha0 : -1000000000000000 ≤ x.amt) (ha1 : x.amt ≤ 1000000000000000) :
    Calls Tryz.prog 46 #[plnV x, .int .i64 k] w fun e w' => e = .returned (.int .i64 (uptoI x.amt x.per k)) ∧ Below w.heap.size w w' := by
  have HM : Hid ((x.amt * k).natAbs < W64) := by
    show _ < _
    have h1 : (x.amt * k).natAbs ≤ 1000000000000000 * 120 := by rw [Int.natAbs_mul]; exact Nat.mul_le_mul (by omega) (by omega)
    unfold W64; omega
  have HU : Hid (in64 (uptoI x.amt x.per k) = true) := by
    show _ = _
    have := upto_bnd x.amt x.per k hk0 hk1 hp0 (by omega)
    exact in64_yes _ (by omega)
  obtain ⟨P, hP⟩ := Int.eq_ofNat_of_zero_le (show 0 ≤ x.per by omega)
  have HP0 : Hid (0 < P) := by show _ < _; omega
  have HP2 : Hid (P < W64) := by show _ < _; unfold W64; omega
  have HA : Hid (-9223372036854775808 ≤ x.amt ∧ x.amt ≤ 9223372036854775807) := ⟨by omega, by omega⟩
  have HK : Hid (-9223372036854775808 ≤ k ∧ k ≤ 9223372036854775807) := ⟨by omega, by omega⟩
  have HPP : Hid (-9223372036854775808 ≤ x.per ∧ x.per ≤ 9223372036854775807) := ⟨by omega, by omega⟩
  have HPE := hide hP
  obtain ⟨u, hu⟩ : ∃ u, u = uptoI x.amt x.per k := ⟨_, rfl⟩
  rw [← hu] at HU
  rw [← hu]
  have HUE := hide hu
  clear hk0 hk1 hp0 hp1 ha0 ha1 hP hu
  unfold plnV
  go_enter Tryz.func46, Tryz.ntmps46
  go_upto_region 1 with fail
  have hb1 : Below w.heap.size w (w.alloc (.cells #[.string x.ref, .int .i64 x.ent, .string x.fr, .string x.to, .string x.cur, .int .i64 x.amt, .int .i64 x.first, .int .i64 x.per] 37)) := (Below.refl _ _).alloc (Nat.le_refl _) _
  have hX1 := PlnAt.new w x
  have hs1 : w.heap.size ≤ (w.alloc (.cells #[.string x.ref, .int .i64 x.ent, .string x.fr, .string x.to, .string x.cur, .int .i64 x.amt, .int .i64 x.first, .int .i64 x.per] 37)).heap.size := hb1.size
  generalize w.alloc (.cells #[.string x.ref, .int .i64 x.ent, .string x.fr, .string x.to, .string x.cur, .int .i64 x.amt, .int .i64 x.first, .int .i64 x.per] 37) = W1 at hb1 hX1 hs1 ⊢
  have c5 := hX1.c5
  have c7 := hX1.c7
  have hgl := hX1.lt
  go_wp2_with fail
  have hZ := BigAt.new W1
  have hbz : Below W1.heap.size W1 (W1.alloc (.cells #[.bool false, .slice none 0 0] 118)) := (Below.refl _ _).alloc (Nat.le_refl _) _
  refine (newInt_new x.amt _ HA.out.1 HA.out.2).mono ?_
  rintro e w2 ⟨gx, XA, xn, xc, rfl, hX, hgx, kx, hb2⟩
  have hZ := hZ.below hb2
  have hb2 := bthen hbz (Nat.le_refl _) hb2
  go_wp2_with fail
  refine (newInt_new k _ HK.out.1 HK.out.2).mono ?_
  rintro e w3 ⟨gy, YA, yn, yc, rfl, hY, hgy, ky, hb3⟩
  have hne : gx ≠ gy := by have := kx.lt; omega
  have hX := hX.below hb3
  have hZ := hZ.below hb3
  have kx := kx.below hb3
  have hb3 := bthen hb2 (Nat.le_refl _) hb3
  go_wp2_with fail
  refine (bigMul_any W1.heap.size W1.heap.size gx gy xn xc yn yc x.amt k XA YA _ hb3.size hZ hX hY hne kx ky).mono ?_
  rintro e w4 ⟨rfl, V4, hP, hb4⟩
  have hb4 : Below W1.heap.size W1 w4 := hb3.trans hb4
  have d7 := below_cell hb4 hgl c7
  have hs4 := hb4.size
  clear hX hZ hY kx ky hb3 hb2 hbz hgx hgy hne c5 c7
  go_wp2_with fail
  refine (newInt_new x.per _ HPP.out.1 HPP.out.2).mono ?_
  rintro e w5 ⟨gd, DA, dn, dc, rfl, hD, hgd, kd, hb5⟩
  have hv := own_ne hP hgd
  have hP5 := hP.below hb5
  have hb5 := bthen hb4 (Nat.le_refl _) hb5
  have hs5 := hb5.size
  have hD0 : w5.cell? ⟨gd, 0, none⟩ = some (.bool false) := by
    have := hD.c0
    rwa [show decide (x.per < 0) = false by rw [HPE.out, decide_eq_false_iff_not]; omega] at this
  have hD1 := hD.c1
  rcases hD.wds.cases with ⟨h0, _⟩ | ⟨_, rfl, db, dO, rfl, hd1⟩
  · exact absurd h0 (by rw [HPE.out]; have := HP0.out; omega)
  have hd1 : w5.cell? ⟨db, dO, none⟩ = some (.int .u64 (P : Int)) := by rw [hd1, HPE.out]; rfl
  have he : (x.amt * k).tdiv (P : Int) = u := by rw [HUE.out, uptoI, HPE.out]
  have HE := hide he
  clear hP hb4 hD he
  go_wp2_with fail
  refine (bigQuo_self W1.heap.size W1.heap.size gd P db dO dc V4 (x.amt * k) _ hs5 hP5 HM.out HP0.out HP2.out hv hD0 hD1 hd1).mono ?_
  rintro e w6 ⟨rfl, V6, hQ, hb6⟩
  rw [HE.out] at hQ
  have hb6 := hb5.trans hb6
  clear hD0 hD1 hd1 hP5 hb5
  go_wp2_with fail
  refine (int64_any hQ HU.out).mono ?_
  rintro e w7 ⟨rfl, n7, rfl⟩
  go_wp2_with fail
  go_ret
  exact ⟨rfl, bdrewN (hb1.trans (hb6.mono hs1)) n7⟩
end Go.Proofs.YtfkhcdcmcplfoaaGreatDoor

namespace Go.Proofs.YtfkhcdcmcplfoaaGreatDoor
open Go Go.RowKit
set_option linter.unusedVariables false

set_option maxHeartbeats 2000000 in
set_option maxRecDepth 100000 in
theorem apart_any (x : Pln) (period : Int) (w : World) (hn : numE x = 0) (h0 : 1 ≤ period) (h1 : period ≤ 120) :
    Calls Tryz.prog 24 #[plnV x, .int .i64 period] w fun e w' => e = .returned (.int .i64 (partOf x period)) ∧ Below w.heap.size w w' := by
  obtain ⟨_, ⟨a0, a1⟩, ⟨p0, p1⟩, f0, f1⟩ := numE_ok hn
  clear hn
  have hb : Below w.heap.size w (w.alloc (.cells #[.string x.ref, .int .i64 x.ent, .string x.fr, .string x.to, .string x.cur, .int .i64 x.amt, .int .i64 x.first, .int .i64 x.per] 37)) := (Below.refl _ _).alloc (Nat.le_refl _) _
  have hX := PlnAt.new w x
  have hs : w.heap.size ≤ (w.alloc (.cells #[.string x.ref, .int .i64 x.ent, .string x.fr, .string x.to, .string x.cur, .int .i64 x.amt, .int .i64 x.first, .int .i64 x.per] 37)).heap.size := hb.size
  by_cases k1 : period - x.first + 1 < 1
  · have HF : Hid (partOf x period = 0) := by show _ = _; unfold partOf; rw [if_pos (by omega)]
    unfold plnV
    go_enter Tryz.func24, Tryz.ntmps24
    go_wp2_with fail
    go_ret
    exact ⟨by rw [HF.out]; rfl, hb⟩
  · by_cases k2 : x.per < period - x.first + 1
    · have HF : Hid (partOf x period = 0) := by show _ = _; unfold partOf; rw [if_neg (by omega), if_pos (by omega)]
      unfold plnV
      go_enter Tryz.func24, Tryz.ntmps24
      go_wp2_with fail
      go_ret
      exact ⟨by rw [HF.out]; rfl, hb⟩
    · have HF : Hid (partOf x period = uptoI x.amt x.per (period - x.first + 1) - uptoI x.amt x.per (period - x.first + 1 - 1)) := by
        show _ = _
        unfold partOf
        rw [if_neg (by omega), if_neg (by omega), show period - x.first + 1 - 1 = period - x.first from by omega]
      have HCK : Hid (∀ (k : Int) (W : World), 0 ≤ k → k ≤ 120 → Calls Tryz.prog 46 #[.agg #[.string x.ref, .int .i64 x.ent, .string x.fr, .string x.to, .string x.cur, .int .i64 x.amt, .int .i64 x.first, .int .i64 x.per], .int .i64 k] W fun e w' => e = .returned (.int .i64 (uptoI x.amt x.per k)) ∧ Below W.heap.size W w') := fun k W h1 h2 => upto_any x k W h1 h2 p0 p1 a0 a1
      have hd1 := upto_bnd x.amt x.per (period - x.first + 1) (by omega) (by omega) (by omega) (by omega)
      have hd2 := upto_bnd x.amt x.per (period - x.first + 1 - 1) (by omega) (by omega) (by omega) (by omega)
      have hk1 : 1 ≤ period - x.first + 1 := by omega
      have hk2 : period - x.first + 1 ≤ 120 := by omega
      unfold plnV
      go_enter Tryz.func24, Tryz.ntmps24
      go_upto_region 4 with fail
      generalize w.alloc (.cells #[.string x.ref, .int .i64 x.ent, .string x.fr, .string x.to, .string x.cur, .int .i64 x.amt, .int .i64 x.first, .int .i64 x.per] 37) = W1 at hX hb hs ⊢
      have HF := HF.out
      clear k1 k2 h0 h1 f0 f1 a0 a1 p0 p1
      generalize period - x.first + 1 = K at HF hd1 hd2 hk1 hk2 ⊢
      have e1a : -120000000000000000 ≤ uptoI x.amt x.per K := by omega
      have e1b : uptoI x.amt x.per K ≤ 120000000000000000 := by omega
      have e2a : -120000000000000000 ≤ uptoI x.amt x.per (K - 1) := by omega
      have e2b : uptoI x.amt x.per (K - 1) ≤ 120000000000000000 := by omega
      have hwk : IntKind.i64.wrap (K - 1) = K - 1 := IntWalk.i64_in _ (by omega)
      have hwd : IntKind.i64.wrap (uptoI x.amt x.per K - uptoI x.amt x.per (K - 1)) = uptoI x.amt x.per K - uptoI x.amt x.per (K - 1) := IntWalk.i64_in _ (by omega)
      have HF := hide HF
      have HP : Hid (PlnAt W1.drew w.heap.size x) := ⟨hX.c0, hX.c1, hX.c2, hX.c3, hX.c4, hX.c5, hX.c6, hX.c7⟩
      have HBW : Hid (Below w.heap.size w W1.drew) := bdrewN hb 1
      clear hd1 hd2 hX hb hs
      have hS := HP.out.eight
      go_region_held3 (fun w' => w'.cell? ⟨w.heap.size, 0, none⟩ = some (.string x.ref) ∧ w'.cell? ⟨w.heap.size, 1, none⟩ = some (.int .i64 x.ent) ∧ w'.cell? ⟨w.heap.size, 2, none⟩ = some (.string x.fr) ∧ w'.cell? ⟨w.heap.size, 3, none⟩ = some (.string x.to) ∧ w'.cell? ⟨w.heap.size, 4, none⟩ = some (.string x.cur) ∧ w'.cell? ⟨w.heap.size, 5, none⟩ = some (.int .i64 x.amt) ∧ w'.cell? ⟨w.heap.size, 6, none⟩ = some (.int .i64 x.first) ∧ w'.cell? ⟨w.heap.size, 7, none⟩ = some (.int .i64 x.per)) (first | exact hS) (first | (go_at_call 46; refine (HCK.out _ _ (by omega) (by omega)).mono ?_; rintro e w2 ⟨rfl, hb2⟩; have HP := hide (HP.out.below hb2); have hS := HP.out.eight; have HBW := hide (bthen HBW.out (Nat.le_refl _) hb2); clear hb2))
      all_goals
        go_wp2_with fail
      all_goals
        go_ret
        exact ⟨by rw [HF.out]; rfl, HBW.out⟩

set_option maxRecDepth 100000 in
theorem aPart_ok (x : Pln) (period : Int) (w : World) (hn : numE x = 0) (h0 : 1 ≤ period) (h1 : period ≤ 120) :
    Calls Tryz.prog 13 #[plnV x, .int .i64 period] w fun e w' => e = .returned (.tuple #[.int .i64 (partOf x period), .nilIface]) ∧ Below w.heap.size w w' := by
  have hp : inB 1 120 period = true := inB_iff.2 ⟨h0, h1⟩
  have HP := hide hp
  have hb : Below w.heap.size w (w.alloc (.cells #[.string x.ref, .int .i64 x.ent, .string x.fr, .string x.to, .string x.cur, .int .i64 x.amt, .int .i64 x.first, .int .i64 x.per] 37)) := (Below.refl _ _).alloc (Nat.le_refl _) _
  have hX := PlnAt.new w x
  have hev : errV (numE x) = .nilIface := by rw [hn]; rfl
  have HE := hide hev
  have HN := hide hn
  have H0 := hide h0
  have H1 := hide h1
  obtain ⟨v, hv⟩ : ∃ v, v = partOf x period := ⟨_, rfl⟩
  rw [← hv]
  have HV := hide hv
  clear hp hev hn h0 h1 hv
  go_enter Tryz.func13, Tryz.ntmps13
  unfold plnV
  go_upto_region 1 with fail
  generalize w.alloc (.cells #[.string x.ref, .int .i64 x.ent, .string x.fr, .string x.to, .string x.cur, .int .i64 x.amt, .int .i64 x.first, .int .i64 x.per] 37) = W1 at hX hb ⊢
  have hX0 := hX
  obtain ⟨c0, c1, c2, c3, c4, c5, c6, c7⟩ := hX
  go_wp2_with fail
  refine (numbers_any x _).mono ?_
  rintro e w2 ⟨rfl, hb2⟩
  rw [HE.out]
  have hX2 := hX0.below hb2
  have hb2 := bthen hb (Nat.le_refl _) hb2
  obtain ⟨d0, d1, d2, d3, d4, d5, d6, d7⟩ := hX2
  clear c0 c1 c2 c3 c4 c5 c6 c7 hX0
  go_wp2_with fail
  refine (period_any _ _).mono ?_
  rintro e w3 ⟨rfl, rfl⟩
  rw [HP.out]
  go_wp2_with fail
  refine (apart_any x period _ HN.out H0.out H1.out).mono ?_
  rintro e w4 ⟨rfl, hb4⟩
  rw [← HV.out]
  go_wp2_with fail
  go_ret2
  exact ⟨rfl, bthen hb2 (Nat.le_refl _) hb4⟩
set_option maxRecDepth 100000 in
theorem aPart_bad (x : Pln) (period : Int) (w : World) (hn : numE x ≠ 0) :
    Calls Tryz.prog 13 #[plnV x, .int .i64 period] w fun e w' => e = .returned (.tuple #[.int .i64 0, .iface 43 (.int .i64 1)]) ∧ Below w.heap.size w w' := by
  have hb : Below w.heap.size w (w.alloc (.cells #[.string x.ref, .int .i64 x.ent, .string x.fr, .string x.to, .string x.cur, .int .i64 x.amt, .int .i64 x.first, .int .i64 x.per] 37)) := (Below.refl _ _).alloc (Nat.le_refl _) _
  have hX := PlnAt.new w x
  have hev : errV (numE x) = .iface 43 (.int .i64 1) := by
    rcases numE_01 (x := x) with h | h
    · exact absurd h hn
    · rw [h]; rfl
  have HE := hide hev
  clear hev hn
  go_enter Tryz.func13, Tryz.ntmps13
  unfold plnV
  go_upto_region 1 with fail
  generalize w.alloc (.cells #[.string x.ref, .int .i64 x.ent, .string x.fr, .string x.to, .string x.cur, .int .i64 x.amt, .int .i64 x.first, .int .i64 x.per] 37) = W1 at hX hb ⊢
  obtain ⟨c0, c1, c2, c3, c4, c5, c6, c7⟩ := hX
  go_wp2_with fail
  refine (numbers_any x _).mono ?_
  rintro e w2 ⟨rfl, hb2⟩
  rw [HE.out]
  have hb2 := bthen hb (Nat.le_refl _) hb2
  go_wp2_with fail
  go_ret2
  exact ⟨rfl, hb2⟩
end Go.Proofs.YtfkhcdcmcplfoaaGreatDoor

namespace Go.Proofs.YtfkhcdcmcplfoaaGreatDoor
open Go Go.RowKit
set_option linter.unusedVariables false

/-- the closure of accrue.plan: has another one its Ref? -/
theorem planClo (y x : Pln) (g : Nat) (w : World) (hp : w.cell? ⟨g, 0, none⟩ = some (.string x.ref)) :
    Calls Tryz.prog 39 #[.agg #[.string y.ref, .int .i64 y.ent, .string y.fr, .string y.to, .string y.cur, .int .i64 y.amt, .int .i64 y.first, .int .i64 y.per], .pointer (some ⟨g, 0, none⟩)] w fun e w' => e = .returned (.bool (sameRef x y)) ∧ Below w.heap.size w w' := by
  have hb : Below w.heap.size w (w.alloc (.cells #[.string y.ref, .int .i64 y.ent, .string y.fr, .string y.to, .string y.cur, .int .i64 y.amt, .int .i64 y.first, .int .i64 y.per] 37)) := (Below.refl _ _).alloc (Nat.le_refl _) _
  have hY := PlnAt.new w y
  have hp1 := below_cell hb (World.block_lt_of_cell? _ _ hp) hp
  go_enter Tryz.func39, Tryz.ntmps39
  go_upto_region 1 with fail
  generalize w.alloc (.cells #[.string y.ref, .int .i64 y.ent, .string y.fr, .string y.to, .string y.cur, .int .i64 y.amt, .int .i64 y.first, .int .i64 y.per] 37) = W1 at hb hY hp1 ⊢
  have c0 := hY.c0
  clear hY hp
  go_wp2_with fail
  go_ret
  exact ⟨rfl, hb⟩
def idxPl (l : List Pln) (p : Pln → Bool) : Int := match l.findIdx? p with | some k => (k : Int) | none => -1
theorem NoTo.hitP {l : List Pln} {p : Pln → Bool} {k : Nat} (h : NoTo p l k) (hk : k < l.length) (hc : p l[k] = true) : idxPl l p = (k : Int) := by
  have : l.findIdx? p = some k := by
    rw [List.findIdx?_eq_some_iff_getElem]
    exact ⟨hk, hc, fun j hj => by rw [h j (by omega) hj]; decide⟩
  simp [idxPl, this]
theorem NoTo.missP {l : List Pln} {p : Pln → Bool} {k : Nat} (h : NoTo p l k) (hk : l.length ≤ k) : idxPl l p = -1 := by
  have : l.findIdx? p = none := by
    rw [List.findIdx?_eq_none_iff]
    intro x hx
    obtain ⟨j, hj, rfl⟩ := List.getElem_of_mem hx
    exact h j hj (by omega)
  simp [idxPl, this]
theorem idxPl_any (l : List Pln) (p : Pln → Bool) : decide (0 ≤ idxPl l p) = l.any p := by
  unfold idxPl
  cases h : l.findIdx? p with
  | none =>
    rw [List.findIdx?_eq_none_iff] at h
    have : l.any p = false := by rw [List.any_eq_false]; intro x hx; rw [h x hx]; decide
    rw [this]; rfl
  | some k =>
    obtain ⟨hk, hc, _⟩ := List.findIdx?_eq_some_iff_getElem.1 h
    have : l.any p = true := List.any_eq_true.2 ⟨_, List.getElem_mem hk, hc⟩
    rw [this]; simp

set_option maxRecDepth 100000 in
theorem indexFunc_plan (l : List Pln) (x : Pln) (A : Option Addr) (n cap g : Nat) (w : World) (hl : n ≤ 9223372036854775807) (ha : Rd w 8 plnEnc A n l) (hp : w.cell? ⟨g, 0, none⟩ = some (.string x.ref)) :
    Calls Tryz.prog 70 #[.slice A n cap, .func (.func 39) #[] #[.pointer (some ⟨g, 0, none⟩)]] w
      fun e w' => e = .returned (.int .i64 (idxPl l (sameRef x))) ∧ Below w.heap.size w w' := by
  have Hn := hide ha.1
  go_enter Tryz.func70, Tryz.ntmps70
  go_wp2_with fail
  go_loopw [8] (fun i wr => ∃ k : Nat, k ≤ n ∧ i = .int .i64 k ∧ NoTo (sameRef x) l k ∧ Below w.heap.size w wr) (fun i _ => n - (intOf i).toNat)
  case atStart => exact ⟨0, by omega, rfl, NoTo.zero _ _, Below.refl _ _⟩
  case round =>
    obtain ⟨k, hk, rfl, hno, hb⟩ := hrel
    have HNo := hide hno
    clear hno
    by_cases hlt : k < n
    · obtain ⟨b, off, rfl, hcs⟩ := (Rd.below ha hb).2 (by omega)
      have hkl : k < l.length := by have := Hn.out; omega
      have h0 := hcs k 0 _ hkl rfl
      have h1 := hcs k 1 _ hkl rfl
      have h2 := hcs k 2 _ hkl rfl
      have h3 := hcs k 3 _ hkl rfl
      have h4 := hcs k 4 _ hkl rfl
      have h5 := hcs k 5 _ hkl rfl
      have h6 := hcs k 6 _ hkl rfl
      have h7 := hcs k 7 _ hkl rfl
      rw [Nat.add_zero] at h0
      clear hcs
      have hp' := below_cell hb (World.block_lt_of_cell? _ _ hp) hp
      cases hq : sameRef x l[k] with
      | true =>
        have HP := hide hq
        clear hq
        go_wp2_with fail
        refine (planClo l[k] x g _ hp').mono ?_
        rintro e w1 ⟨rfl, hb1⟩
        rw [HP.out]
        go_wp2_with fail
        go_ret
        exact ⟨ret_int (HNo.out.hitP hkl HP.out).symm, bthen hb (Nat.le_refl _) hb1⟩
      | false =>
        have HP := hide hq
        clear hq
        go_wp2_with fail
        refine (planClo l[k] x g _ hp').mono ?_
        rintro e w1 ⟨rfl, hb1⟩
        rw [HP.out]
        go_wp2_with fail
        go_roundw
        case rel => exact ⟨k + 1, by omega, by go_num, HNo.out.succ hkl HP.out, bthen hb (Nat.le_refl _) hb1⟩
        case measure => simp [intOf]; omega
    · go_wp2_with fail
      go_ret
      exact ⟨ret_int (HNo.out.missP (by have := Hn.out; omega)).symm, hb⟩
theorem containsFunc_plan (l : List Pln) (x : Pln) (A : Option Addr) (n cap g : Nat) (w : World) (hl : n ≤ 9223372036854775807) (ha : Rd w 8 plnEnc A n l) (hp : w.cell? ⟨g, 0, none⟩ = some (.string x.ref)) :
    Calls Tryz.prog 38 #[.slice A n cap, .func (.func 39) #[] #[.pointer (some ⟨g, 0, none⟩)]] w
      fun e w' => e = .returned (.bool (l.any (sameRef x))) ∧ Below w.heap.size w w' := by
  have HA := hide (idxPl_any l (sameRef x))
  go_enter Tryz.func38, Tryz.ntmps38
  go_wp2_with fail
  refine (indexFunc_plan l x _ _ _ g _ hl ha hp).mono ?_
  rintro e w1 ⟨rfl, hb1⟩
  go_wp2_with fail
  go_ret
  exact ⟨ret_bool HA.out, hb1⟩

def endS (x : Pln) (i : Nat) : ByteArray := if i = 0 then x.fr else x.to
def EndAt (w : World) (g : Nat) (x : Pln) : Prop := ∀ i, i < 2 → w.cell? ⟨g, i, none⟩ = some (.string (endS x i))
theorem EndAt.below {w w' : World} {g : Nat} {x : Pln} (h : EndAt w g x) (hb : Below w.heap.size w w') : EndAt w' g x :=
  fun i hi => below_cell hb (World.block_lt_of_cell? _ _ (h i hi)) (h i hi)
theorem EndAt.new (w : World) (x : Pln) : EndAt (w.alloc (.cells #[.string x.fr, .string x.to] 9)) w.heap.size x := by
  intro i hi
  have : i = 0 ∨ i = 1 := by omega
  rcases this with rfl | rfl <;> simp [endS]
theorem planE_leaf {c : List Acc} {ahead : List Pln} {x : Pln} {i : Nat} (h : prefB x.ref = true) (h2 : ahead.any (sameRef x) = false) (h3 : inB 1 12 x.ent = true) (h4 : numE x = 0)
    (hto : firstE (fun i => leafE c (endS x i)) i = 0) (hi : i < 2) (hl : leafE c (endS x i) ≠ 0) : planE c ahead x = leafE c (endS x i) := by
  rw [planE_5 h h2 h3 h4]
  have : i = 0 ∨ i = 1 := by omega
  rcases this with rfl | rfl
  · rw [if_pos (show leafE c x.fr ≠ 0 from hl)]; rfl
  · have h0 : leafE c x.fr = 0 := by
      have := firstE_0 hto 0 (by omega)
      exact this
    rw [if_neg (by rw [h0]; decide), if_pos (show leafE c x.to ≠ 0 from hl)]; rfl
theorem planE_both {c : List Acc} {ahead : List Pln} {x : Pln} (h : prefB x.ref = true) (h2 : ahead.any (sameRef x) = false) (h3 : inB 1 12 x.ent = true) (h4 : numE x = 0)
    (hto : firstE (fun i => leafE c (endS x i)) 2 = 0) : planE c ahead x = if x.fr.toList = x.to.toList then 8 else if curB x.cur = false then 2 else 0 := by
  rw [planE_5 h h2 h3 h4]
  have h0 : leafE c x.fr = 0 := firstE_0 hto 0 (by omega)
  have h1 : leafE c x.to = 0 := firstE_0 hto 1 (by omega)
  rw [if_neg (by rw [h0]; decide), if_neg (by rw [h1]; decide)]

set_option maxHeartbeats 4000000 in
set_option maxRecDepth 100000 in
theorem plan_any (c : List Acc) (CA : Option Addr) (cn ccap : Nat) (al : List Pln) (A : Option Addr) (n cap : Nat) (x : Pln) (w : World) (hcl : cn ≤ 9223372036854775807) (hc : Accs w CA cn c) (hl : n ≤ 9223372036854775807) (ha : Rd w 8 plnEnc A n al) (hf : PlnFits x) :
    Calls Tryz.prog 16 #[.slice CA cn ccap, .slice A n cap, .agg #[.string x.ref, .int .i64 x.ent, .string x.fr, .string x.to, .string x.cur, .int .i64 x.amt, .int .i64 x.first, .int .i64 x.per]] w fun e w' => e = .returned (errV (planE c al x)) ∧ Below w.heap.size w w' := by
  have hb : Below w.heap.size w (w.alloc (.cells #[.string x.ref, .int .i64 x.ent, .string x.fr, .string x.to, .string x.cur, .int .i64 x.amt, .int .i64 x.first, .int .i64 x.per] 37)) := (Below.refl _ _).alloc (Nat.le_refl _) _
  have hX := PlnAt.new w x
  have hsz : (w.alloc (.cells #[.string x.ref, .int .i64 x.ent, .string x.fr, .string x.to, .string x.cur, .int .i64 x.amt, .int .i64 x.first, .int .i64 x.per] 37)).heap.size = w.heap.size + 1 := by simp
  have hsr := hf.ref
  have hsc := hf.cur
  clear hf
  go_enter Tryz.func16, Tryz.ntmps16
  go_upto_region 1 with fail
  generalize w.alloc (.cells #[.string x.ref, .int .i64 x.ent, .string x.fr, .string x.to, .string x.cur, .int .i64 x.amt, .int .i64 x.first, .int .i64 x.per] 37) = W1 at hb hX hsz ⊢
  have hX0 := hX
  have c0 := hX.c0
  have ha1 := ha.below hb
  have hc1 := hc.below hb
  have hs1 := hb.size
  have HCW : Hid (∀ wi : World, Below w.heap.size w wi → Accs wi CA cn c) := fun wi hbi => hc.below hbi
  clear hX ha hc
  cases h0 : x.ref.toList.isEmpty with
  | true =>
    have HF := hide (planE_1 (c := c) (ahead := al) (x := x) (by simp [prefB, h0]))
    go_wp2_with fail
    go_ret
    exact ⟨by rw [HF.out]; rfl, hb⟩
  | false =>
    by_cases h1 : (x.ref.size : Int) ≤ 8
    · have h1d : decide ((8 : Int) < (x.ref.size : Int)) = false := by rw [decide_eq_false_iff_not]; omega
      cases h2 : allIn x.ref plnSet with
      | false =>
        have HF := hide (planE_1 (c := c) (ahead := al) (x := x) (by simp [prefB, h2]))
        have H2 := hide h2
        clear h2
        go_wp2_with (go_at_call 37; refine (trim_no x.ref _ _ hsr (by decide) (by decide) H2.out).mono ?_; rintro e w1 ⟨⟨t, rfl, ht⟩, hb1⟩)
        go_ret
        exact ⟨by rw [HF.out]; rfl, bthen hb (Nat.le_refl _) hb1⟩
      | true =>
        have HP : Hid (prefB x.ref = true) := by show _ = _; simp [prefB, h0, h1, h2]
        have H2 := hide h2
        clear h2
        go_wp2_with (go_at_call 37; refine (trim_yes x.ref _ _ hsr (by decide) (by decide) H2.out).mono ?_; rintro e w1 ⟨rfl, hb1⟩)
        have hX1 := hX0.below hb1
        have ha2 := ha1.below hb1
        have hc2 := hc1.below hb1
        have hb2 := bthen hb (Nat.le_refl _) hb1
        have d0 := hX1.c0
        clear c0 ha1 hc1 hb1 h0 h1
        refine (containsFunc_plan al x _ _ _ w.heap.size _ hl ha2 d0).mono ?_
        rintro e w2 ⟨rfl, hb3⟩
        have hX2 := hX1.below hb3
        have hc3 := hc2.below hb3
        have hb3 := bthen hb2 (Nat.le_refl _) hb3
        clear d0 hX1 ha2 hc2 hb2
        cases h3 : al.any (sameRef x) with
        | true =>
          have HF := hide (planE_2 (c := c) HP.out h3)
          go_wp2_with fail
          go_ret
          exact ⟨by rw [HF.out]; rfl, hb3⟩
        | false =>
          have HA := hide h3
          have d1 := hX2.c1
          clear h3
          go_wp2_with fail
          refine (entity_any _ _).mono ?_
          rintro e w3 ⟨rfl, rfl⟩
          clear d1
          cases h4 : inB 1 12 x.ent with
          | false =>
            have HF := hide (planE_3 (c := c) HP.out HA.out h4)
            go_wp2_with fail
            go_ret
            exact ⟨by rw [HF.out]; rfl, hb3⟩
          | true =>
            have HE := hide h4
            obtain ⟨d0, d1, d2, d3, d4, d5, d6, d7⟩ := hX2
            have hX2 : PlnAt w2 w.heap.size x := ⟨d0, d1, d2, d3, d4, d5, d6, d7⟩
            clear h4
            go_wp2_with fail
            refine (numbers_any x _).mono ?_
            rintro e w4 ⟨rfl, hb4⟩
            have hX4 := hX2.below hb4
            have hc4 := hc3.below hb4
            have hb4 := bthen hb3 (Nat.le_refl _) hb4
            clear d0 d1 d2 d3 d4 d5 d6 d7 hX2 hc3 hb3
            by_cases h5 : numE x = 0
            · have HN := hide h5
              rw [errV_0 h5]
              clear h5
              have e2 := hX4.c2
              have e3 := hX4.c3
              go_wp2_with fail
              have hE := EndAt.new w4 x
              have hX5 := hX4.below ((Below.refl _ _).alloc (Nat.le_refl _) (.cells #[.string x.fr, .string x.to] 9))
              have hb5 : Below w.heap.size w (w4.alloc (.cells #[.string x.fr, .string x.to] 9)) := hb4.alloc hb4.size _
              have hs5 := hb4.size
              obtain ⟨gq, hgq⟩ : ∃ gq, gq = w4.heap.size := ⟨_, rfl⟩
              rw [← hgq] at hE ⊢
              clear hgq
              go_loopw [47] (fun iv wi => ∃ i : Nat, i ≤ 2 ∧ iv = .int .i64 i ∧ firstE (fun i => leafE c (endS x i)) i = 0 ∧ PlnAt wi w.heap.size x ∧ EndAt wi gq x ∧ Below w.heap.size w wi) (fun iv _ => 2 - (intOf iv).toNat)
              case atStart => exact ⟨0, by omega, rfl, rfl, hX5, hE, hb5⟩
              case round =>
                clear hX4 hX5 hE hb5 hb4 e2 e3 hc4 hX0
                obtain ⟨i, hi, rfl, hto, hx, he, hbi⟩ := hrel
                have hci : Accs wr CA cn c := HCW.out wr hbi
                by_cases hi2 : i < 2
                · have y0 := he i hi2
                  have i0 : (0 : Int) ≤ (i : Int) := by omega
                  have i1 : (i : Int) < 2 := by omega
                  by_cases hle : leafE c (endS x i) = 0
                  · have HL := hide hle
                    have HT := hide hto
                    clear hle hto
                    go_wp2_with fail
                    refine (leaf_ok c _ _ _ _ _ hcl hci HL.out).mono ?_
                    rintro e w5 ⟨rfl, hb6⟩
                    have hx6 := hx.below hb6
                    have he6 := he.below hb6
                    have hb6 := bthen hbi (Nat.le_refl _) hb6
                    go_wp2_with fail
                    go_roundw
                    case rel => exact ⟨i + 1, by omega, by go_num, by rw [firstE_succ HT.out]; exact HL.out, hx6, he6, hb6⟩
                    case measure => simp [intOf]; omega
                  · have HL := hide hle
                    have HF := hide (planE_leaf HP.out HA.out HE.out HN.out hto hi2 hle)
                    clear hle hto
                    go_wp2_with fail
                    refine (leaf_bad c _ _ _ _ _ hcl hci HL.out).mono ?_
                    rintro e w5 ⟨rfl, hb6⟩
                    have hb6 := bthen hbi (Nat.le_refl _) hb6
                    go_wp2_with fail
                    go_ret
                    exact ⟨by rw [HF.out, errV_n HL.out]; rfl, hb6⟩
                · obtain rfl : i = 2 := by omega
                  have HF := hide (planE_both HP.out HA.out HE.out HN.out hto)
                  have e2 := hx.c2
                  have e3 := hx.c3
                  have e4 := hx.c4
                  clear hto he
                  cases h6 : (x.fr.toList == x.to.toList) with
                  | true =>
                    have HG : Hid (planE c al x = 8) := by show _ = _; rw [HF.out, if_pos (by simpa using h6)]
                    go_wp2_with fail
                    go_ret
                    exact ⟨by rw [HG.out]; rfl, hbi⟩
                  | false =>
                    have hne : ¬ x.fr.toList = x.to.toList := by simpa using h6
                    have HN2 := hide hne
                    clear hne
                    go_wp2_with fail
                    refine (cur_any x.cur _ hsc).mono ?_
                    rintro e w6 ⟨rfl, hb6⟩
                    have hb6 := bthen hbi (Nat.le_refl _) hb6
                    cases h7 : curB x.cur with
                    | true =>
                      have HG : Hid (planE c al x = 0) := by show _ = _; rw [HF.out, if_neg HN2.out, if_neg (by rw [h7]; decide)]
                      go_wp2_with fail
                      go_ret
                      exact ⟨by rw [HG.out]; rfl, hb6⟩
                    | false =>
                      have HG : Hid (planE c al x = 2) := by show _ = _; rw [HF.out, if_neg HN2.out, if_pos h7]
                      go_wp2_with fail
                      go_ret
                      exact ⟨by rw [HG.out]; rfl, hb6⟩
            · have HF := hide (planE_4 (c := c) HP.out HA.out HE.out h5)
              have hev : errV (numE x) = .iface 43 (.int .i64 1) := by
                rcases numE_01 (x := x) with h | h
                · exact absurd h h5
                · rw [h]; rfl
              rw [hev]
              clear h5 hev
              go_wp2_with fail
              go_ret
              exact ⟨by rw [HF.out]; rfl, hb4⟩
    · have HF := hide (planE_1 (c := c) (ahead := al) (x := x) (by simp [prefB, h1]))
      have h1' : (8 : Int) < (x.ref.size : Int) := by omega
      clear h1
      go_wp2_with fail
      go_ret
      exact ⟨by rw [HF.out]; rfl, hb⟩

set_option maxHeartbeats 2000000 in
set_option maxRecDepth 100000 in
theorem aCheck_any (c : List Acc) (CA : Option Addr) (cn ccap : Nat) (l : List Pln) (A : Option Addr) (n cap : Nat) (w : World)
    (hcl : cn ≤ 9223372036854775807) (hcc : cn ≤ ccap) (hc : Accs w CA cn c) (hcok : AccOk c) (hl : n ≤ cap) (hcap : cap ≤ maxLen) (ha : Rd w 8 plnEnc A n l) (hok : PlnsOk l) :
    Calls Tryz.prog 5 #[.slice CA cn ccap, .slice A n cap] w fun e w' => e = .returned (errV (plansE c l)) ∧ Below w.heap.size w w' := by
  have hn := ha.1
  have Hn := hide hn
  by_cases he : chartE c = 0
  · have HC := hide he
    clear he
    by_cases h20 : 20 < n
    · have h20i : (20 : Int) < (n : Int) := by omega
      have HF := hide (plansE_2 (l := l) HC.out (by rw [Hn.out]; exact h20))
      clear h20
      go_enter Tryz.func5, Tryz.ntmps5
      go_wp2_with fail
      refine (check_ok c _ _ _ _ hcl hcc hc hcok HC.out).mono ?_
      rintro e w1 ⟨rfl, hb1⟩
      go_wp2_with fail
      go_ret
      exact ⟨by rw [HF.out]; rfl, hb1⟩
    · have h20i : ¬ (20 : Int) < (n : Int) := by omega
      have hn20 : n ≤ 20 := by omega
      have H20 : Hid (¬ 20 < l.length) := by show ¬ _; rw [Hn.out]; exact h20
      clear h20 hn
      go_enter Tryz.func5, Tryz.ntmps5
      go_wp2_with fail
      refine (check_ok c _ _ _ _ hcl hcc hc hcok HC.out).mono ?_
      rintro e w1 ⟨rfl, hb1⟩
      go_wp2_with fail
      go_loopw [20] (fun iv wr => ∃ k : Nat, k ≤ n ∧ iv = .int .i64 k ∧ firstE (planAt c l) k = 0 ∧ Below w.heap.size w wr) (fun iv _ => n - (intOf iv).toNat)
      case atStart => exact ⟨0, by omega, rfl, rfl, hb1⟩
      case round =>
        obtain ⟨k, hk, rfl, hto, hbr⟩ := hrel
        obtain ⟨wo, hwo⟩ : ∃ wo, wo = wr := ⟨_, rfl⟩
        subst hwo
        have HTo := hide hto
        clear hto
        by_cases hlt : k < n
        · have hkl : k < l.length := by have := Hn.out; omega
          obtain ⟨b, off, rfl, hcs⟩ := (Rd.below ha hbr).2 (by omega)
          have q0 := hcs k 0 _ hkl rfl
          have q1 := hcs k 1 _ hkl rfl
          have q2 := hcs k 2 _ hkl rfl
          have q3 := hcs k 3 _ hkl rfl
          have q4 := hcs k 4 _ hkl rfl
          have q5 := hcs k 5 _ hkl rfl
          have q6 := hcs k 6 _ hkl rfl
          have q7 := hcs k 7 _ hkl rfl
          rw [Nat.add_zero] at q0
          clear hcs
          have k0 : (0 : Int) ≤ (k : Int) := by omega
          have k1 : (k : Int) < (n : Int) := by omega
          have k2 : (k : Int) ≤ (cap : Int) := by omega
          have hsz := hbr.size
          have hbx : Below wo.heap.size wo (wo.alloc (.cells #[.string l[k].ref, .int .i64 l[k].ent, .string l[k].fr, .string l[k].to, .string l[k].cur, .int .i64 l[k].amt, .int .i64 l[k].first, .int .i64 l[k].per] 37)) := (Below.refl _ _).alloc (Nat.le_refl _) _
          have hX := PlnAt.new wo l[k]
          have hB : Below w.heap.size w (wo.alloc (.cells #[.string l[k].ref, .int .i64 l[k].ent, .string l[k].fr, .string l[k].to, .string l[k].cur, .int .i64 l[k].amt, .int .i64 l[k].first, .int .i64 l[k].per] 37)) := hbr.trans (hbx.mono hsz)
          have hEA : planAt c l k = planE c (l.take k) l[k] := planAt_at hkl
          obtain ⟨ev, hev⟩ : ∃ ev, ev = planE c (l.take k) l[k] := ⟨_, rfl⟩
          have HEV := hide hev
          have HEA : Hid (planAt c l k = ev) := hEA.trans hev.symm
          have hfit := hide (hok l[k] (List.getElem_mem hkl))
          have HPC : Hid (∀ W : World, Below w.heap.size w W → Calls Tryz.prog 16 #[.slice CA cn ccap, .slice (some ⟨b, off, none⟩) k cap, .agg #[.string l[k].ref, .int .i64 l[k].ent, .string l[k].fr, .string l[k].to, .string l[k].cur, .int .i64 l[k].amt, .int .i64 l[k].first, .int .i64 l[k].per]] W fun e w' => e = .returned (errV ev) ∧ Below W.heap.size W w') := by
            intro W hW
            rw [hev]
            exact plan_any c CA cn ccap (l.take k) (some ⟨b, off, none⟩) k cap l[k] W hcl (hc.below hW) (by omega) (Rd.take (ha.below hW) (by omega)) hfit.out
          clear hev hEA
          go_upto_region 9 with fail
          generalize wo.alloc (.cells #[.string l[k].ref, .int .i64 l[k].ent, .string l[k].fr, .string l[k].to, .string l[k].cur, .int .i64 l[k].amt, .int .i64 l[k].first, .int .i64 l[k].per] 37) = W1 at hX hB ⊢
          obtain ⟨d0, d1, d2, d3, d4, d5, d6, d7⟩ := hX
          have hBd := bdrewN hB 1
          have HBD := hide hBd
          clear q0 q1 q2 q3 q4 q5 q6 q7 hB hBd hbx
          go_cut [8] from 25 to 30 (fun s8 wx => s8 = errV ev ∧ Below w.heap.size w wx)
          case first =>
            go_region_law (go_simp; go_at_call 16; refine (HPC.out _ HBD.out).mono ?_; rintro e w2 ⟨rfl, hb2⟩; have HB2 := hide hb2; clear hb2)
            all_goals
              go_wp2_with fail
              go_meet
              exact ⟨rfl, bthen HBD.out (Nat.le_refl _) HB2.out⟩
          case rest =>
          obtain ⟨rfl, hb2⟩ := hcut
          by_cases h5 : ev = 0
          · have H5 := hide h5
            rw [errV_0 h5]
            clear h5
            go_wp2_with fail
            go_roundw
            case rel => exact ⟨k + 1, by omega, by go_num, by rw [firstE_succ HTo.out, HEA.out]; exact H5.out, hb2⟩
            case measure => simp [intOf]; omega
          · have HF := hide (plans_hit HC.out H20.out HTo.out hkl HEA.out h5)
            rw [errV_n h5]
            have H5 := hide h5
            clear h5
            go_wp2_with fail
            go_ret
            exact ⟨by rw [HF.out, errV_n H5.out]; rfl, hb2⟩
        · have hkn : k = n := by omega
          have HF : Hid (plansE c l = 0) := by
            show _ = _
            rw [plansE_3 HC.out H20.out, Hn.out, ← hkn]
            exact HTo.out
          go_wp2_with fail
          go_ret
          exact ⟨by rw [HF.out]; rfl, hbr⟩
  · have HF := hide (plansE_1 (l := l) he)
    have HE := hide he
    clear he
    go_enter Tryz.func5, Tryz.ntmps5
    go_wp2_with fail
    refine (check_bad c _ _ _ _ hcl hcc hc hcok HE.out).mono ?_
    rintro e w1 ⟨rfl, hb1⟩
    go_wp2_with fail
    go_ret
    exact ⟨by rw [HF.out, errV_n HE.out]; rfl, hb1⟩
end Go.Proofs.YtfkhcdcmcplfoaaGreatDoor
