/- accrue.numbers, upto, part, Part: what they return. -/
import Derived.Test.YtkeapacfmeblgaaGreatDoorQuoB
import Derived.Test.YtkeapacfmeblgaaGreatDoorPlnP
namespace Go.Proofs.YtkeapacfmeblgaaGreatDoor
open Go Go.RowKit
set_option linter.unusedVariables false

/-- a plan in a block of its own -/
structure PlnAt (w : World) (g : Nat) (x : Pln) : Prop where
  c0 : w.cell? ⟨g, 0, none⟩ = some (.string x.ref)
  c1 : w.cell? ⟨g, 1, none⟩ = some (.int .i64 x.ent)
  c2 : w.cell? ⟨g, 2, none⟩ = some (.string x.fr)
  c3 : w.cell? ⟨g, 3, none⟩ = some (.string x.to)
  c4 : w.cell? ⟨g, 4, none⟩ = some (.string x.cur)
  c5 : w.cell? ⟨g, 5, none⟩ = some (.int .i64 x.amt)
  c6 : w.cell? ⟨g, 6, none⟩ = some (.int .i64 x.first)
  c7 : w.cell? ⟨g, 7, none⟩ = some (.int .i64 x.per)
theorem PlnAt.lt {w : World} {g : Nat} {x : Pln} (h : PlnAt w g x) : g < w.heap.size := World.block_lt_of_cell? _ _ h.c0
theorem PlnAt.below {w w' : World} {g : Nat} {x : Pln} (h : PlnAt w g x) (hb : Below w.heap.size w w') : PlnAt w' g x :=
  ⟨below_cell hb h.lt h.c0, below_cell hb h.lt h.c1, below_cell hb h.lt h.c2, below_cell hb h.lt h.c3, below_cell hb h.lt h.c4, below_cell hb h.lt h.c5, below_cell hb h.lt h.c6, below_cell hb h.lt h.c7⟩
theorem PlnAt.grown {w w' : World} {g : Nat} {x : Pln} {row : Option Nat} (h : PlnAt w g x) (hg : w.grownBy w' row) (hne : row ≠ some g) : PlnAt w' g x :=
  ⟨hg.cell h.c0 (fun e => hne e.symm), hg.cell h.c1 (fun e => hne e.symm), hg.cell h.c2 (fun e => hne e.symm), hg.cell h.c3 (fun e => hne e.symm), hg.cell h.c4 (fun e => hne e.symm), hg.cell h.c5 (fun e => hne e.symm), hg.cell h.c6 (fun e => hne e.symm), hg.cell h.c7 (fun e => hne e.symm)⟩
theorem PlnAt.eight {w : World} {g : Nat} {x : Pln} (h : PlnAt w g x) : w.cell? ⟨g, 0, none⟩ = some (.string x.ref) ∧ w.cell? ⟨g, 1, none⟩ = some (.int .i64 x.ent) ∧ w.cell? ⟨g, 2, none⟩ = some (.string x.fr) ∧ w.cell? ⟨g, 3, none⟩ = some (.string x.to) ∧ w.cell? ⟨g, 4, none⟩ = some (.string x.cur) ∧ w.cell? ⟨g, 5, none⟩ = some (.int .i64 x.amt) ∧ w.cell? ⟨g, 6, none⟩ = some (.int .i64 x.first) ∧ w.cell? ⟨g, 7, none⟩ = some (.int .i64 x.per) :=
  ⟨h.c0, h.c1, h.c2, h.c3, h.c4, h.c5, h.c6, h.c7⟩
theorem PlnAt.new (w : World) (x : Pln) : PlnAt (w.alloc (.cells #[.string x.ref, .int .i64 x.ent, .string x.fr, .string x.to, .string x.cur, .int .i64 x.amt, .int .i64 x.first, .int .i64 x.per] 23)) w.heap.size x := by constructor <;> simp

theorem BigRd.below {w w' : World} {g : Nat} {y : Int} {YA : Option Addr} {yn yc : Nat} (h : BigRd w g y YA yn yc) (hb : Below w.heap.size w w') : BigRd w' g y YA yn yc :=
  ⟨below_cell hb (World.block_lt_of_cell? _ _ h.c0) h.c0, below_cell hb (World.block_lt_of_cell? _ _ h.c1) h.c1, ⟨h.wds.1.below hb, h.wds.2⟩, h.cap⟩
theorem own_ne {w : World} {B g : Nat} {V : Value} {x : Int} (h : BigAt w B g V x) {q : Nat} (hq : w.heap.size ≤ q) : V.ownBlock ≠ some q := by
  intro e
  have := (h.wds.own.block q e).2
  omega

set_option maxRecDepth 100000 in
theorem numbers_any (x : Pln) (w : World) : Calls Tryz.prog 7 #[plnV x] w fun e w' => e = .returned (errV (numE x)) ∧ Below w.heap.size w w' := by
  have hb : Below w.heap.size w (w.alloc (.cells #[.string x.ref, .int .i64 x.ent, .string x.fr, .string x.to, .string x.cur, .int .i64 x.amt, .int .i64 x.first, .int .i64 x.per] 23)) := (Below.refl _ _).alloc (Nat.le_refl _) _
  unfold plnV
  by_cases h1 : x.amt = 0
  · have HF := hide (numE_1 h1)
    have h1b : (x.amt == 0) = true := by simpa using h1
    clear h1
    go_enter Tryz.func7, Tryz.ntmps7
    go_wp2_with fail
    go_ret
    exact ⟨by rw [HF.out]; rfl, hb⟩
  · have h1b : (x.amt == 0) = false := by simpa using h1
    cases h2 : inB (-1000000000000000) 1000000000000000 x.amt with
    | false =>
      have HF := hide (numE_2 h1 h2)
      have H2 := hide h2
      clear h1 h2
      go_enter Tryz.func7, Tryz.ntmps7
      go_wp2_with fail
      refine (amount_any _ _).mono ?_
      rintro e w1 ⟨rfl, rfl⟩
      rw [H2.out]
      go_wp2_with fail
      go_ret
      exact ⟨by rw [HF.out]; rfl, hb⟩
    | true =>
      cases h3 : inB 1 120 x.per with
      | false =>
        have HF := hide (numE_3 h1 h2 h3)
        have H2 := hide h2
        have H3 := hide h3
        clear h1 h2 h3
        go_enter Tryz.func7, Tryz.ntmps7
        go_wp2_with fail
        refine (amount_any _ _).mono ?_
        rintro e w1 ⟨rfl, rfl⟩
        rw [H2.out]
        go_wp2_with fail
        refine (period_any _ _).mono ?_
        rintro e w1 ⟨rfl, rfl⟩
        rw [H3.out]
        go_wp2_with fail
        go_ret
        exact ⟨by rw [HF.out]; rfl, hb⟩
      | true =>
        cases h4 : inB 1 120 x.first with
        | false =>
          have HF := hide (numE_4 h1 h2 h3 h4)
          have H2 := hide h2
          have H3 := hide h3
          have H4 := hide h4
          clear h1 h2 h3 h4
          go_enter Tryz.func7, Tryz.ntmps7
          go_wp2_with fail
          refine (amount_any _ _).mono ?_
          rintro e w1 ⟨rfl, rfl⟩
          rw [H2.out]
          go_wp2_with fail
          refine (period_any _ _).mono ?_
          rintro e w1 ⟨rfl, rfl⟩
          rw [H3.out]
          go_wp2_with fail
          refine (period_any _ _).mono ?_
          rintro e w1 ⟨rfl, rfl⟩
          rw [H4.out]
          go_wp2_with fail
          go_ret
          exact ⟨by rw [HF.out]; rfl, hb⟩
        | true =>
          have HF := hide (numE_5 h1 h2 h3 h4)
          have H2 := hide h2
          have H3 := hide h3
          have H4 := hide h4
          clear h1 h2 h3 h4
          go_enter Tryz.func7, Tryz.ntmps7
          go_wp2_with fail
          refine (amount_any _ _).mono ?_
          rintro e w1 ⟨rfl, rfl⟩
          rw [H2.out]
          go_wp2_with fail
          refine (period_any _ _).mono ?_
          rintro e w1 ⟨rfl, rfl⟩
          rw [H3.out]
          go_wp2_with fail
          refine (period_any _ _).mono ?_
          rintro e w1 ⟨rfl, rfl⟩
          rw [H4.out]
          go_wp2_with fail
          go_ret
          exact ⟨by rw [HF.out]; rfl, hb⟩

set_option maxHeartbeats 2000000 in
set_option maxRecDepth 100000 in
theorem upto_any (x : Pln) (k : Int) (w : World) (hk0 : 0 ≤ k) (hk1 : k ≤ 120) (hp0 : 1 ≤ x.per) (hp1 : x.per ≤ 120) (ha0 : -1000000000000000 ≤ x.amt) (ha1 : x.amt ≤ 1000000000000000) :
    Calls Tryz.prog 15 #[plnV x, .int .i64 k] w fun e w' => e = .returned (.int .i64 (uptoI x.amt x.per k)) ∧ Below w.heap.size w w' := by
  have HM : Hid ((x.amt * k).natAbs < W64) := by
    show _ < _
    have h1 : (x.amt * k).natAbs ≤ 1000000000000000 * 120 := by rw [Int.natAbs_mul]; exact Nat.mul_le_mul (by omega) (by omega)
    unfold W64; omega
  have HU : Hid (in64 (uptoI x.amt x.per k) = true) := by
    show _ = _
    have := upto_bnd x.amt x.per k hk0 hk1 hp0 (by omega)
    exact in64_yes _ (by omega)
  obtain ⟨P, hP⟩ := Int.eq_ofNat_of_zero_le (show 0 ≤ x.per by omega)
  have HP0 : Hid (0 < P) := by show _ < _; omega
  have HP2 : Hid (P < W64) := by show _ < _; unfold W64; omega
  have HA : Hid (-9223372036854775808 ≤ x.amt ∧ x.amt ≤ 9223372036854775807) := ⟨by omega, by omega⟩
  have HK : Hid (-9223372036854775808 ≤ k ∧ k ≤ 9223372036854775807) := ⟨by omega, by omega⟩
  have HPP : Hid (-9223372036854775808 ≤ x.per ∧ x.per ≤ 9223372036854775807) := ⟨by omega, by omega⟩
  have HPE := hide hP
  obtain ⟨u, hu⟩ : ∃ u, u = uptoI x.amt x.per k := ⟨_, rfl⟩
  rw [← hu] at HU
  rw [← hu]
  have HUE := hide hu
  clear hk0 hk1 hp0 hp1 ha0 ha1 hP hu
  unfold plnV
  go_enter Tryz.func15, Tryz.ntmps15
  go_upto_region 1 with fail
  have hb1 : Below w.heap.size w (w.alloc (.cells #[.string x.ref, .int .i64 x.ent, .string x.fr, .string x.to, .string x.cur, .int .i64 x.amt, .int .i64 x.first, .int .i64 x.per] 23)) := (Below.refl _ _).alloc (Nat.le_refl _) _
  have hX1 := PlnAt.new w x
  have hs1 : w.heap.size ≤ (w.alloc (.cells #[.string x.ref, .int .i64 x.ent, .string x.fr, .string x.to, .string x.cur, .int .i64 x.amt, .int .i64 x.first, .int .i64 x.per] 23)).heap.size := hb1.size
  generalize w.alloc (.cells #[.string x.ref, .int .i64 x.ent, .string x.fr, .string x.to, .string x.cur, .int .i64 x.amt, .int .i64 x.first, .int .i64 x.per] 23) = W1 at hb1 hX1 hs1 ⊢
  have c5 := hX1.c5
  have c7 := hX1.c7
  have hgl := hX1.lt
  go_wp2_with fail
  have hZ := BigAt.new W1
  have hbz : Below W1.heap.size W1 (W1.alloc (.cells #[.bool false, .slice none 0 0] 55)) := (Below.refl _ _).alloc (Nat.le_refl _) _
  refine (newInt_new x.amt _ HA.out.1 HA.out.2).mono ?_
  rintro e w2 ⟨gx, XA, xn, xc, rfl, hX, hgx, kx, hb2⟩
  have hZ := hZ.below hb2
  have hb2 := bthen hbz (Nat.le_refl _) hb2
  go_wp2_with fail
  refine (newInt_new k _ HK.out.1 HK.out.2).mono ?_
  rintro e w3 ⟨gy, YA, yn, yc, rfl, hY, hgy, ky, hb3⟩
  have hne : gx ≠ gy := by have := kx.lt; omega
  have hX := hX.below hb3
  have hZ := hZ.below hb3
  have kx := kx.below hb3
  have hb3 := bthen hb2 (Nat.le_refl _) hb3
  go_wp2_with fail
  refine (bigMul_any W1.heap.size W1.heap.size gx gy xn xc yn yc x.amt k XA YA _ hb3.size hZ hX hY hne kx ky).mono ?_
  rintro e w4 ⟨rfl, V4, hP, hb4⟩
  have hb4 : Below W1.heap.size W1 w4 := hb3.trans hb4
  have d7 := below_cell hb4 hgl c7
  have hs4 := hb4.size
  clear hX hZ hY kx ky hb3 hb2 hbz hgx hgy hne c5 c7
  go_wp2_with fail
  refine (newInt_new x.per _ HPP.out.1 HPP.out.2).mono ?_
  rintro e w5 ⟨gd, DA, dn, dc, rfl, hD, hgd, kd, hb5⟩
  have hv := own_ne hP hgd
  have hP5 := hP.below hb5
  have hb5 := bthen hb4 (Nat.le_refl _) hb5
  have hs5 := hb5.size
  have hD0 : w5.cell? ⟨gd, 0, none⟩ = some (.bool false) := by
    have := hD.c0
    rwa [show decide (x.per < 0) = false by rw [HPE.out, decide_eq_false_iff_not]; omega] at this
  have hD1 := hD.c1
  rcases hD.wds.cases with ⟨h0, _⟩ | ⟨_, rfl, db, dO, rfl, hd1⟩
  · exact absurd h0 (by rw [HPE.out]; have := HP0.out; omega)
  have hd1 : w5.cell? ⟨db, dO, none⟩ = some (.int .u64 (P : Int)) := by rw [hd1, HPE.out]; rfl
  have he : (x.amt * k).tdiv (P : Int) = u := by rw [HUE.out, uptoI, HPE.out]
  have HE := hide he
  clear hP hb4 hD he
  go_wp2_with fail
  refine (bigQuo_self W1.heap.size W1.heap.size gd P db dO dc V4 (x.amt * k) _ hs5 hP5 HM.out HP0.out HP2.out hv hD0 hD1 hd1).mono ?_
  rintro e w6 ⟨rfl, V6, hQ, hb6⟩
  rw [HE.out] at hQ
  have hb6 := hb5.trans hb6
  clear hD0 hD1 hd1 hP5 hb5
  go_wp2_with fail
  refine (int64_any hQ HU.out).mono ?_
  rintro e w7 ⟨rfl, n7, rfl⟩
  go_wp2_with fail
  go_ret
  exact ⟨rfl, bdrewN (hb1.trans (hb6.mono hs1)) n7⟩
end Go.Proofs.YtkeapacfmeblgaaGreatDoor
