/- frame.Compare, ledger.Check, ledger.Get: what they return. -/
import Derived.Test.YtjojjicpdfmopaaGreatDoorBalP
namespace Go.Proofs.YtjojjicpdfmopaaGreatDoor
open Go Go.RowKit
set_option linter.unusedVariables false

theorem isNaN_int (a : Int) (w : World) : Calls Tryz.prog 103 #[.int .i64 a] w fun e w' => e = .returned (.bool false) ∧ w' = w := by
  go_enter Tryz.func103, Tryz.ntmps103
  go_wp2_with fail
  go_ret
  exact ⟨by simp, rfl⟩
theorem compare_int (a b : Int) (w : World) : Calls Tryz.prog 69 #[.int .i64 a, .int .i64 b] w fun e w' => e = .returned (.int .i64 (cmpI a b)) ∧ w' = w := by
  rcases Int.lt_trichotomy a b with h | h | h
  · have H := hide (cmpI_m h)
    go_enter Tryz.func69, Tryz.ntmps69
    go_wp2_with (go_at_call 103; refine (isNaN_int _ _).mono ?_; rintro e w1 ⟨rfl, rfl⟩)
    go_ret
    exact ⟨by rw [H.out]; rfl, rfl⟩
  · subst h
    have H := hide (cmpI_z a)
    have h1 : ¬ a < a := by omega
    go_enter Tryz.func69, Tryz.ntmps69
    go_wp2_with (go_at_call 103; refine (isNaN_int _ _).mono ?_; rintro e w1 ⟨rfl, rfl⟩)
    go_ret
    exact ⟨by rw [H.out]; rfl, rfl⟩
  · have H := hide (cmpI_p h)
    have h1 : ¬ a < b := by omega
    go_enter Tryz.func69, Tryz.ntmps69
    go_wp2_with (go_at_call 103; refine (isNaN_int _ _).mono ?_; rintro e w1 ⟨rfl, rfl⟩)
    go_ret
    exact ⟨by rw [H.out]; rfl, rfl⟩

/-- cmp.Or of three numbers -/
theorem or_three (x y z : Int) (g cap : Nat) (w : World) (h0 : w.cell? ⟨g, 0, none⟩ = some (.int .i64 x)) (h1 : w.cell? ⟨g, 1, none⟩ = some (.int .i64 y)) (h2 : w.cell? ⟨g, 2, none⟩ = some (.int .i64 z)) :
    Calls Tryz.prog 68 #[.slice (some ⟨g, 0, none⟩) 3 cap] w fun e w' => e = .returned (.int .i64 (orV (orV x y) z)) ∧ w' = w := by
  have hq : ∀ (j : Nat) (v : Int), j < 3 → (j = 0 → v = x) → (j = 1 → v = y) → (j = 2 → v = z) → w.cell? ⟨g, j, none⟩ = some (.int .i64 v) := by
    intro j v hj e0 e1 e2
    have : j = 0 ∨ j = 1 ∨ j = 2 := by omega
    rcases this with rfl | rfl | rfl
    · rw [e0 rfl]; exact h0
    · rw [e1 rfl]; exact h1
    · rw [e2 rfl]; exact h2
  clear h0 h1 h2
  have Hq := hide hq
  clear hq
  go_enter Tryz.func68, Tryz.ntmps68
  go_wp2_with fail
  go_loop [8] (fun i => ∃ k : Nat, k ≤ 3 ∧ i = .int .i64 k ∧ Hid (1 ≤ k → x = 0) ∧ Hid (2 ≤ k → y = 0) ∧ Hid (3 ≤ k → z = 0)) (fun i => 3 - (intOf i).toNat)
  case atStart => exact ⟨0, by omega, rfl, fun h => absurd h (by omega), fun h => absurd h (by omega), fun h => absurd h (by omega)⟩
  case round =>
    obtain ⟨k, hk, rfl, hx, hy, hz⟩ := hrel
    by_cases hlt : k < 3
    · obtain ⟨v, hv⟩ : ∃ v, v = (if k = 0 then x else if k = 1 then y else z) := ⟨_, rfl⟩
      have hc := Hq.out k v hlt (fun e => by rw [hv, if_pos e]) (fun e => by rw [hv, if_neg (by omega), if_pos e]) (fun e => by rw [hv, if_neg (by omega), if_neg (by omega)])
      have HV := hide hv
      have k0 : (0 : Int) ≤ (k : Int) := by omega
      have k1 : (k : Int) < 3 := by omega
      clear hv
      cases hzz : v == 0 with
      | true =>
        have hz2 : (v != 0) = false := by rw [bne, hzz]; rfl
        have HX : Hid (v = 0) := by show v = 0; simpa using hzz
        go_wp2_with fail
        go_round
        case rel =>
          refine ⟨k + 1, by omega, by go_num, fun h => ?_, fun h => ?_, fun h => ?_⟩
          · by_cases e : k = 0
            · have := HV.out; rw [if_pos e] at this; rw [← this]; exact HX.out
            · exact hx.out (by omega)
          · by_cases e : k = 1
            · have := HV.out; rw [if_neg (by omega), if_pos e] at this; rw [← this]; exact HX.out
            · exact hy.out (by omega)
          · have := HV.out; rw [if_neg (by omega), if_neg (by omega)] at this; rw [← this]; exact HX.out
        case measure => simp [intOf]; omega
      | false =>
        have hz2 : (v != 0) = true := by rw [bne, hzz]; rfl
        have HX : Hid (¬ v = 0) := by show ¬ v = 0; simpa using hzz
        go_wp2_with fail
        go_ret
        refine ⟨ret_int ?_, rfl⟩
        have hv := HV.out
        have hn := HX.out
        by_cases e0 : k = 0
        · rw [if_pos e0] at hv; subst hv
          rw [show orV v y = v from if_neg hn, orV, if_neg hn]
        · have hx0 := hx.out (by omega)
          rw [if_neg e0] at hv
          by_cases e1 : k = 1
          · rw [if_pos e1] at hv; subst hv
            rw [show orV x v = v from if_pos hx0, orV, if_neg hn]
          · have hy0 := hy.out (by omega)
            rw [if_neg e1] at hv; subst hv
            rw [show orV x y = y from if_pos hx0, orV, if_pos hy0]
    · have HX := hide (hx.out (by omega))
      have HY := hide (hy.out (by omega))
      have HZ := hide (hz.out (by omega))
      clear hx hy hz
      go_wp2_with fail
      go_ret
      refine ⟨ret_int ?_, rfl⟩
      rw [show orV x y = y from if_pos HX.out, orV, if_pos HY.out, HZ.out]

set_option maxRecDepth 100000 in
theorem compare_bal (x y : Bal) (W : World) :
    Calls Tryz.prog 32 #[.agg #[.int .i64 x.ent, .string x.acc, .string x.cur, .int .i64 x.amt], .agg #[.int .i64 y.ent, .string y.acc, .string y.cur, .int .i64 y.amt]] W
      fun e w' => e = .returned (.int .i64 (cmpBal x y)) ∧ ∃ q os', w' = Go.Sort.grow (W.drewN q) os' := by
  go_enter Tryz.func32, Tryz.ntmps32
  go_wp2_with fail
  have c0 : ((W.alloc (.cells #[.int .i64 x.ent, .string x.acc, .string x.cur, .int .i64 x.amt] 30)).alloc (.cells #[.int .i64 y.ent, .string y.acc, .string y.cur, .int .i64 y.amt] 30)).cell? ⟨W.heap.size, 0, none⟩ = some (.int .i64 x.ent) := by simp
  have c1 : ((W.alloc (.cells #[.int .i64 x.ent, .string x.acc, .string x.cur, .int .i64 x.amt] 30)).alloc (.cells #[.int .i64 y.ent, .string y.acc, .string y.cur, .int .i64 y.amt] 30)).cell? ⟨W.heap.size, 1, none⟩ = some (.string x.acc) := by simp
  have c2 : ((W.alloc (.cells #[.int .i64 x.ent, .string x.acc, .string x.cur, .int .i64 x.amt] 30)).alloc (.cells #[.int .i64 y.ent, .string y.acc, .string y.cur, .int .i64 y.amt] 30)).cell? ⟨W.heap.size, 2, none⟩ = some (.string x.cur) := by simp
  have d0 : ((W.alloc (.cells #[.int .i64 x.ent, .string x.acc, .string x.cur, .int .i64 x.amt] 30)).alloc (.cells #[.int .i64 y.ent, .string y.acc, .string y.cur, .int .i64 y.amt] 30)).cell? ⟨W.heap.size + 1, 0, none⟩ = some (.int .i64 y.ent) := by simp
  have d1 : ((W.alloc (.cells #[.int .i64 x.ent, .string x.acc, .string x.cur, .int .i64 x.amt] 30)).alloc (.cells #[.int .i64 y.ent, .string y.acc, .string y.cur, .int .i64 y.amt] 30)).cell? ⟨W.heap.size + 1, 1, none⟩ = some (.string y.acc) := by simp
  have d2 : ((W.alloc (.cells #[.int .i64 x.ent, .string x.acc, .string x.cur, .int .i64 x.amt] 30)).alloc (.cells #[.int .i64 y.ent, .string y.acc, .string y.cur, .int .i64 y.amt] 30)).cell? ⟨W.heap.size + 1, 2, none⟩ = some (.string y.cur) := by simp
  have HG : Hid (∃ os', ((W.alloc (.cells #[.int .i64 x.ent, .string x.acc, .string x.cur, .int .i64 x.amt] 30)).alloc (.cells #[.int .i64 y.ent, .string y.acc, .string y.cur, .int .i64 y.amt] 30)) = Go.Sort.grow W os') := ⟨_, by rw [Go.Sort.alloc_eq_grow, Go.Sort.alloc_eq_grow, Go.Sort.grow_grow]⟩
  generalize ((W.alloc (.cells #[.int .i64 x.ent, .string x.acc, .string x.cur, .int .i64 x.amt] 30)).alloc (.cells #[.int .i64 y.ent, .string y.acc, .string y.cur, .int .i64 y.amt] 30)) = W1 at c0 c1 c2 d0 d1 d2 HG ⊢
  refine wp_region_still_tail 15 (by kernel_rfl) (by kernel_rfl) ?_
  simp only [List.take_succ_cons, List.take_zero, List.drop_succ_cons, List.drop_zero]
  change wpStill _ _ W1.drew _ _ _
  still_step
  still_step
  still_step
  still_step
  still_call (compare_int x.ent y.ent _)
  still_step
  still_step
  still_step
  still_step
  still_call (compare_str x.acc y.acc _)
  still_step
  still_step
  still_step
  still_step
  still_call (compare_str x.cur y.cur _)
  refine wpStill_nil ?_
  change wpList _ _ _ _ _ W1.drew
  go_wp2_with fail
  refine (or_three (cmpI x.ent y.ent) (cmpB x.acc y.acc) (cmpB x.cur y.cur) _ _ _ (by simp) (by simp) (by simp)).mono ?_
  rintro e w' ⟨rfl, rfl⟩
  go_wp2_with fail
  go_ret
  obtain ⟨os', ho⟩ := HG.out
  refine ⟨rfl, 1, os' ++ #[.cells #[.int .i64 (cmpI x.ent y.ent), .int .i64 (cmpB x.acc y.acc), .int .i64 (cmpB x.cur y.cur)] 3], ?_⟩
  rw [ho, ← Go.Sort.grow_grow, Go.Sort.alloc_eq_grow]
  rfl
end Go.Proofs.YtjojjicpdfmopaaGreatDoor

namespace Go.Proofs.YtjojjicpdfmopaaGreatDoor
open Go Go.RowKit
set_option linter.unusedVariables false

theorem compare_balB (x y : Bal) (W : World) :
    Calls Tryz.prog 32 #[.agg #[.int .i64 x.ent, .string x.acc, .string x.cur, .int .i64 x.amt], .agg #[.int .i64 y.ent, .string y.acc, .string y.cur, .int .i64 y.amt]] W
      fun e w' => e = .returned (.int .i64 (cmpBal x y)) ∧ Below W.heap.size W w' := by
  refine (compare_bal x y W).mono fun e w' ⟨he, q, os, hw⟩ => ⟨he, ?_⟩
  subst hw
  refine ⟨rfl, rfl, rfl, ?_, fun i hi => ?_⟩
  · show W.heap.size ≤ (W.heap ++ os).size
    simp
  · show (W.heap ++ os)[i]? = _
    rw [Array.getElem?_append_left hi]

theorem may_any (n : Int) (w : World) : Calls Tryz.prog 33 #[.int .i64 n] w fun e w' => e = .returned (.bool (mayB n)) ∧ w = w' := by
  unfold mayB inB
  by_cases h1 : (-1000000000000000000) ≤ n
  · go_enter Tryz.func33, Tryz.ntmps33
    go_wp2_with fail
    go_ret
    exact ⟨by simp [h1], rfl⟩
  · have h1' : n < (-1000000000000000000) := by omega
    have h1d : decide ((-1000000000000000000) ≤ n) = false := by simpa using h1
    clear h1
    go_enter Tryz.func33, Tryz.ntmps33
    go_wp2_with fail
    go_ret
    exact ⟨by simp [h1d], rfl⟩

theorem errV_at (l : List Bal) {k : Nat} {n : Nat} (hn : l.length = n) (h200 : n ≤ 200) (hto : firstE (balE l) k = 0) (hk : k < n) (hb : balE l k ≠ 0) : balsE l = balE l k := by
  rw [balsE, if_neg (by omega), hn]
  exact firstE_hit hto hk hb

set_option maxHeartbeats 1000000 in
set_option maxRecDepth 100000 in
theorem lcheck_any (l : List Bal) (A : Option Addr) (n cap : Nat) (w : World) (hl : n ≤ 9223372036854775807) (ha : Rd w 4 balEnc A n l) :
    Calls Tryz.prog 18 #[.slice A n cap] w fun e w' => e = .returned (errV (balsE l)) ∧ Below w.heap.size w w' := by
  have Hn := hide ha.1
  by_cases h2 : 200 < n
  · have h2' : (200 : Int) < (n : Int) := by omega
    have HF : Hid (balsE l = 4) := by show _ = _; rw [balsE, if_pos (by rw [Hn.out]; exact h2)]
    clear h2
    go_enter Tryz.func18, Tryz.ntmps18
    go_wp2_with fail
    go_ret
    exact ⟨by rw [HF.out]; rfl, Below.refl _ _⟩
  · have h2' : ¬ (200 : Int) < (n : Int) := by omega
    have hn200 : n ≤ 200 := by omega
    clear h2
    go_enter Tryz.func18, Tryz.ntmps18
    go_wp2_with fail
    go_loopw [11] (fun iv wr => ∃ k : Nat, k ≤ n ∧ iv = .int .i64 k ∧ firstE (balE l) k = 0 ∧ Below w.heap.size w wr) (fun iv _ => n - (intOf iv).toNat)
    case atStart => exact ⟨0, by omega, rfl, rfl, Below.refl _ _⟩
    case round =>
      obtain ⟨k, hk, rfl, hto, hbr⟩ := hrel
      have HTo := hide hto
      clear hto
      by_cases hlt : k < n
      · have hkl : k < l.length := by have := Hn.out; omega
        obtain ⟨b, off, rfl, hcs⟩ := (Rd.below ha hbr).2 (by omega)
        have q0 := hcs k 0 _ hkl rfl
        have q1 := hcs k 1 _ hkl rfl
        have q2 := hcs k 2 _ hkl rfl
        have q3 := hcs k 3 _ hkl rfl
        rw [Nat.add_zero] at q0
        have k0 : (0 : Int) ≤ (k : Int) := by omega
        have k1 : (k : Int) < (n : Int) := by omega
        have hbx : Below wr.heap.size wr (wr.alloc (.cells #[.int .i64 l[k].ent, .string l[k].acc, .string l[k].cur, .int .i64 l[k].amt] 30)) := (Below.refl _ _).alloc (Nat.le_refl _) _
        cases k with
        | zero =>
          clear hcs
          simp only [Nat.zero_mul, Nat.add_zero] at q0 q1 q2 q3
          have HO : Hid (ordB l 0 = true) := ordB_0 l
          cases hm : mayB l[0].amt with
          | false =>
            have HE := hide (balE_2 HO.out hkl hm)
            have HF : Hid (balsE l = 1) := by show _ = _; rw [errV_at l Hn.out hn200 HTo.out hlt (by rw [HE.out]; decide), HE.out]
            go_wp2_with fail
            go_quiet (fail)
            go_wp2_with fail
            refine (may_any _ _).mono ?_
            rintro e w5 ⟨rfl, rfl⟩
            rw [hm]
            go_wp2_with fail
            go_ret
            exact ⟨by rw [HF.out]; rfl, bdrewN (hbr.trans (hbx.mono hbr.size)) _⟩
          | true =>
            by_cases hz : l[0].amt = 0
            · have HE := hide (balE_3 HO.out hkl hm hz)
              have HF : Hid (balsE l = 3) := by show _ = _; rw [errV_at l Hn.out hn200 HTo.out hlt (by rw [HE.out]; decide), HE.out]
              have hz1 : (l[0].amt == 0) = true := by simpa using hz
              clear hz
              go_wp2_with fail
              go_quiet (fail)
              go_wp2_with fail
              refine (may_any _ _).mono ?_
              rintro e w5 ⟨rfl, rfl⟩
              rw [hm]
              go_wp2_with fail
              go_ret
              exact ⟨by rw [HF.out]; rfl, bdrewN (hbr.trans (hbx.mono hbr.size)) _⟩
            · have HE := hide (balE_4 HO.out hkl hm hz)
              have hz1 : (l[0].amt == 0) = false := by simpa using hz
              clear hz
              go_wp2_with fail
              go_quiet (fail)
              go_wp2_with fail
              refine (may_any _ _).mono ?_
              rintro e w5 ⟨rfl, rfl⟩
              rw [hm]
              go_wp2_with fail
              go_roundw
              case rel => exact ⟨1, by omega, by go_num, by rw [firstE_succ HTo.out]; exact HE.out, bdrewN (hbr.trans (hbx.mono hbr.size)) _⟩
              case measure => simp [intOf]; omega
        | succ j =>
          have p0 := hcs j 0 _ (by omega) rfl
          have p1 := hcs j 1 _ (by omega) rfl
          have p2 := hcs j 2 _ (by omega) rfl
          have p3 := hcs j 3 _ (by omega) rfl
          rw [Nat.add_zero] at p0
          clear hcs
          have j0 : (0 : Int) ≤ (j : Int) := by omega
          have j1 : (j : Int) < (n : Int) := by omega
          have hwj : IntKind.i64.wrap (j : Int) = (j : Int) := IntWalk.i64_in _ (by omega)
          have HO := hide (ordB_s (l := l) (k := j) hkl)
          have hge := cmpBal_ge l[j] l[j + 1]
          have x0 : (wr.alloc (.cells #[.int .i64 l[j + 1].ent, .string l[j + 1].acc, .string l[j + 1].cur, .int .i64 l[j + 1].amt] 30)).cell? ⟨wr.heap.size, 0, none⟩ = some (.int .i64 l[j + 1].ent) := by simp
          have x1 : (wr.alloc (.cells #[.int .i64 l[j + 1].ent, .string l[j + 1].acc, .string l[j + 1].cur, .int .i64 l[j + 1].amt] 30)).cell? ⟨wr.heap.size, 1, none⟩ = some (.string l[j + 1].acc) := by simp
          have x2 : (wr.alloc (.cells #[.int .i64 l[j + 1].ent, .string l[j + 1].acc, .string l[j + 1].cur, .int .i64 l[j + 1].amt] 30)).cell? ⟨wr.heap.size, 2, none⟩ = some (.string l[j + 1].cur) := by simp
          have x3 : (wr.alloc (.cells #[.int .i64 l[j + 1].ent, .string l[j + 1].acc, .string l[j + 1].cur, .int .i64 l[j + 1].amt] 30)).cell? ⟨wr.heap.size, 3, none⟩ = some (.int .i64 l[j + 1].amt) := by simp
          have hbs : b < wr.heap.size := World.block_lt_of_cell? _ _ p0
          have y0 := below_cell hbx hbs p0
          have y1 := below_cell hbx hbs p1
          have y2 := below_cell hbx hbs p2
          have y3 := below_cell hbx hbs p3
          have hxs : wr.heap.size < (wr.alloc (.cells #[.int .i64 l[j + 1].ent, .string l[j + 1].acc, .string l[j + 1].cur, .int .i64 l[j + 1].amt] 30)).heap.size := by simp
          obtain ⟨e, he⟩ : ∃ e, e = cmpBal l[j] l[j + 1] := ⟨_, rfl⟩
          rw [← he] at hge
          have HE0 := hide he
          clear he
          cases ho : aheadB l[j] l[j + 1] with
          | false =>
            have HE := hide (balE_1 (l := l) (k := j + 1) (by rw [HO.out]; exact ho))
            have HF : Hid (balsE l = 5) := by show _ = _; rw [errV_at l Hn.out hn200 HTo.out hlt (by rw [HE.out]; decide), HE.out]
            rw [ho] at hge
            clear ho
            go_wp2_with fail
            generalize (wr.alloc (.cells #[.int .i64 l[j + 1].ent, .string l[j + 1].acc, .string l[j + 1].cur, .int .i64 l[j + 1].amt] 30)) = W1 at x0 x1 x2 x3 hbx y0 y1 y2 y3 hxs ⊢
            refine wp_region_still_tail 9 (by kernel_rfl) (by kernel_rfl) ?_
            simp only [List.take_succ_cons, List.take_zero, List.drop_succ_cons, List.drop_zero]
            change wpStill _ _ W1.drew _ _ _
            repeat still_step
            refine wpStill_nil ?_
            change wpList _ _ _ _ _ W1.drew
            go_wp2_with (first | (go_at_call 32; refine (compare_balB l[j] l[j + 1] _).mono ?_; rintro e w4 ⟨rfl, hb4⟩; rw [← HE0.out]))
            have hb14 : Below wr.heap.size wr w4 := (show Below wr.heap.size wr W1.drew from bdrewN hbx 1).trans (hb4.mono (Nat.le_of_lt hxs))
            go_ret
            exact ⟨by rw [HF.out]; rfl, hbr.trans (hb14.mono hbr.size)⟩
          | true =>
            have HA := hide ho
            rw [ho] at hge
            clear ho
            cases hm : mayB l[j + 1].amt with
            | false =>
              have HE := hide (balE_2 (by rw [HO.out]; exact HA.out) hkl hm)
              have HF : Hid (balsE l = 1) := by show _ = _; rw [errV_at l Hn.out hn200 HTo.out hlt (by rw [HE.out]; decide), HE.out]
              go_wp2_with fail
              generalize (wr.alloc (.cells #[.int .i64 l[j + 1].ent, .string l[j + 1].acc, .string l[j + 1].cur, .int .i64 l[j + 1].amt] 30)) = W1 at x0 x1 x2 x3 hbx y0 y1 y2 y3 hxs ⊢
              refine wp_region_still_tail 9 (by kernel_rfl) (by kernel_rfl) ?_
              simp only [List.take_succ_cons, List.take_zero, List.drop_succ_cons, List.drop_zero]
              change wpStill _ _ W1.drew _ _ _
              repeat still_step
              refine wpStill_nil ?_
              change wpList _ _ _ _ _ W1.drew
              go_wp2_with (first | (go_at_call 32; refine (compare_balB l[j] l[j + 1] _).mono ?_; rintro e w4 ⟨rfl, hb4⟩; rw [← HE0.out]; have x34 := below_cell hb4 (show wr.heap.size < W1.drew.heap.size from hxs) x3) | (go_at_call 33; refine (may_any _ _).mono ?_; rintro e w5 ⟨rfl, rfl⟩; rw [hm]))
              have hb14 : Below wr.heap.size wr w4 := (show Below wr.heap.size wr W1.drew from bdrewN hbx 1).trans (hb4.mono (Nat.le_of_lt hxs))
              go_ret
              exact ⟨by rw [HF.out]; rfl, hbr.trans (hb14.mono hbr.size)⟩
            | true =>
              by_cases hz : l[j + 1].amt = 0
              · have HE := hide (balE_3 (by rw [HO.out]; exact HA.out) hkl hm hz)
                have HF : Hid (balsE l = 3) := by show _ = _; rw [errV_at l Hn.out hn200 HTo.out hlt (by rw [HE.out]; decide), HE.out]
                have hz1 : (l[j + 1].amt == 0) = true := by simpa using hz
                clear hz
                go_wp2_with fail
                generalize (wr.alloc (.cells #[.int .i64 l[j + 1].ent, .string l[j + 1].acc, .string l[j + 1].cur, .int .i64 l[j + 1].amt] 30)) = W1 at x0 x1 x2 x3 hbx y0 y1 y2 y3 hxs ⊢
                refine wp_region_still_tail 9 (by kernel_rfl) (by kernel_rfl) ?_
                simp only [List.take_succ_cons, List.take_zero, List.drop_succ_cons, List.drop_zero]
                change wpStill _ _ W1.drew _ _ _
                repeat still_step
                refine wpStill_nil ?_
                change wpList _ _ _ _ _ W1.drew
                go_wp2_with (first | (go_at_call 32; refine (compare_balB l[j] l[j + 1] _).mono ?_; rintro e w4 ⟨rfl, hb4⟩; rw [← HE0.out]; have x34 := below_cell hb4 (show wr.heap.size < W1.drew.heap.size from hxs) x3) | (go_at_call 33; refine (may_any _ _).mono ?_; rintro e w5 ⟨rfl, rfl⟩; rw [hm]))
                have hb14 : Below wr.heap.size wr w4 := (show Below wr.heap.size wr W1.drew from bdrewN hbx 1).trans (hb4.mono (Nat.le_of_lt hxs))
                go_ret
                exact ⟨by rw [HF.out]; rfl, hbr.trans (hb14.mono hbr.size)⟩
              · have HE := hide (balE_4 (by rw [HO.out]; exact HA.out) hkl hm hz)
                have hz1 : (l[j + 1].amt == 0) = false := by simpa using hz
                clear hz
                go_wp2_with fail
                generalize (wr.alloc (.cells #[.int .i64 l[j + 1].ent, .string l[j + 1].acc, .string l[j + 1].cur, .int .i64 l[j + 1].amt] 30)) = W1 at x0 x1 x2 x3 hbx y0 y1 y2 y3 hxs ⊢
                refine wp_region_still_tail 9 (by kernel_rfl) (by kernel_rfl) ?_
                simp only [List.take_succ_cons, List.take_zero, List.drop_succ_cons, List.drop_zero]
                change wpStill _ _ W1.drew _ _ _
                repeat still_step
                refine wpStill_nil ?_
                change wpList _ _ _ _ _ W1.drew
                go_wp2_with (first | (go_at_call 32; refine (compare_balB l[j] l[j + 1] _).mono ?_; rintro e w4 ⟨rfl, hb4⟩; rw [← HE0.out]; have x34 := below_cell hb4 (show wr.heap.size < W1.drew.heap.size from hxs) x3) | (go_at_call 33; refine (may_any _ _).mono ?_; rintro e w5 ⟨rfl, rfl⟩; rw [hm]))
                have hb14 : Below wr.heap.size wr w4 := (show Below wr.heap.size wr W1.drew from bdrewN hbx 1).trans (hb4.mono (Nat.le_of_lt hxs))
                go_roundw
                case rel => exact ⟨j + 1 + 1, by omega, by go_num, by rw [firstE_succ HTo.out]; exact HE.out, hbr.trans (hb14.mono hbr.size)⟩
                case measure => simp [intOf]; omega
      · have HF : Hid (balsE l = 0) := by show _ = _; rw [balsE, if_neg (by have := Hn.out; omega), Hn.out, show n = k by omega]; exact HTo.out
        go_wp2_with fail
        go_ret
        exact ⟨by rw [HF.out]; rfl, hbr⟩
end Go.Proofs.YtjojjicpdfmopaaGreatDoor

namespace Go.Proofs.YtjojjicpdfmopaaGreatDoor
open Go Go.RowKit
set_option linter.unusedVariables false

theorem may_low {n : Int} (h : n < -1000000000000000000) : mayB n = false := by simp [mayB, inB]; omega
theorem may_high {n : Int} (h : 1000000000000000000 < n) : mayB n = false := by simp [mayB, inB]; omega
theorem may_mid {n : Int} (h : ¬ n < -1000000000000000000) (h2 : ¬ 1000000000000000000 < n) : mayB n = true := by simp [mayB, inB]; omega

theorem getB_hit {l : List Bal} {ent : Int} {acc cur : ByteArray} {k : Nat} (h : NoTo (isAt ent acc cur) l k) (hk : k < l.length) (hp : isAt ent acc cur l[k] = true) : getB l ent acc cur = l[k].amt := by
  rw [getB, h.hit hk hp]
theorem getB_none {l : List Bal} {ent : Int} {acc cur : ByteArray} {k : Nat} (h : NoTo (isAt ent acc cur) l k) (hk : l.length ≤ k) : getB l ent acc cur = 0 := by
  rw [getB, h.all hk]

end Go.Proofs.YtjojjicpdfmopaaGreatDoor
