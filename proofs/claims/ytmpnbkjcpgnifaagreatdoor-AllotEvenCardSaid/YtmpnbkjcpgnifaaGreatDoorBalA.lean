/- frame.Compare, ledger.Check, ledger.Get: what they return. -/
import Derived.Test.YtmpnbkjcpgnifaaGreatDoorBalP
namespace Go.Proofs.YtmpnbkjcpgnifaaGreatDoor
open Go Go.RowKit
set_option linter.unusedVariables false

theorem isNaN_int (a : Int) (w : World) : Calls Tryz.prog 82 #[.int .i64 a] w fun e w' => e = .returned (.bool false) ∧ w' = w := by
  go_enter Tryz.func82, Tryz.ntmps82
  go_wp2_with fail
  go_ret
  exact ⟨by simp, rfl⟩
theorem compare_int (a b : Int) (w : World) : Calls Tryz.prog 58 #[.int .i64 a, .int .i64 b] w fun e w' => e = .returned (.int .i64 (cmpI a b)) ∧ w' = w := by
  rcases Int.lt_trichotomy a b with h | h | h
  · have H := hide (cmpI_m h)
    go_enter Tryz.func58, Tryz.ntmps58
    go_wp2_with (go_at_call 82; refine (isNaN_int _ _).mono ?_; rintro e w1 ⟨rfl, rfl⟩)
    go_ret
    exact ⟨by rw [H.out]; rfl, rfl⟩
  · subst h
    have H := hide (cmpI_z a)
    have h1 : ¬ a < a := by omega
    go_enter Tryz.func58, Tryz.ntmps58
    go_wp2_with (go_at_call 82; refine (isNaN_int _ _).mono ?_; rintro e w1 ⟨rfl, rfl⟩)
    go_ret
    exact ⟨by rw [H.out]; rfl, rfl⟩
  · have H := hide (cmpI_p h)
    have h1 : ¬ a < b := by omega
    go_enter Tryz.func58, Tryz.ntmps58
    go_wp2_with (go_at_call 82; refine (isNaN_int _ _).mono ?_; rintro e w1 ⟨rfl, rfl⟩)
    go_ret
    exact ⟨by rw [H.out]; rfl, rfl⟩

/-- cmp.Or of three numbers -/
theorem or_three (x y z : Int) (g cap : Nat) (w : World) (h0 : w.cell? ⟨g, 0, none⟩ = some (.int .i64 x)) (h1 : w.cell? ⟨g, 1, none⟩ = some (.int .i64 y)) (h2 : w.cell? ⟨g, 2, none⟩ = some (.int .i64 z)) :
    Calls Tryz.prog 57 #[.slice (some ⟨g, 0, none⟩) 3 cap] w fun e w' => e = .returned (.int .i64 (orV (orV x y) z)) ∧ w' = w := by
  have hq : ∀ (j : Nat) (v : Int), j < 3 → (j = 0 → v = x) → (j = 1 → v = y) → (j = 2 → v = z) → w.cell? ⟨g, j, none⟩ = some (.int .i64 v) := by
    intro j v hj e0 e1 e2
    have : j = 0 ∨ j = 1 ∨ j = 2 := by omega
    rcases this with rfl | rfl | rfl
    · rw [e0 rfl]; exact h0
    · rw [e1 rfl]; exact h1
    · rw [e2 rfl]; exact h2
  clear h0 h1 h2
  have Hq := hide hq
  clear hq
  go_enter Tryz.func57, Tryz.ntmps57
  go_wp2_with fail
  go_loop [8] (fun i => ∃ k : Nat, k ≤ 3 ∧ i = .int .i64 k ∧ Hid (1 ≤ k → x = 0) ∧ Hid (2 ≤ k → y = 0) ∧ Hid (3 ≤ k → z = 0)) (fun i => 3 - (intOf i).toNat)
  case atStart => exact ⟨0, by omega, rfl, fun h => absurd h (by omega), fun h => absurd h (by omega), fun h => absurd h (by omega)⟩
  case round =>
    obtain ⟨k, hk, rfl, hx, hy, hz⟩ := hrel
    by_cases hlt : k < 3
    · obtain ⟨v, hv⟩ : ∃ v, v = (if k = 0 then x else if k = 1 then y else z) := ⟨_, rfl⟩
      have hc := Hq.out k v hlt (fun e => by rw [hv, if_pos e]) (fun e => by rw [hv, if_neg (by omega), if_pos e]) (fun e => by rw [hv, if_neg (by omega), if_neg (by omega)])
      have HV := hide hv
      have k0 : (0 : Int) ≤ (k : Int) := by omega
      have k1 : (k : Int) < 3 := by omega
      clear hv
      cases hzz : v == 0 with
      | true =>
        have hz2 : (v != 0) = false := by rw [bne, hzz]; rfl
        have HX : Hid (v = 0) := by show v = 0; simpa using hzz
        go_wp2_with fail
        go_round
        case rel =>
          refine ⟨k + 1, by omega, by go_num, fun h => ?_, fun h => ?_, fun h => ?_⟩
          · by_cases e : k = 0
            · have := HV.out; rw [if_pos e] at this; rw [← this]; exact HX.out
            · exact hx.out (by omega)
          · by_cases e : k = 1
            · have := HV.out; rw [if_neg (by omega), if_pos e] at this; rw [← this]; exact HX.out
            · exact hy.out (by omega)
          · have := HV.out; rw [if_neg (by omega), if_neg (by omega)] at this; rw [← this]; exact HX.out
        case measure => simp [intOf]; omega
      | false =>
        have hz2 : (v != 0) = true := by rw [bne, hzz]; rfl
        have HX : Hid (¬ v = 0) := by show ¬ v = 0; simpa using hzz
        go_wp2_with fail
        go_ret
        refine ⟨ret_int ?_, rfl⟩
        have hv := HV.out
        have hn := HX.out
        by_cases e0 : k = 0
        · rw [if_pos e0] at hv; subst hv
          rw [show orV v y = v from if_neg hn, orV, if_neg hn]
        · have hx0 := hx.out (by omega)
          rw [if_neg e0] at hv
          by_cases e1 : k = 1
          · rw [if_pos e1] at hv; subst hv
            rw [show orV x v = v from if_pos hx0, orV, if_neg hn]
          · have hy0 := hy.out (by omega)
            rw [if_neg e1] at hv; subst hv
            rw [show orV x y = y from if_pos hx0, orV, if_pos hy0]
    · have HX := hide (hx.out (by omega))
      have HY := hide (hy.out (by omega))
      have HZ := hide (hz.out (by omega))
      clear hx hy hz
      go_wp2_with fail
      go_ret
      refine ⟨ret_int ?_, rfl⟩
      rw [show orV x y = y from if_pos HX.out, orV, if_pos HY.out, HZ.out]

set_option maxRecDepth 100000 in
theorem compare_bal (x y : Bal) (W : World) :
    Calls Tryz.prog 26 #[.agg #[.int .i64 x.ent, .string x.acc, .string x.cur, .int .i64 x.amt], .agg #[.int .i64 y.ent, .string y.acc, .string y.cur, .int .i64 y.amt]] W
      fun e w' => e = .returned (.int .i64 (cmpBal x y)) ∧ ∃ q os', w' = Go.Sort.grow (W.drewN q) os' := by
  go_enter Tryz.func26, Tryz.ntmps26
  go_wp2_with fail
  have c0 : ((W.alloc (.cells #[.int .i64 x.ent, .string x.acc, .string x.cur, .int .i64 x.amt] 37)).alloc (.cells #[.int .i64 y.ent, .string y.acc, .string y.cur, .int .i64 y.amt] 37)).cell? ⟨W.heap.size, 0, none⟩ = some (.int .i64 x.ent) := by simp
  have c1 : ((W.alloc (.cells #[.int .i64 x.ent, .string x.acc, .string x.cur, .int .i64 x.amt] 37)).alloc (.cells #[.int .i64 y.ent, .string y.acc, .string y.cur, .int .i64 y.amt] 37)).cell? ⟨W.heap.size, 1, none⟩ = some (.string x.acc) := by simp
  have c2 : ((W.alloc (.cells #[.int .i64 x.ent, .string x.acc, .string x.cur, .int .i64 x.amt] 37)).alloc (.cells #[.int .i64 y.ent, .string y.acc, .string y.cur, .int .i64 y.amt] 37)).cell? ⟨W.heap.size, 2, none⟩ = some (.string x.cur) := by simp
  have d0 : ((W.alloc (.cells #[.int .i64 x.ent, .string x.acc, .string x.cur, .int .i64 x.amt] 37)).alloc (.cells #[.int .i64 y.ent, .string y.acc, .string y.cur, .int .i64 y.amt] 37)).cell? ⟨W.heap.size + 1, 0, none⟩ = some (.int .i64 y.ent) := by simp
  have d1 : ((W.alloc (.cells #[.int .i64 x.ent, .string x.acc, .string x.cur, .int .i64 x.amt] 37)).alloc (.cells #[.int .i64 y.ent, .string y.acc, .string y.cur, .int .i64 y.amt] 37)).cell? ⟨W.heap.size + 1, 1, none⟩ = some (.string y.acc) := by simp
  have d2 : ((W.alloc (.cells #[.int .i64 x.ent, .string x.acc, .string x.cur, .int .i64 x.amt] 37)).alloc (.cells #[.int .i64 y.ent, .string y.acc, .string y.cur, .int .i64 y.amt] 37)).cell? ⟨W.heap.size + 1, 2, none⟩ = some (.string y.cur) := by simp
  have HG : Hid (∃ os', ((W.alloc (.cells #[.int .i64 x.ent, .string x.acc, .string x.cur, .int .i64 x.amt] 37)).alloc (.cells #[.int .i64 y.ent, .string y.acc, .string y.cur, .int .i64 y.amt] 37)) = Go.Sort.grow W os') := ⟨_, by rw [Go.Sort.alloc_eq_grow, Go.Sort.alloc_eq_grow, Go.Sort.grow_grow]⟩
  generalize ((W.alloc (.cells #[.int .i64 x.ent, .string x.acc, .string x.cur, .int .i64 x.amt] 37)).alloc (.cells #[.int .i64 y.ent, .string y.acc, .string y.cur, .int .i64 y.amt] 37)) = W1 at c0 c1 c2 d0 d1 d2 HG ⊢
  refine wp_region_still_tail 15 (by kernel_rfl) (by kernel_rfl) ?_
  simp only [List.take_succ_cons, List.take_zero, List.drop_succ_cons, List.drop_zero]
  change wpStill _ _ W1.drew _ _ _
  still_step
  still_step
  still_step
  still_step
  still_call (compare_int x.ent y.ent _)
  still_step
  still_step
  still_step
  still_step
  still_call (compare_str x.acc y.acc _)
  still_step
  still_step
  still_step
  still_step
  still_call (compare_str x.cur y.cur _)
  refine wpStill_nil ?_
  change wpList _ _ _ _ _ W1.drew
  go_wp2_with fail
  refine (or_three (cmpI x.ent y.ent) (cmpB x.acc y.acc) (cmpB x.cur y.cur) _ _ _ (by simp) (by simp) (by simp)).mono ?_
  rintro e w' ⟨rfl, rfl⟩
  go_wp2_with fail
  go_ret
  obtain ⟨os', ho⟩ := HG.out
  refine ⟨rfl, 1, os' ++ #[.cells #[.int .i64 (cmpI x.ent y.ent), .int .i64 (cmpB x.acc y.acc), .int .i64 (cmpB x.cur y.cur)] 3], ?_⟩
  rw [ho, ← Go.Sort.grow_grow, Go.Sort.alloc_eq_grow]
  rfl
end Go.Proofs.YtmpnbkjcpgnifaaGreatDoor
