/- daylaw3.LedgerMerges returns true. -/
import Derived.Test.YthmjkhlndphldaaGreatDoorLedK
import Derived.Test.YthmjkhlndphldaaGreatDoorLedG
import Derived.Test.YthmjkhlndphldaaGreatDoorTold
namespace Go.Proofs.YthmjkhlndphldaaGreatDoor
open Go Go.RowKit
set_option linter.unusedVariables false

set_option maxHeartbeats 4000000 in
set_option maxRecDepth 100000 in
theorem merges_any (a b : List Bal) (c : List Acc) (A BA CA : Option Addr) (an ac bn bc cn ccap : Nat) (ent : Int) (cur : ByteArray) (w : World) (hg : ErrTy w)
    (hac : an ≤ ac) (ham : ac ≤ maxLen) (ha : Rd w 4 balEnc A an a) (haf : BalsOk a) (hA : A = none → ac = 0) (hbc : bn ≤ bc) (hbm : bc ≤ maxLen) (hb : Rd w 4 balEnc BA bn b) (hbf : BalsOk b) (hB : BA = none → bc = 0)
    (hcc : cn ≤ ccap) (hcm : ccap ≤ maxLen) (hc : Accs w CA cn c) (hcok : AccOk c) :
    Calls Tryz.prog 10 #[.slice A an ac, .slice BA bn bc, .slice CA cn ccap, .int .i64 ent, .string cur] w fun e w' => e = .returned (.bool true) ∧ Below w.heap.size w w' := by
  unfold maxLen at ham hbm hcm
  have hal : an ≤ 9223372036854775807 := by omega
  have hbl : bn ≤ 9223372036854775807 := by omega
  have hcl : cn ≤ 9223372036854775807 := by omega
  have Han := hide ha.1
  have Hcn := hide hc.1
  have hbr := balsE_range a
  have hmr := mergeE_range a b
  have hsr := stE_range (c := c) (l := a) (ent := ent) (cur := cur)
  have hHA := hide hA
  have hHB := hide hB
  clear hA hB
  have P1 := fun W h => lcheck_any a A an ac W hal h
  have P2 := fun W h => refLCheck_any a A an ac W hal h
  have P3 := fun W h1 h2 => refMerge_any a b A BA an ac bn bc W hal h1 hbl h2 hHA.out
  have P4 := fun W h1 h2 => merge_any a b A BA an ac bn bc W hal h1 hbl h2 hHA.out hHB.out haf hbf
  have P5 := fun W h1 h2 => statement_any c CA cn ccap a A an ac ent cur W hcl hcc h1 hcok hal h2
  generalize hLL : (if mergeE a b = 0 then netB (a ++ b) else []) = ML at P3 P4
  generalize mergeE a b = me at hmr P3 P4
  clear hLL
  generalize hse : stE c a ent cur = se at hsr P5
  generalize hsl : stL c a ent cur = sl at P5
  have HSE := hide hse
  have HSL := hide hsl
  clear hse hsl
  generalize hbe : balsE a = be at hbr P1 P2
  have HBE := hide hbe
  clear hbe
  have hil : ∀ w : World, Rd w 1 intEnc2 none 0 ([] : List Int) := fun w => Rd.nil _ _ _ _
  by_cases h1 : chartE c = 0
  · have H1 := hide h1
    have h60 : cn ≤ 60 := by have := chartE_len h1; have := Hcn.out; omega
    clear h1
    by_cases h2 : balsE a = 0
    · have H2 := hide h2
      have h200 : an ≤ 200 := by have := (balsE_0 h2).1; have := Han.out; omega
      have HB0 : Hid (be = 0) := HBE.out.symm.trans h2
      clear h2
      by_cases h3 : amtE c a ent cur = 0
      · have H3 := hide h3
        clear h3
        go_enter Tryz.func10, Tryz.ntmps10
        go_wp2_with fail
        refine (P1 _ ha).mono ?_
        rintro e w1 ⟨rfl, hb1⟩
        go_wp2_with fail
        refine (P2 _ (ha.below hb1)).mono ?_
        rintro e w2 ⟨rfl, hb2⟩
        have hb2 := bthen hb1 (Nat.le_refl _) hb2
        go_wp2_with fail
        refine (error_any be be _ (hg.below hb2) hbr.1 hbr.2).mono ?_
        rintro e w3 ⟨rfl, hb3⟩
        rw [beq_self_eq_true]
        have hb3 := bthen hb2 (Nat.le_refl _) hb3
        go_wp2_with fail
        refine (P3 _ (ha.below hb3) (hb.below hb3)).mono ?_
        rintro e w4 ⟨v4, rfl, hown4, hb4⟩
        have hb4 := bthen hb3 (Nat.le_refl _) hb4
        obtain ⟨A4, c4, rfl, h41, h42⟩ := hown4.form
        have hr4 := hown4.rd balEnc_ok
        clear hown4
        go_wp2_with fail
        refine (P4 _ (ha.below hb4) (hb.below hb4)).mono ?_
        rintro e w5 ⟨v5, rfl, hown5, hb5⟩
        have hr4 := hr4.below hb5
        have hb5 := bthen hb4 (Nat.le_refl _) hb5
        obtain ⟨A5, c5, rfl, h51, h52⟩ := hown5.form
        have hr5 := hown5.rd balEnc_ok
        clear hown5
        go_wp2_with fail
        refine (error_any me me _ (hg.below hb5) hmr.1 hmr.2).mono ?_
        rintro e w6 ⟨rfl, hb6⟩
        rw [beq_self_eq_true]
        have hr4 := hr4.below hb6
        have hr5 := hr5.below hb6
        have hb6 := bthen hb5 (Nat.le_refl _) hb6
        have hM63 : ML.length ≤ 9223372036854775807 := by unfold maxLen at h42; omega
        go_wp2_with fail
        refine (bals_same ML _ _ _ _ _ _ hr5 hr4 hM63).mono ?_
        rintro e w7 ⟨rfl, hb7⟩
        have hb7 := bthen hb6 (Nat.le_refl _) hb7
        clear hr4 hr5 h41 h42 h51 h52
        go_wp2_with fail
        refine (refChart_any c _ _ _ _ hcl hcc (hc.below hb7) hcok).mono ?_
        rintro e w8 ⟨rfl, hb8⟩
        have hb8 := bthen hb7 (Nat.le_refl _) hb8
        rw [H1.out]
        go_wp2_with fail
        refine (P2 _ (ha.below hb8)).mono ?_
        rintro e w9 ⟨rfl, hb9⟩
        rw [HB0.out]
        have hb9 := bthen hb8 (Nat.le_refl _) hb9
        go_wp2_with fail
        refine (refAmounts_any c _ _ _ a _ _ _ ent cur _ (by omega) (hc.below hb9) (by omega) (ha.below hb9)).mono ?_
        rintro e w10 ⟨v10, rfl, hown10, hb10⟩
        rw [if_pos H3.out] at hown10
        rw [H3.out]
        have hb10 := bthen hb9 (Nat.le_refl _) hb10
        obtain ⟨VA, vc, rfl, hvc, hvm⟩ := hown10.form
        have hal2 := amtTo_len (c := c) (l := a) (ent := ent) (cur := cur) an
        rw [hal2] at hown10 ⊢
        have hrd10 := hown10.rd intEnc2_ok
        clear hown10 hvc hal2
        have hc10 := hc.below hb10
        have hcn2 : cn = c.length := Hcn.out.symm
        go_wp2_with fail
        subst hcn2
        refine (refRoll_any c _ _ _ _ _ _ hc10 H1.out hrd10 (amt_ints H2.out an)).mono ?_
        rintro e w11 ⟨hb11, ⟨hfit, v11, rfl, hown11⟩ | ⟨hfit, rfl⟩⟩
        · have hb11 := bthen hb10 (Nat.le_refl _) hb11
          have HZ : Hid (se = 0) := HSE.out.symm.trans (stE_4 H1.out H2.out H3.out (by rw [Han.out]; exact hfit))
          have HL : Hid (sl = rollTo c (amtTo c a ent cur an) c.length) := HSL.out.symm.trans ((stL_1 (HSE.out.trans HZ.out)).trans (by rw [Han.out]))
          clear hfit
          obtain ⟨RA, rc, rfl, hrc, hrm⟩ := hown11.form
          have hrr := hown11.rd intEnc2_ok
          rw [← HL.out] at hrr hrc ⊢
          clear hown11
          rw [show (0 : Int) = se from HZ.out.symm]
          go_wp2_with fail
          refine (P5 _ (hc.below hb11) (ha.below hb11)).mono ?_
          rintro e w20 ⟨v20, rfl, hown20, hb20⟩
          have hrr := hrr.below hb20
          have hb20 := bthen hb11 (Nat.le_refl _) hb20
          obtain ⟨A20, c20, rfl, h201, h202⟩ := hown20.form
          have hr20 := hown20.rd intEnc2_ok
          clear hown20
          have hS63 : sl.length ≤ 9223372036854775807 := by unfold maxLen at h202; omega
          go_wp2_with fail
          refine (error_any se se _ (hg.below hb20) hsr.1 hsr.2).mono ?_
          rintro e w21 ⟨rfl, hb21⟩
          rw [beq_self_eq_true]
          have hr20 := hr20.below hb21
          have hrr := hrr.below hb21
          have hb21 := bthen hb20 (Nat.le_refl _) hb21
          go_wp2_with fail
          refine (ints_same _ _ _ _ _ _ _ hr20 hrr (by first | exact hS63 | simp)).mono ?_
          rintro e w22 ⟨rfl, hb22⟩
          go_wp2_with fail
          go_ret
          exact ⟨by first | rfl | simp, bthen hb21 (Nat.le_refl _) hb22⟩
        · have hb11 := bthen hb10 (Nat.le_refl _) hb11
          have HZ : Hid (se = 10) := HSE.out.symm.trans (stE_5 H1.out H2.out H3.out (by rw [Han.out]; exact hfit))
          have HNIL : Hid (sl = []) := HSL.out.symm.trans (stL_0 (by rw [HSE.out, HZ.out]; decide))
          clear hfit
          rw [show (10 : Int) = se from HZ.out.symm]
          go_wp2_with fail
          refine (P5 _ (hc.below hb11) (ha.below hb11)).mono ?_
          rintro e w20 ⟨v20, rfl, hown20, hb20⟩
          have hb20 := bthen hb11 (Nat.le_refl _) hb20
          obtain ⟨A20, c20, rfl, h201, h202⟩ := hown20.form
          have hr20 := hown20.rd intEnc2_ok
          clear hown20
          have hS63 : sl.length ≤ 9223372036854775807 := by unfold maxLen at h202; omega
          go_wp2_with fail
          refine (error_any se se _ (hg.below hb20) hsr.1 hsr.2).mono ?_
          rintro e w21 ⟨rfl, hb21⟩
          rw [beq_self_eq_true]
          have hr20 := hr20.below hb21
          have hrr := hil w21
          have hb21 := bthen hb20 (Nat.le_refl _) hb21
          rw [HNIL.out] at hr20 hS63 ⊢
          go_wp2_with fail
          refine (ints_same _ _ _ _ _ _ _ hr20 hrr (by first | exact hS63 | simp)).mono ?_
          rintro e w22 ⟨rfl, hb22⟩
          go_wp2_with fail
          go_ret
          exact ⟨by first | rfl | simp, bthen hb21 (Nat.le_refl _) hb22⟩
      · have HZ : Hid (se = amtE c a ent cur) := HSE.out.symm.trans (stE_3 H1.out H2.out h3)
        have HNIL : Hid (sl = []) := HSL.out.symm.trans (stL_0 (by rw [HSE.out, HZ.out]; exact h3))
        have h0 : (se == 0) = false := by rw [beq_eq_false_iff_ne, HZ.out]; exact h3
        clear h3
        go_enter Tryz.func10, Tryz.ntmps10
        go_wp2_with fail
        refine (P1 _ ha).mono ?_
        rintro e w1 ⟨rfl, hb1⟩
        go_wp2_with fail
        refine (P2 _ (ha.below hb1)).mono ?_
        rintro e w2 ⟨rfl, hb2⟩
        have hb2 := bthen hb1 (Nat.le_refl _) hb2
        go_wp2_with fail
        refine (error_any be be _ (hg.below hb2) hbr.1 hbr.2).mono ?_
        rintro e w3 ⟨rfl, hb3⟩
        rw [beq_self_eq_true]
        have hb3 := bthen hb2 (Nat.le_refl _) hb3
        go_wp2_with fail
        refine (P3 _ (ha.below hb3) (hb.below hb3)).mono ?_
        rintro e w4 ⟨v4, rfl, hown4, hb4⟩
        have hb4 := bthen hb3 (Nat.le_refl _) hb4
        obtain ⟨A4, c4, rfl, h41, h42⟩ := hown4.form
        have hr4 := hown4.rd balEnc_ok
        clear hown4
        go_wp2_with fail
        refine (P4 _ (ha.below hb4) (hb.below hb4)).mono ?_
        rintro e w5 ⟨v5, rfl, hown5, hb5⟩
        have hr4 := hr4.below hb5
        have hb5 := bthen hb4 (Nat.le_refl _) hb5
        obtain ⟨A5, c5, rfl, h51, h52⟩ := hown5.form
        have hr5 := hown5.rd balEnc_ok
        clear hown5
        go_wp2_with fail
        refine (error_any me me _ (hg.below hb5) hmr.1 hmr.2).mono ?_
        rintro e w6 ⟨rfl, hb6⟩
        rw [beq_self_eq_true]
        have hr4 := hr4.below hb6
        have hr5 := hr5.below hb6
        have hb6 := bthen hb5 (Nat.le_refl _) hb6
        have hM63 : ML.length ≤ 9223372036854775807 := by unfold maxLen at h42; omega
        go_wp2_with fail
        refine (bals_same ML _ _ _ _ _ _ hr5 hr4 hM63).mono ?_
        rintro e w7 ⟨rfl, hb7⟩
        have hb7 := bthen hb6 (Nat.le_refl _) hb7
        clear hr4 hr5 h41 h42 h51 h52
        go_wp2_with fail
        refine (refChart_any c _ _ _ _ hcl hcc (hc.below hb7) hcok).mono ?_
        rintro e w8 ⟨rfl, hb8⟩
        have hb8 := bthen hb7 (Nat.le_refl _) hb8
        rw [H1.out]
        go_wp2_with fail
        refine (P2 _ (ha.below hb8)).mono ?_
        rintro e w9 ⟨rfl, hb9⟩
        rw [HB0.out]
        have hb9 := bthen hb8 (Nat.le_refl _) hb9
        go_wp2_with fail
        refine (refAmounts_any c _ _ _ a _ _ _ ent cur _ (by omega) (hc.below hb9) (by omega) (ha.below hb9)).mono ?_
        rintro e w10 ⟨v10, rfl, hown10, hb10⟩
        rw [← HZ.out]
        have hb10 := bthen hb9 (Nat.le_refl _) hb10
        clear hown10
        go_wp2_with fail
        refine (P5 _ (hc.below hb10) (ha.below hb10)).mono ?_
        rintro e w20 ⟨v20, rfl, hown20, hb20⟩
        have hb20 := bthen hb10 (Nat.le_refl _) hb20
        obtain ⟨A20, c20, rfl, h201, h202⟩ := hown20.form
        have hr20 := hown20.rd intEnc2_ok
        clear hown20
        have hS63 : sl.length ≤ 9223372036854775807 := by unfold maxLen at h202; omega
        go_wp2_with fail
        refine (error_any se se _ (hg.below hb20) hsr.1 hsr.2).mono ?_
        rintro e w21 ⟨rfl, hb21⟩
        rw [beq_self_eq_true]
        have hr20 := hr20.below hb21
        have hrr := hil w21
        have hb21 := bthen hb20 (Nat.le_refl _) hb21
        rw [HNIL.out] at hr20 hS63 ⊢
        go_wp2_with fail
        refine (ints_same _ _ _ _ _ _ _ hr20 hrr (by first | exact hS63 | simp)).mono ?_
        rintro e w22 ⟨rfl, hb22⟩
        go_wp2_with fail
        go_ret
        exact ⟨by first | rfl | simp, bthen hb21 (Nat.le_refl _) hb22⟩
    · have HZ : Hid (se = be) := HSE.out.symm.trans ((stE_2 H1.out h2).trans HBE.out)
      have HNIL : Hid (sl = []) := HSL.out.symm.trans (stL_0 (by rw [stE_2 H1.out h2]; exact h2))
      have h0 : (se == 0) = false := by rw [beq_eq_false_iff_ne, HZ.out, ← HBE.out]; exact h2
      clear h2
      go_enter Tryz.func10, Tryz.ntmps10
      go_wp2_with fail
      refine (P1 _ ha).mono ?_
      rintro e w1 ⟨rfl, hb1⟩
      go_wp2_with fail
      refine (P2 _ (ha.below hb1)).mono ?_
      rintro e w2 ⟨rfl, hb2⟩
      have hb2 := bthen hb1 (Nat.le_refl _) hb2
      go_wp2_with fail
      refine (error_any be be _ (hg.below hb2) hbr.1 hbr.2).mono ?_
      rintro e w3 ⟨rfl, hb3⟩
      rw [beq_self_eq_true]
      have hb3 := bthen hb2 (Nat.le_refl _) hb3
      go_wp2_with fail
      refine (P3 _ (ha.below hb3) (hb.below hb3)).mono ?_
      rintro e w4 ⟨v4, rfl, hown4, hb4⟩
      have hb4 := bthen hb3 (Nat.le_refl _) hb4
      obtain ⟨A4, c4, rfl, h41, h42⟩ := hown4.form
      have hr4 := hown4.rd balEnc_ok
      clear hown4
      go_wp2_with fail
      refine (P4 _ (ha.below hb4) (hb.below hb4)).mono ?_
      rintro e w5 ⟨v5, rfl, hown5, hb5⟩
      have hr4 := hr4.below hb5
      have hb5 := bthen hb4 (Nat.le_refl _) hb5
      obtain ⟨A5, c5, rfl, h51, h52⟩ := hown5.form
      have hr5 := hown5.rd balEnc_ok
      clear hown5
      go_wp2_with fail
      refine (error_any me me _ (hg.below hb5) hmr.1 hmr.2).mono ?_
      rintro e w6 ⟨rfl, hb6⟩
      rw [beq_self_eq_true]
      have hr4 := hr4.below hb6
      have hr5 := hr5.below hb6
      have hb6 := bthen hb5 (Nat.le_refl _) hb6
      have hM63 : ML.length ≤ 9223372036854775807 := by unfold maxLen at h42; omega
      go_wp2_with fail
      refine (bals_same ML _ _ _ _ _ _ hr5 hr4 hM63).mono ?_
      rintro e w7 ⟨rfl, hb7⟩
      have hb7 := bthen hb6 (Nat.le_refl _) hb7
      clear hr4 hr5 h41 h42 h51 h52
      go_wp2_with fail
      refine (refChart_any c _ _ _ _ hcl hcc (hc.below hb7) hcok).mono ?_
      rintro e w8 ⟨rfl, hb8⟩
      have hb8 := bthen hb7 (Nat.le_refl _) hb8
      rw [H1.out]
      go_wp2_with fail
      refine (P2 _ (ha.below hb8)).mono ?_
      rintro e w9 ⟨rfl, hb9⟩
      have hb9 := bthen hb8 (Nat.le_refl _) hb9
      rw [← HZ.out]
      go_wp2_with fail
      refine (P5 _ (hc.below hb9) (ha.below hb9)).mono ?_
      rintro e w20 ⟨v20, rfl, hown20, hb20⟩
      have hb20 := bthen hb9 (Nat.le_refl _) hb20
      obtain ⟨A20, c20, rfl, h201, h202⟩ := hown20.form
      have hr20 := hown20.rd intEnc2_ok
      clear hown20
      have hS63 : sl.length ≤ 9223372036854775807 := by unfold maxLen at h202; omega
      go_wp2_with fail
      refine (error_any se se _ (hg.below hb20) hsr.1 hsr.2).mono ?_
      rintro e w21 ⟨rfl, hb21⟩
      rw [beq_self_eq_true]
      have hr20 := hr20.below hb21
      have hrr := hil w21
      have hb21 := bthen hb20 (Nat.le_refl _) hb21
      rw [HNIL.out] at hr20 hS63 ⊢
      go_wp2_with fail
      refine (ints_same _ _ _ _ _ _ _ hr20 hrr (by first | exact hS63 | simp)).mono ?_
      rintro e w22 ⟨rfl, hb22⟩
      go_wp2_with fail
      go_ret
      exact ⟨by first | rfl | simp, bthen hb21 (Nat.le_refl _) hb22⟩
  · have HZ : Hid (se = chartE c) := HSE.out.symm.trans (stE_1 h1)
    have HNIL : Hid (sl = []) := HSL.out.symm.trans (stL_0 (by rw [stE_1 h1]; exact h1))
    have h0 : (se == 0) = false := by rw [beq_eq_false_iff_ne, HZ.out]; exact h1
    clear h1
    go_enter Tryz.func10, Tryz.ntmps10
    go_wp2_with fail
    refine (P1 _ ha).mono ?_
    rintro e w1 ⟨rfl, hb1⟩
    go_wp2_with fail
    refine (P2 _ (ha.below hb1)).mono ?_
    rintro e w2 ⟨rfl, hb2⟩
    have hb2 := bthen hb1 (Nat.le_refl _) hb2
    go_wp2_with fail
    refine (error_any be be _ (hg.below hb2) hbr.1 hbr.2).mono ?_
    rintro e w3 ⟨rfl, hb3⟩
    rw [beq_self_eq_true]
    have hb3 := bthen hb2 (Nat.le_refl _) hb3
    go_wp2_with fail
    refine (P3 _ (ha.below hb3) (hb.below hb3)).mono ?_
    rintro e w4 ⟨v4, rfl, hown4, hb4⟩
    have hb4 := bthen hb3 (Nat.le_refl _) hb4
    obtain ⟨A4, c4, rfl, h41, h42⟩ := hown4.form
    have hr4 := hown4.rd balEnc_ok
    clear hown4
    go_wp2_with fail
    refine (P4 _ (ha.below hb4) (hb.below hb4)).mono ?_
    rintro e w5 ⟨v5, rfl, hown5, hb5⟩
    have hr4 := hr4.below hb5
    have hb5 := bthen hb4 (Nat.le_refl _) hb5
    obtain ⟨A5, c5, rfl, h51, h52⟩ := hown5.form
    have hr5 := hown5.rd balEnc_ok
    clear hown5
    go_wp2_with fail
    refine (error_any me me _ (hg.below hb5) hmr.1 hmr.2).mono ?_
    rintro e w6 ⟨rfl, hb6⟩
    rw [beq_self_eq_true]
    have hr4 := hr4.below hb6
    have hr5 := hr5.below hb6
    have hb6 := bthen hb5 (Nat.le_refl _) hb6
    have hM63 : ML.length ≤ 9223372036854775807 := by unfold maxLen at h42; omega
    go_wp2_with fail
    refine (bals_same ML _ _ _ _ _ _ hr5 hr4 hM63).mono ?_
    rintro e w7 ⟨rfl, hb7⟩
    have hb7 := bthen hb6 (Nat.le_refl _) hb7
    clear hr4 hr5 h41 h42 h51 h52
    go_wp2_with fail
    refine (refChart_any c _ _ _ _ hcl hcc (hc.below hb7) hcok).mono ?_
    rintro e w8 ⟨rfl, hb8⟩
    have hb8 := bthen hb7 (Nat.le_refl _) hb8
    rw [← HZ.out]
    go_wp2_with fail
    refine (P5 _ (hc.below hb8) (ha.below hb8)).mono ?_
    rintro e w20 ⟨v20, rfl, hown20, hb20⟩
    have hb20 := bthen hb8 (Nat.le_refl _) hb20
    obtain ⟨A20, c20, rfl, h201, h202⟩ := hown20.form
    have hr20 := hown20.rd intEnc2_ok
    clear hown20
    have hS63 : sl.length ≤ 9223372036854775807 := by unfold maxLen at h202; omega
    go_wp2_with fail
    refine (error_any se se _ (hg.below hb20) hsr.1 hsr.2).mono ?_
    rintro e w21 ⟨rfl, hb21⟩
    rw [beq_self_eq_true]
    have hr20 := hr20.below hb21
    have hrr := hil w21
    have hb21 := bthen hb20 (Nat.le_refl _) hb21
    rw [HNIL.out] at hr20 hS63 ⊢
    go_wp2_with fail
    refine (ints_same _ _ _ _ _ _ _ hr20 hrr (by first | exact hS63 | simp)).mono ?_
    rintro e w22 ⟨rfl, hb22⟩
    go_wp2_with fail
    go_ret
    exact ⟨by first | rfl | simp, bthen hb21 (Nat.le_refl _) hb22⟩
end Go.Proofs.YthmjkhlndphldaaGreatDoor
