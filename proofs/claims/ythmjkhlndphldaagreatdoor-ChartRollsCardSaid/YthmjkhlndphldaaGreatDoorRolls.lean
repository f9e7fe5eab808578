/- daylaw1.ChartRolls returns true. -/
import Derived.Test.YthmjkhlndphldaaGreatDoorRollR
import Derived.Test.YthmjkhlndphldaaGreatDoorTold
import Derived.Test.YthmjkhlndphldaaGreatDoorRangeE
namespace Go.Proofs.YthmjkhlndphldaaGreatDoor
open Go Go.RowKit
set_option linter.unusedVariables false

set_option maxHeartbeats 4000000 in
set_option maxRecDepth 100000 in
theorem rolls_any (l : List Acc) (am : List Int) (A M : Option Addr) (n cap mn mc : Nat) (w : World) (hg : ErrTy w) (hl : n ≤ cap) (hm : cap ≤ maxLen) (ha : Accs w A n l) (hok : AccOk l) (hM : Rd w 1 intEnc2 M mn am) (h64 : Ints64 am) :
    Calls Tryz.prog 5 #[.slice A n cap, .slice M mn mc] w fun e w' => e = .returned (.bool true) ∧ Below w.heap.size w w' := by
  have hn63 : n ≤ 9223372036854775807 := by unfold maxLen at hm; omega
  have hln : l.length = n := ha.1
  have hil : ∀ w : World, Rd w 1 intEnc2 none 0 ([] : List Int) := fun w => Rd.nil _ _ _ _
  by_cases he : chartE l = 0
  · have h60 : l.length ≤ 60 := chartE_len he
    by_cases hmn : mn = n
    · subst hmn
      subst hln
      have HE := hide he
      clear he
      go_enter Tryz.func5, Tryz.ntmps5
      go_wp2_with fail
      refine (refChart_any l _ _ _ _ hn63 hl ha hok).mono ?_
      rintro e w1 ⟨rfl, hb1⟩
      rw [HE.out]
      go_wp2_with fail
      refine (refRoll_any l am _ _ _ _ _ (ha.below hb1) HE.out (hM.below hb1) h64).mono ?_
      rintro e w2 ⟨hb2, ⟨hfit, v, rfl, hown⟩ | ⟨hfit, rfl⟩⟩
      · have hb2 := bthen hb1 (Nat.le_refl _) hb2
        have HF := hide hfit
        clear hfit
        obtain ⟨VA, vc, rfl, hv1, hv2⟩ := hown.form
        have hrl := rollTo_len l am l.length
        rw [hrl] at hown hv1 ⊢
        have hrd := hown.rd intEnc2_ok
        clear hown hrl
        go_wp2_with fail
        refine (roll_any l am _ _ _ _ _ _ h60 hl (ha.below hb2) hok HE.out (hM.below hb2) h64).mono ?_
        rintro e w3 ⟨hb3, ⟨_, v2, rfl, hown2⟩ | ⟨hfit, _⟩⟩
        · obtain ⟨UA, uc, rfl, hu1, hu2⟩ := hown2.form
          have hrl := rollTo_len l am l.length
          rw [hrl] at hown2 hu1 ⊢
          have hrd2 := hown2.rd intEnc2_ok
          have hrd := hrd.below hb3
          have hb3 := bthen hb2 (Nat.le_refl _) hb3
          clear hown2 hrl
          go_wp2_with fail
          refine (error_any 0 0 _ (hg.below hb3) (by decide) (by decide)).mono ?_
          rintro e w4 ⟨rfl, hb4⟩
          have hrd := hrd.below hb4
          have hrd2 := hrd2.below hb4
          have hb4 := bthen hb3 (Nat.le_refl _) hb4
          go_wp2_with fail
          refine (ints_same _ _ _ _ _ _ _ hrd2 hrd (by omega)).mono ?_
          rintro e w5 ⟨rfl, hb5⟩
          go_wp2_with fail
          go_ret
          exact ⟨rfl, bthen hb4 (Nat.le_refl _) hb5⟩
        · exact absurd HF.out hfit
      · have hb2 := bthen hb1 (Nat.le_refl _) hb2
        have HF := hide hfit
        clear hfit
        go_wp2_with fail
        refine (roll_any l am _ _ _ _ _ _ h60 hl (ha.below hb2) hok HE.out (hM.below hb2) h64).mono ?_
        rintro e w3 ⟨hb3, ⟨hfit, _⟩ | ⟨_, rfl⟩⟩
        · exact absurd hfit HF.out
        · have hb3 := bthen hb2 (Nat.le_refl _) hb3
          have hE := error_any 10 10 _ (hg.below hb3) (by decide) (by decide)
          rw [errV_n (by decide)] at hE
          go_wp2_with fail
          refine hE.mono ?_
          rintro e w4 ⟨rfl, hb4⟩
          have hb4 := bthen hb3 (Nat.le_refl _) hb4
          go_wp2_with fail
          refine (ints_same [] _ _ _ _ _ _ (hil _) (hil _) (by omega)).mono ?_
          rintro e w5 ⟨rfl, hb5⟩
          go_wp2_with fail
          go_ret
          exact ⟨rfl, bthen hb4 (Nat.le_refl _) hb5⟩
    · have HE := hide he
      have hm1 : ((mn : Int) != (n : Int)) = true := by rw [bne_iff_ne]; omega
      clear he
      go_enter Tryz.func5, Tryz.ntmps5
      go_wp2_with fail
      refine (refChart_any l _ _ _ _ hn63 hl ha hok).mono ?_
      rintro e w1 ⟨rfl, hb1⟩
      rw [HE.out]
      go_wp2_with fail
      refine (roll_shape l am _ _ _ _ _ _ _ (by omega) hl (ha.below hb1) hok HE.out hmn).mono ?_
      rintro e w2 ⟨rfl, hb2⟩
      have hb2 := bthen hb1 (Nat.le_refl _) hb2
      have hE := error_any 3 3 _ (hg.below hb2) (by decide) (by decide)
      rw [errV_n (by decide)] at hE
      go_wp2_with fail
      refine hE.mono ?_
      rintro e w3 ⟨rfl, hb3⟩
      have hb3 := bthen hb2 (Nat.le_refl _) hb3
      go_wp2_with fail
      refine (ints_same [] _ _ _ _ _ _ (hil _) (hil _) (by omega)).mono ?_
      rintro e w5 ⟨rfl, hb5⟩
      go_wp2_with fail
      go_ret
      exact ⟨rfl, bthen hb3 (Nat.le_refl _) hb5⟩
  · have HE := hide he
    have hr := chartE_range l
    have h0 : (chartE l == 0) = false := by rw [beq_eq_false_iff_ne]; exact he
    obtain ⟨ce, hce⟩ : ∃ ce, ce = chartE l := ⟨_, rfl⟩
    have HC := hide hce
    rw [← hce] at h0 hr he
    have hce0 := he
    clear he hce
    go_enter Tryz.func5, Tryz.ntmps5
    go_wp2_with fail
    refine (refChart_any l _ _ _ _ hn63 hl ha hok).mono ?_
    rintro e w1 ⟨rfl, hb1⟩
    rw [← HC.out]
    go_wp2_with fail
    refine (roll_bad l am _ _ _ _ _ _ _ hn63 hl (ha.below hb1) hok HE.out).mono ?_
    rintro e w2 ⟨rfl, hb2⟩
    rw [← HC.out]
    have hb2 := bthen hb1 (Nat.le_refl _) hb2
    have hE := error_any ce ce _ (hg.below hb2) hr.1 hr.2
    rw [errV_n hce0] at hE
    go_wp2_with fail
    refine hE.mono ?_
    rintro e w3 ⟨rfl, hb3⟩
    have hb3 := bthen hb2 (Nat.le_refl _) hb3
    rw [beq_self_eq_true]
    go_wp2_with fail
    refine (ints_same [] _ _ _ _ _ _ (hil _) (hil _) (by omega)).mono ?_
    rintro e w5 ⟨rfl, hb5⟩
    go_wp2_with fail
    go_ret
    exact ⟨rfl, bthen hb3 (Nat.le_refl _) hb5⟩
end Go.Proofs.YthmjkhlndphldaaGreatDoor
