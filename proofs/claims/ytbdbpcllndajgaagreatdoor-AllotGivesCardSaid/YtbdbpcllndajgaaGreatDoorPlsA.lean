/- dayref2.Pools: what it returns. -/
import Derived.Test.YtbdbpcllndajgaaGreatDoorRShX
import Derived.Test.YtbdbpcllndajgaaGreatDoorAloX
import Derived.Test.YtbdbpcllndajgaaGreatDoorRefY
import Derived.Test.YtbdbpcllndajgaaGreatDoorRefX
import Derived.BigQuiet
import Derived.Deep.QuietTactic
namespace Go.Proofs.YtbdbpcllndajgaaGreatDoor
open Go Go.RowKit
set_option linter.unusedVariables false

theorem beq_commL (a b : ByteArray) : (a.toList == b.toList) = (b.toList == a.toList) := by
  rw [Bool.eq_iff_iff, beq_iff_eq, beq_iff_eq]
  exact eq_comm
theorem NoTo.any_takeS {α : Type} {p : α → Bool} {l : List α} {k : Nat} (h : NoTo p l k) : (l.take k).any p = false := by
  rw [List.any_eq_false]
  intro x hx
  obtain ⟨j, hj, rfl⟩ := List.getElem_of_mem hx
  rw [List.length_take] at hj
  rw [List.getElem_take, h j (by omega) (by omega)]; decide
theorem any_takeS {α : Type} {p : α → Bool} {l : List α} {k j : Nat} (hj : j < k) (hjl : j < l.length) (h : p l[j] = true) : (l.take k).any p = true := by
  rw [List.any_eq_true]
  exact ⟨l[j], List.mem_take_iff_getElem.2 ⟨j, by omega, rfl⟩, h⟩
theorem drewN2 (w : World) (a b : Nat) : (w.drewN a).drewN b = w.drewN (a + b) := by simp
theorem shE_8 (ws : List Int) (h : shE ws ≠ 0) : (shE ws == 0) = false ∧ (shE ws != 0) = true := by
  have h1 : (shE ws == 0) = false := by rw [beq_eq_false_iff_ne]; exact h
  exact ⟨h1, by rw [bne, h1]; rfl⟩

set_option maxHeartbeats 4000000 in
set_option maxRecDepth 100000 in
theorem refPools_any (c : List Acc) (CA : Option Addr) (cn ccap : Nat) (l : List Pol) (A : Option Addr) (n cap : Nat) (w : World)
    (hcl : cn ≤ 9223372036854775807) (hcc : cn ≤ ccap) (hc : Accs w CA cn c) (hcok : AccOk c) (hl : n ≤ 9223372036854775807) (ha : Rd w 4 Pol.enc A n l) (hok : ∀ p ∈ l, PolFits w p) :
    Calls Tryz.prog 6 #[.slice CA cn ccap, .slice A n cap] w fun e w' => e = .returned (.int .i64 (poolsE c l)) ∧ Below w.heap.size w w' := by
  have hn := ha.1
  have Hn := hide hn
  by_cases he : chartE c = 0
  · have HC := hide he
    clear he
    by_cases h20 : 20 < n
    · have h20i : (20 : Int) < (n : Int) := by omega
      have HF := hide (poolsE_2 (l := l) HC.out (by rw [Hn.out]; exact h20))
      clear h20
      go_enter Tryz.func6, Tryz.ntmps6
      go_wp2_with fail
      refine (refChart_any c _ _ _ _ hcl hcc hc hcok).mono ?_
      rintro e w1 ⟨rfl, hb1⟩
      rw [HC.out]
      go_wp2_with fail
      go_ret
      exact ⟨by rw [HF.out]; rfl, hb1⟩
    · have h20i : ¬ (20 : Int) < (n : Int) := by omega
      have hn20 : n ≤ 20 := by omega
      have H20 : Hid (¬ 20 < l.length) := by show ¬ _; rw [Hn.out]; exact h20
      clear h20 hn
      go_enter Tryz.func6, Tryz.ntmps6
      go_wp2_with fail
      refine (refChart_any c _ _ _ _ hcl hcc hc hcok).mono ?_
      rintro e w1 ⟨rfl, hb1⟩
      rw [HC.out]
      go_wp2_with fail
      go_loopw [5, 6] (fun ev iv wr => ∃ k : Nat, k ≤ n ∧ iv = .int .i64 k ∧ ev = .int .i64 0 ∧ firstE (poolAt c l) k = 0 ∧ Below w.heap.size w wr) (fun _ iv _ => n - (intOf iv).toNat)
      case atStart => exact ⟨0, by omega, rfl, rfl, rfl, hb1⟩
      case round =>
        obtain ⟨k, hk, rfl, rfl, hto, hbr⟩ := hrel
        obtain ⟨wo, hwo⟩ : ∃ wo, wo = wr := ⟨_, rfl⟩
        subst hwo
        have HTo := hide hto
        clear hto
        by_cases hlt : k < n
        · have hkl : k < l.length := by have := Hn.out; omega
          obtain ⟨b, off, rfl, hcs⟩ := (Rd.below ha hbr).2 (by omega)
          have q0 := hcs k 0 _ hkl rfl
          have q1 := hcs k 1 _ hkl rfl
          have q2 := hcs k 2 _ hkl rfl
          have q3 := hcs k 3 _ hkl rfl
          rw [Nat.add_zero] at q0
          clear hcs
          have k0 : (0 : Int) ≤ (k : Int) := by omega
          have k1 : (k : Int) < (n : Int) := by omega
          have hsz := hbr.size
          obtain ⟨x, hx⟩ : ∃ x, x = l[k] := ⟨_, rfl⟩
          have hfx : Hid (∀ W : World, Below w.heap.size w W → PolFits W x) := fun W hW => by rw [hx]; exact (hok _ (List.getElem_mem hkl)).below hW
          have hEA : Hid (poolAt c l k = poolE c x) := by show _ = _; rw [hx]; exact poolAt_some hkl
          rw [← hx] at q0 q1 q2 q3
          clear hx
          have hbx : Below wo.heap.size wo (wo.alloc (.cells #[.string x.acc, .string x.cur, .slice x.TA x.tn x.tc, .slice x.WA x.wn x.wc] 43)) := (Below.refl _ _).alloc (Nat.le_refl _) _
          have hX := PolAt.new wo x
          have hB := bthen hbr (Nat.le_refl _) hbx
          obtain ⟨pg, hpg⟩ : ∃ pg, pg = wo.heap.size := ⟨_, rfl⟩
          go_upto_region 10 with fail
          rw [← hpg] at hX ⊢
          generalize wo.alloc (.cells #[.string x.acc, .string x.cur, .slice x.TA x.tn x.tc, .slice x.WA x.wn x.wc] 43) = W1 at hX hB ⊢
          have hft := hfx.out _ hB
          have htl : x.to.length = x.tn := hft.to.1
          have hwl : x.ws.length = x.wn := hft.ws.1
          have hcz := hft.cur
          have htm := hft.tm
          have htc := hft.tc
          have hwsR := hft.ws
          have htoR := hft.to
          obtain ⟨d0, d1, d2, d3⟩ := hX
          obtain ⟨TA, hTA⟩ : ∃ TA, TA = x.TA := ⟨_, rfl⟩
          obtain ⟨tn, htn⟩ : ∃ tn, tn = x.tn := ⟨_, rfl⟩
          obtain ⟨tc, htcE⟩ : ∃ tc, tc = x.tc := ⟨_, rfl⟩
          obtain ⟨WA, hWA⟩ : ∃ WA, WA = x.WA := ⟨_, rfl⟩
          obtain ⟨wn, hwn⟩ : ∃ wn, wn = x.wn := ⟨_, rfl⟩
          obtain ⟨wc, hwcE⟩ : ∃ wc, wc = x.wc := ⟨_, rfl⟩
          rw [← hTA, ← htn, ← htcE] at d2
          rw [← hWA, ← hwn, ← hwcE] at d3
          rw [← htn] at htl htc
          rw [← htcE] at htc htm
          rw [← hwn] at hwl
          rw [← hTA, ← htn] at htoR
          rw [← hWA, ← hwn] at hwsR
          unfold maxLen at htm
          have HTL := hide htl
          have HWL := hide hwl
          have HTR := hide htoR
          have HWR := hide hwsR
          have hcW := hc.below hB
          clear q0 q1 q2 q3 hbx hpg hft htl hwl hTA htn htcE hWA hwn hwcE htoR hwsR hsz
          go_wp2_with fail
          refine (refLeaf_any c x.acc CA cn ccap W1 hcl hcW).mono ?_
          rintro e w2 ⟨rfl, rfl⟩
          by_cases h1 : leafE c x.acc = 0
          case neg =>
            have h1b : (leafE c x.acc == 0) = false := by rw [beq_eq_false_iff_ne]; exact h1
            have h1c : (leafE c x.acc != 0) = true := by rw [bne, h1b]; rfl
            have HF := hide (pools_hit HC.out H20.out HTo.out hkl (hEA.out.trans (poolE_1 h1)) h1)
            clear h1
            go_wp2_with fail
            go_ret
            exact ⟨by rw [HF.out]; rfl, hB⟩
          case pos =>
          have H1 := hide h1
          rw [h1]
          clear h1
          go_wp2_with fail
          refine (refCur_any x.cur _ hcz).mono ?_
          rintro e w2 ⟨rfl, rfl⟩
          cases h2 : curB x.cur with
          | false =>
            have HF := hide (pools_hit HC.out H20.out HTo.out hkl (hEA.out.trans (poolE_2 H1.out h2)) (by decide))
            go_wp2_with fail
            go_ret
            exact ⟨by rw [HF.out]; rfl, hB⟩
          | true =>
          have H2 := hide h2
          clear h2
          by_cases h3 : x.to.length = 0 ∨ x.to.length ≠ x.ws.length
          · have HF := hide (pools_hit HC.out H20.out HTo.out hkl (hEA.out.trans (poolE_3 H1.out H2.out h3)) (by decide))
            by_cases h30 : tn = 0
            · have h30' : ((tn : Int) == 0) = true := by rw [beq_iff_eq]; omega
              clear h3
              go_wp2_with fail
              go_ret
              exact ⟨by rw [HF.out]; rfl, hB⟩
            · have h30' : ((tn : Int) == 0) = false := by rw [beq_eq_false_iff_ne]; omega
              have h31 : ¬ tn = wn := by have := HTL.out; have := HWL.out; omega
              clear h3
              go_wp2_with fail
              go_ret
              exact ⟨by rw [HF.out]; rfl, hB⟩
          · have H3 := hide h3
            have h30 : ((tn : Int) == 0) = false := by have := HTL.out; rw [beq_eq_false_iff_ne]; omega
            have h30' : ¬ tn = 0 := by have := HTL.out; omega
            obtain rfl : tn = wn := by have := HTL.out; have := HWL.out; omega
            clear h3
            by_cases h4 : 19 < x.to.length
            · have HF := hide (pools_hit HC.out H20.out HTo.out hkl (hEA.out.trans (poolE_4 H1.out H2.out H3.out h4)) (by decide))
              have h40 : (19 : Int) < (tn : Int) := by have := HTL.out; omega
              clear h4
              go_wp2_with fail
              go_ret
              exact ⟨by rw [HF.out]; rfl, hB⟩
            · have H4 := hide h4
              have h40 : ¬ (19 : Int) < (tn : Int) := by have := HTL.out; omega
              have hn19 : tn ≤ 19 := by omega
              clear h4
              go_wp2_with fail
              go_loopw [5, 9] (fun ev iv wi => ∃ j : Nat, j ≤ tn ∧ ev = .int .i64 0 ∧ iv = .int .i64 j ∧ Hid (firstE (toAt c x) j = 0) ∧ ∃ m, wi = W1.drewN m) (fun _ iv _ => tn - (intOf iv).toNat)
              case atStart => exact ⟨0, by omega, rfl, rfl, hide rfl, 0, rfl⟩
              case round =>
                obtain ⟨j, hj, rfl, rfl, HTJ, m, hwm⟩ := hrel
                have hBm : Below w.heap.size w wr := by rw [hwm]; exact bdrewN hB m
                have hcm : Accs wr CA cn c := hc.below hBm
                have d0 : wr.cell? ⟨pg, 0, none⟩ = some (.string x.acc) := by rw [hwm]; exact d0
                have d2 : wr.cell? ⟨pg, 2, none⟩ = some (.slice TA tn tc) := by rw [hwm]; exact d2
                have d3 : wr.cell? ⟨pg, 3, none⟩ = some (.slice WA tn wc) := by rw [hwm]; exact d3
                have htR : Rd wr 1 strEnc TA tn x.to := by rw [hwm]; exact HTR.out.below (bdrewN (Below.refl _ _) m)
                have hwR : Rd wr 1 intEnc2 WA tn x.ws := by rw [hwm]; exact HWR.out.below (bdrewN (Below.refl _ _) m)
                have HWM := hide hwm
                obtain ⟨wj, hwj⟩ : ∃ wj, wj = wr := ⟨_, rfl⟩
                subst hwj
                clear hwm
                by_cases hjt : j < tn
                · have hjl : j < x.to.length := by have := HTL.out; omega
                  obtain ⟨tb, tof, rfl, hcs⟩ := htR.2 (by omega)
                  have q0 := hcs j 0 _ hjl rfl
                  simp only [Nat.mul_one, Nat.add_zero] at q0
                  have HCS : Hid (∀ (i : Nat) (hi : i < x.to.length), wj.cell? ⟨tb, tof + i, none⟩ = some (.string x.to[i])) := by
                    intro i hi
                    have := hcs i 0 _ hi rfl
                    simpa using this
                  clear hcs
                  have j0 : (0 : Int) ≤ (j : Int) := by omega
                  have j1 : (j : Int) < (tn : Int) := by omega
                  have htS := hide (toAt_some (c := c) (p := x) hjl)
                  obtain ⟨t, ht⟩ : ∃ t, t = x.to[j] := ⟨_, rfl⟩
                  rw [← ht] at q0 htS
                  clear ht
                  go_wp2_with fail
                  refine (refLeaf_any c t CA cn ccap wj hcl hcm).mono ?_
                  rintro e w3 ⟨rfl, rfl⟩
                  by_cases h5 : leafE c t = 0
                  · have H5 := hide h5
                    rw [h5]
                    clear h5
                    cases h6 : (t.toList == x.acc.toList) with
                    | true =>
                      have h7 : toAt c x j = 8 := by rw [htS.out, if_neg (by rw [H5.out]; decide), if_pos (.inl (by simpa using h6))]
                      have HF := hide (pools_hit HC.out H20.out HTo.out hkl (hEA.out.trans ((poolE_5 H1.out H2.out H3.out H4.out HTJ.out hjl (by rw [h7]; decide)).trans h7)) (by decide))
                      clear h7
                      go_wp2_with fail
                      go_quiet (fail)
                      go_wp2_with fail
                      go_ret
                      exact ⟨by rw [HF.out]; rfl, bdrewN hBm _⟩
                    | false =>
                      have H6 := hide h6
                      go_wp2_with fail
                      go_quiet (fail)
                      have d0 : (wj.drewN nq).cell? ⟨pg, 0, none⟩ = some (.string x.acc) := d0
                      have d2 : (wj.drewN nq).cell? ⟨pg, 2, none⟩ = some (.slice (some ⟨tb, tof, none⟩) tn tc) := d2
                      have d3 : (wj.drewN nq).cell? ⟨pg, 3, none⟩ = some (.slice WA tn wc) := d3
                      have q0 : (wj.drewN nq).cell? ⟨tb, tof + j, none⟩ = some (.string t) := q0
                      have HCQ : Hid (∀ (i : Nat) (hi : i < x.to.length), (wj.drewN nq).cell? ⟨tb, tof + i, none⟩ = some (.string x.to[i])) := HCS.out
                      have hBq := bdrewN hBm nq
                      have HWQ : Hid (wj.drewN nq = W1.drewN (m + nq)) := by show _ = _; rw [HWM.out, drewN2]
                      generalize wj.drewN nq = wq at d0 d2 d3 q0 HCQ hBq HWQ ⊢
                      clear HCS HWM hcm htR hwR
                      go_wp2_with fail
                      go_loopw [10] (fun iv wi => ∃ i : Nat, i ≤ j ∧ iv = .int .i64 i ∧ NoTo (fun s : ByteArray => t.toList == s.toList) x.to i ∧ ∃ m, wi = wq.drewN m) (fun iv _ => j - (intOf iv).toNat)
                      case atStart => exact ⟨0, by omega, rfl, NoTo.zero _ _, 0, rfl⟩
                      case round =>
                        obtain ⟨i, hi, rfl, hno, m2, hwi⟩ := hrel
                        have d2 : wr.cell? ⟨pg, 2, none⟩ = some (.slice (some ⟨tb, tof, none⟩) tn tc) := by rw [hwi]; exact d2
                        have q0 : wr.cell? ⟨tb, tof + j, none⟩ = some (.string t) := by rw [hwi]; exact q0
                        have HWI := hide hwi
                        by_cases hij : i < j
                        · have hil : i < x.to.length := by omega
                          have r0 : wr.cell? ⟨tb, tof + i, none⟩ = some (.string x.to[i]) := by rw [hwi]; exact HCQ.out i hil
                          have i0 : (0 : Int) ≤ (i : Int) := by omega
                          have i1 : (i : Int) < (j : Int) := by omega
                          have i2 : (i : Int) < (tn : Int) := by omega
                          have hcm2 := beq_commL x.to[i] t
                          have hbw : Below w.heap.size w wr := by rw [hwi]; exact bdrewN hBq m2
                          clear hwi
                          cases h8 : (t.toList == x.to[i].toList) with
                          | true =>
                            have h7 : toAt c x j = 8 := by rw [htS.out, if_neg (by rw [H5.out]; decide), if_pos (.inr (any_takeS (p := fun s : ByteArray => t.toList == s.toList) hij hil h8))]
                            have HF := hide (pools_hit HC.out H20.out HTo.out hkl (hEA.out.trans ((poolE_5 H1.out H2.out H3.out H4.out HTJ.out hjl (by rw [h7]; decide)).trans h7)) (by decide))
                            rw [h8] at hcm2
                            obtain ⟨s, hs⟩ : ∃ s, s = x.to[i] := ⟨_, rfl⟩
                            rw [← hs] at r0 hcm2
                            clear h7 hno h8 hs
                            go_wp2_with fail
                            go_quiet (fail)
                            go_wp2_with fail
                            go_ret
                            exact ⟨by rw [HF.out]; rfl, bdrewN hbw _⟩
                          | false =>
                            have HS := hide (hno.succ hil h8)
                            rw [h8] at hcm2
                            obtain ⟨s, hs⟩ : ∃ s, s = x.to[i] := ⟨_, rfl⟩
                            rw [← hs] at r0 hcm2
                            clear hno h8 hs
                            go_wp2_with fail
                            go_quiet (fail)
                            go_wp2_with fail
                            go_roundw
                            case rel => exact ⟨i + 1, by omega, by go_num, HS.out, m2 + nq, by rw [HWI.out, drewN2]⟩
                            case measure => simp [intOf]; omega
                        · have hij2 : i = j := by omega
                          have HG : Hid (firstE (toAt c x) (j + 1) = 0) := by
                            show _ = _
                            rw [firstE_succ HTJ.out, htS.out, if_neg (by rw [H5.out]; decide), if_neg]
                            rintro (h | h)
                            · have := H6.out; rw [beq_eq_false_iff_ne] at this; exact this h
                            · rw [← hij2, hno.any_takeS] at h; cases h
                          clear hno hwi
                          go_wp2_with fail
                          go_roundw
                          case rel => exact ⟨j + 1, by omega, rfl, by go_num, HG, m + nq + m2, by rw [HWI.out, HWQ.out, drewN2]⟩
                          case measure => simp [intOf]; omega
                  · have h5b : (leafE c t == 0) = false := by rw [beq_eq_false_iff_ne]; exact h5
                    have h5c : (leafE c t != 0) = true := by rw [bne, h5b]; rfl
                    have h7 : toAt c x j = leafE c t := by rw [htS.out, if_pos h5]
                    have HF := hide (pools_hit HC.out H20.out HTo.out hkl (hEA.out.trans ((poolE_5 H1.out H2.out H3.out H4.out HTJ.out hjl (by rw [h7]; exact h5)).trans h7)) h5)
                    clear h5 h7
                    go_wp2_with fail
                    go_ret
                    exact ⟨by rw [HF.out]; rfl, hBm⟩
                · have hjn : j = tn := by omega
                  have HG : Hid (poolE c x = shE x.ws) := poolE_6 H1.out H2.out H3.out H4.out (by rw [HTL.out, ← hjn]; exact HTJ.out)
                  have hjj : ¬ (j : Int) < (tn : Int) := by omega
                  by_cases h8 : shE x.ws = 0
                  · have HS := hide (refShares_ok 0 x.ws WA tn wc wj (by omega) (by omega) (by omega) hwR h8)
                    have HK : Hid (firstE (poolAt c l) (k + 1) = 0) := by
                      show _ = _
                      rw [firstE_succ HTo.out, hEA.out, HG.out]; exact h8
                    clear h8 hjn hjt
                    go_wp2_with fail
                    refine HS.out.mono ?_
                    rintro e w4 ⟨v, rfl, _, hb4⟩
                    go_wp2_with fail
                    go_roundw
                    case rel => exact ⟨k + 1, by omega, by go_num, rfl, HK.out, bthen hBm (Nat.le_refl _) hb4⟩
                    case measure => simp [intOf]; omega
                  · have HS := hide (refShares_bad 0 x.ws WA tn wc wj (by omega) hwR h8)
                    have HF := hide (pools_hit HC.out H20.out HTo.out hkl (hEA.out.trans HG.out) h8)
                    obtain ⟨h8b, h8c⟩ := shE_8 x.ws h8
                    clear h8 hjn hjt
                    go_wp2_with fail
                    refine HS.out.mono ?_
                    rintro e w4 ⟨rfl, hb4⟩
                    go_wp2_with fail
                    go_ret
                    exact ⟨by rw [HF.out]; rfl, bthen hBm (Nat.le_refl _) hb4⟩
        · have hkn : k = n := by omega
          have HF : Hid (poolsE c l = 0) := by
            show _ = _
            rw [poolsE_3 HC.out H20.out, Hn.out, ← hkn]
            exact HTo.out
          go_wp2_with fail
          go_ret
          exact ⟨by rw [HF.out]; rfl, hbr⟩
  · have HC := hide he
    have hz1 : (chartE c == 0) = false := by rw [beq_eq_false_iff_ne]; exact he
    have hz2 : (chartE c != 0) = true := by rw [bne, hz1]; rfl
    have HF := hide (poolsE_1 (l := l) he)
    clear he
    go_enter Tryz.func6, Tryz.ntmps6
    go_wp2_with fail
    refine (refChart_any c _ _ _ _ hcl hcc hc hcok).mono ?_
    rintro e w1 ⟨rfl, hb1⟩
    go_wp2_with fail
    go_ret
    exact ⟨by rw [HF.out]; rfl, hb1⟩
end Go.Proofs.YtbdbpcllndajgaaGreatDoor
