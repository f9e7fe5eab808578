/- dayref2.Part: what it returns. -/
import Derived.Test.YtfkhcdcmcplfoaaGreatDoorApN
import Derived.Test.YtfkhcdcmcplfoaaGreatDoorQbY
import Derived.Test.YtfkhcdcmcplfoaaGreatDoorQbX
import Derived.Test.YtfkhcdcmcplfoaaGreatDoorAcrX
import Derived.Test.YtfkhcdcmcplfoaaGreatDoorRefY
import Derived.Test.YtfkhcdcmcplfoaaGreatDoorRefX
import Derived.BigQuiet
import Derived.Deep.QuietTactic
import Derived.Test.YtfkhcdcmcplfoaaGreatDoorAcrC
import Derived.Test.YtfkhcdcmcplfoaaGreatDoorTxtA
import Derived.Test.YtfkhcdcmcplfoaaGreatDoorPairF
namespace Go.Proofs.YtfkhcdcmcplfoaaGreatDoor
open Go Go.RowKit
set_option linter.unusedVariables false

set_option maxHeartbeats 4000000 in
set_option maxRecDepth 100000 in
theorem refPart_any (x : Pln) (period : Int) (w : World) (hn : numE x = 0) (h0 : 1 ≤ period) (h1 : period ≤ 120) :
    Calls Tryz.prog 12 #[.agg #[.string x.ref, .int .i64 x.ent, .string x.fr, .string x.to, .string x.cur, .int .i64 x.amt, .int .i64 x.first, .int .i64 x.per], .int .i64 period] w fun e w' => e = .returned (.int .i64 (partOf x period)) ∧ Below w.heap.size w w' := by
  obtain ⟨_, ⟨a0, a1⟩, ⟨p0, p1⟩, f0, f1⟩ := numE_ok hn
  clear hn
  have hb : Below w.heap.size w (w.alloc (.cells #[.string x.ref, .int .i64 x.ent, .string x.fr, .string x.to, .string x.cur, .int .i64 x.amt, .int .i64 x.first, .int .i64 x.per] 37)) := (Below.refl _ _).alloc (Nat.le_refl _) _
  have hX := PlnAt.new w x
  by_cases k1 : period < x.first
  · have HF : Hid (partOf x period = 0) := by show _ = _; unfold partOf; rw [if_pos (by omega)]
    go_enter Tryz.func12, Tryz.ntmps12
    go_wp2_with fail
    go_ret
    exact ⟨by rw [HF.out]; rfl, hb⟩
  · by_cases k2 : x.first + x.per ≤ period
    · have HF : Hid (partOf x period = 0) := by show _ = _; unfold partOf; rw [if_neg (by omega), if_pos (by omega)]
      go_enter Tryz.func12, Tryz.ntmps12
      go_wp2_with fail
      go_ret
      exact ⟨by rw [HF.out]; rfl, hb⟩
    · have HF : Hid (partOf x period = uptoI x.amt x.per (period - x.first + 1) - uptoI x.amt x.per (period - x.first + 1 - 1)) := by
        show _ = _
        unfold partOf
        rw [if_neg (by omega), if_neg (by omega), show period - x.first + 1 - 1 = period - x.first from by omega]
      have hd1 := upto_bnd x.amt x.per (period - x.first + 1) (by omega) (by omega) (by omega) (by omega)
      have hd2 := upto_bnd x.amt x.per (period - x.first + 1 - 1) (by omega) (by omega) (by omega) (by omega)
      have hk1 : 1 ≤ period - x.first + 1 := by omega
      have hk2 : period - x.first + 1 ≤ 120 := by omega
      obtain ⟨P, hP⟩ := Int.eq_ofNat_of_zero_le (show 0 ≤ x.per by omega)
      have HP0 : Hid (0 < P) := by show _ < _; omega
      have HP2 : Hid (P < 18446744073709551616) := by show _ < _; omega
      have HPE := hide hP
      have HA : Hid (-9223372036854775808 ≤ x.amt ∧ x.amt ≤ 9223372036854775807) := ⟨by omega, by omega⟩
      have HPP : Hid (-9223372036854775808 ≤ x.per ∧ x.per ≤ 9223372036854775807) := ⟨by omega, by omega⟩
      have HAM : Hid (∀ k : Int, 0 ≤ k → k ≤ 120 → (x.amt * k).natAbs < 18446744073709551616) := by
        intro k h1 h2
        have h3 : (x.amt * k).natAbs ≤ 1000000000000000 * 120 := by rw [Int.natAbs_mul]; exact Nat.mul_le_mul (by omega) (by omega)
        omega
      have HA64 : Hid (x.amt.natAbs < 18446744073709551616) := by show _ < _; omega
      have hHF := HF.out
      clear hP
      go_enter Tryz.func12, Tryz.ntmps12
      go_upto_region 4 with fail
      generalize w.alloc (.cells #[.string x.ref, .int .i64 x.ent, .string x.fr, .string x.to, .string x.cur, .int .i64 x.amt, .int .i64 x.first, .int .i64 x.per] 37) = W1 at hX hb ⊢
      clear k1 k2 h0 h1 f0 f1 a0 a1 p0 p1 HF
      generalize period - x.first + 1 = K at hHF hd1 hd2 hk1 hk2 ⊢
      have HF := hide hHF
      have hwk : IntKind.i64.wrap (K - 1) = K - 1 := IntWalk.i64_in _ (by omega)
      have HU1 := hide hd1
      have HU2 := hide hd2
      obtain ⟨pg, hpg⟩ : ∃ pg, pg = w.heap.size := ⟨_, rfl⟩
      rw [← hpg] at hX ⊢
      clear hpg hHF hd1 hd2
      have hs1 := hb.size
      have c5 := hX.c5
      have hpl := hX.lt
      go_wp2_with fail
      have HKK : Hid (0 ≤ K ∧ K ≤ 120) := ⟨by omega, by omega⟩
      have HE1 : Hid ((x.amt * K).tdiv (P : Int) = uptoI x.amt x.per K) := by show _ = _; rw [uptoI, HPE.out]
      have HE2 : Hid ((x.amt * (K - 1)).tdiv (P : Int) = uptoI x.amt x.per (K - 1)) := by show _ = _; rw [uptoI, HPE.out]
      have HXX := hide hX
      clear hX
      refine (refBig_any x.amt _ HA.out.1 HA.out.2).mono ?_
      rintro e w1 ⟨gx, rfl, hQx, hb1⟩
      clear c5
      go_wp2_with fail
      refine (refBig_any K _ (by omega) (by omega)).mono ?_
      rintro e w2 ⟨gk, rfl, hQk, hb2⟩
      have hQx := hQx.below hb2
      have hb2 := bthen hb1 (Nat.le_refl _) hb2
      clear hb1
      go_wp2_with fail
      refine (qMul_any hQx hQk hb2.size HA64.out (by omega)).mono ?_
      rintro e w3 ⟨rfl, hQm, hb3, hz⟩
      have hb3 := hb2.trans hb3
      have c7 := below_cell hb3 hpl HXX.out.c7
      clear hQx hQk hb2
      go_wp2_with fail
      refine (refBig_any x.per _ HPP.out.1 HPP.out.2).mono ?_
      rintro e w4 ⟨gp, rfl, hQp, hb4⟩
      have hQm4 := hQm.below hb4
      have hz4 : x.amt * K = 0 → w4.cell? ⟨gx, 1, none⟩ = some (.slice none 0 0) := fun h => below_cell hb4 hQm.lt (hz h)
      have HZ4 := hide hz4
      have hb4 := bthen hb3 (Nat.le_refl _) hb4
      rw [HPE.out] at hQp
      clear hQm hz hz4 hb3 c7
      go_wp2_with fail
      refine (qQuo_any hQm4 hQp hb4.size (HAM.out K HKK.out.1 HKK.out.2) HP0.out HP2.out HZ4.out).mono ?_
      rintro e w5 ⟨rfl, hQ5, hb5⟩
      have hb5 := hb4.trans hb5
      rw [HE1.out] at hQ5
      have c5 := below_cell hb5 hpl HXX.out.c5
      clear hQm4 hQp hb4 HZ4
      go_wp2_with fail
      refine (refBig_any x.amt _ HA.out.1 HA.out.2).mono ?_
      rintro e w6 ⟨gy, rfl, hQy, hb6⟩
      clear c5
      go_wp2_with fail
      refine (refBig_any (K - 1) _ (by omega) (by omega)).mono ?_
      rintro e w7 ⟨gj, rfl, hQj, hb7⟩
      have hQy := hQy.below hb7
      have hb7 := bthen hb6 (Nat.le_refl _) hb7
      clear hb6
      go_wp2_with fail
      refine (qMul_any hQy hQj hb7.size HA64.out (by omega)).mono ?_
      rintro e w8 ⟨rfl, hQm, hb8, hz⟩
      have hb8 := hb7.trans hb8
      have c7 := below_cell (hb5.trans (hb8.mono hb5.size)) hpl HXX.out.c7
      clear hQy hQj hb7
      go_wp2_with fail
      refine (refBig_any x.per _ HPP.out.1 HPP.out.2).mono ?_
      rintro e w9 ⟨gq, rfl, hQp, hb9⟩
      have hQm4 := hQm.below hb9
      have hz4 : x.amt * (K - 1) = 0 → w9.cell? ⟨gy, 1, none⟩ = some (.slice none 0 0) := fun h => below_cell hb9 hQm.lt (hz h)
      have HZ4 := hide hz4
      have hb9 := bthen hb8 (Nat.le_refl _) hb9
      rw [HPE.out] at hQp
      clear hQm hz hz4 hb8 c7
      go_wp2_with fail
      refine (qQuo_any hQm4 hQp hb9.size (HAM.out (K - 1) (by omega) (by omega)) HP0.out HP2.out HZ4.out).mono ?_
      rintro e w10 ⟨rfl, hQ10, hb10⟩
      have hb10 := hb9.trans hb10
      rw [HE2.out] at hQ10
      have hQx := hQ5.below hb10
      have hbA := hb5.trans (hb10.mono hb5.size)
      clear hQm4 hQp hb9 HZ4 hQ5
      have hu1 := HU1.out
      have hu2 := HU2.out
      have HIN : Hid (in64 (uptoI x.amt x.per K - uptoI x.amt x.per (K - 1)) = true) := in64_yes _ (by omega)
      have HN1 : Hid ((uptoI x.amt x.per K).natAbs < 79228162514264337593543950336) := by show _ < _; omega
      have HN2 : Hid ((uptoI x.amt x.per (K - 1)).natAbs < 79228162514264337593543950336) := by show _ < _; omega
      clear hu1 hu2
      go_wp2_with fail
      refine (qSub_any hQx hQ10 hbA.size HN1.out HN2.out).mono ?_
      rintro e w11 ⟨rfl, hQ, hb11⟩
      have hbA := hbA.trans hb11
      clear hQx hQ10
      go_wp2_with fail
      refine (qint64_any hQ HIN.out).mono ?_
      rintro e w12 ⟨rfl, m, rfl⟩
      go_wp2_with fail
      go_ret
      exact ⟨by rw [HF.out]; rfl, bdrewN (hb.trans (hbA.mono hs1)) m⟩
end Go.Proofs.YtfkhcdcmcplfoaaGreatDoor

namespace Go.Proofs.YtfkhcdcmcplfoaaGreatDoor
open Go Go.RowKit
set_option linter.unusedVariables false

theorem pln_byte (b : UInt8) : plnSet.data.toList.contains b = decide ((48 ≤ b.toNat ∧ b.toNat ≤ 57) ∨ (97 ≤ b.toNat ∧ b.toNat ≤ 122)) := by
  have := all_bytes (p := fun b => plnSet.data.toList.contains b == decide ((48 ≤ b.toNat ∧ b.toNat ≤ 57) ∨ (97 ≤ b.toNat ∧ b.toNat ≤ 122))) (by decide +kernel) b
  simpa using this
theorem NoTo.any_takeP {α : Type} {p : α → Bool} {l : List α} {k : Nat} (h : NoTo p l k) : (l.take k).any p = false := by
  rw [List.any_eq_false]
  intro x hx
  obtain ⟨j, hj, rfl⟩ := List.getElem_of_mem hx
  rw [List.length_take] at hj
  rw [List.getElem_take]
  have := h j (by omega) (by omega)
  rw [this]; decide
theorem any_takeP {α : Type} {p : α → Bool} {l : List α} {k j : Nat} (hj : j < k) (hjl : j < l.length) (h : p l[j] = true) : (l.take k).any p = true := by
  rw [List.any_eq_true]
  exact ⟨l[j], List.mem_take_iff_getElem.2 ⟨j, by omega, rfl⟩, h⟩

set_option maxHeartbeats 4000000 in
set_option maxRecDepth 100000 in
theorem refPlans_any (c : List Acc) (CA : Option Addr) (cn ccap : Nat) (l : List Pln) (A : Option Addr) (n cap : Nat) (w : World)
    (hcl : cn ≤ 9223372036854775807) (hcc : cn ≤ ccap) (hc : Accs w CA cn c) (hcok : AccOk c) (hl : n ≤ 9223372036854775807) (ha : Rd w 8 plnEnc A n l) (hok : PlnsOk l) :
    Calls Tryz.prog 6 #[.slice CA cn ccap, .slice A n cap] w fun e w' => e = .returned (.int .i64 (plansE c l)) ∧ Below w.heap.size w w' := by
  have hn := ha.1
  have Hn := hide hn
  by_cases he : chartE c = 0
  · have HC := hide he
    clear he
    by_cases h20 : 20 < n
    · have h20i : (20 : Int) < (n : Int) := by omega
      have HF := hide (plansE_2 (l := l) HC.out (by rw [Hn.out]; exact h20))
      clear h20
      go_enter Tryz.func6, Tryz.ntmps6
      go_wp2_with fail
      refine (refChart_any c _ _ _ _ hcl hcc hc hcok).mono ?_
      rintro e w1 ⟨rfl, hb1⟩
      rw [HC.out]
      go_wp2_with fail
      go_ret
      exact ⟨by rw [HF.out]; rfl, hb1⟩
    · have h20i : ¬ (20 : Int) < (n : Int) := by omega
      have hn20 : n ≤ 20 := by omega
      have H20 : Hid (¬ 20 < l.length) := by show ¬ _; rw [Hn.out]; exact h20
      clear h20 hn
      go_enter Tryz.func6, Tryz.ntmps6
      go_wp2_with fail
      refine (refChart_any c _ _ _ _ hcl hcc hc hcok).mono ?_
      rintro e w1 ⟨rfl, hb1⟩
      rw [HC.out]
      go_wp2_with fail
      go_loopw [5, 6] (fun ev iv wr => ∃ k : Nat, k ≤ n ∧ iv = .int .i64 k ∧ ev = .int .i64 0 ∧ firstE (planAt c l) k = 0 ∧ Below w.heap.size w wr) (fun _ iv _ => n - (intOf iv).toNat)
      case atStart => exact ⟨0, by omega, rfl, rfl, rfl, hb1⟩
      case round =>
        obtain ⟨k, hk, rfl, rfl, hto, hbr⟩ := hrel
        obtain ⟨wo, hwo⟩ : ∃ wo, wo = wr := ⟨_, rfl⟩
        subst hwo
        have HTo := hide hto
        clear hto
        by_cases hlt : k < n
        · have hkl : k < l.length := by have := Hn.out; omega
          obtain ⟨b, off, rfl, hcs⟩ := (Rd.below ha hbr).2 (by omega)
          have q0 := hcs k 0 _ hkl rfl
          have q1 := hcs k 1 _ hkl rfl
          have q2 := hcs k 2 _ hkl rfl
          have q3 := hcs k 3 _ hkl rfl
          have q4 := hcs k 4 _ hkl rfl
          have q5 := hcs k 5 _ hkl rfl
          have q6 := hcs k 6 _ hkl rfl
          have q7 := hcs k 7 _ hkl rfl
          rw [Nat.add_zero] at q0
          clear hcs
          have k0 : (0 : Int) ≤ (k : Int) := by omega
          have k1 : (k : Int) < (n : Int) := by omega
          have hsz := hbr.size
          have hfit := hok l[k] (List.getElem_mem hkl)
          obtain ⟨X, hXe⟩ : ∃ X, X = l[k] := ⟨_, rfl⟩
          have HEA : Hid (planAt c l k = planE c (l.take k) X) := by show _ = _; rw [hXe]; exact planAt_at hkl
          rw [← hXe] at q0 q1 q2 q3 q4 q5 q6 q7 hfit
          have hsr := hfit.ref
          have hsc := hfit.cur
          clear hXe hfit
          have hA : Below wo.heap.size wo (wo.alloc (.cells #[.string X.ref, .int .i64 X.ent, .string X.fr, .string X.to, .string X.cur, .int .i64 X.amt, .int .i64 X.first, .int .i64 X.per] 37)) := (Below.refl _ _).alloc (Nat.le_refl _) _
          have hX := PlnAt.new wo X
          have hB : Below w.heap.size w (wo.alloc (.cells #[.string X.ref, .int .i64 X.ent, .string X.fr, .string X.to, .string X.cur, .int .i64 X.amt, .int .i64 X.first, .int .i64 X.per] 37)) := hbr.trans (hA.mono hsz)
          obtain ⟨pg, hpg⟩ : ∃ pg, pg = wo.heap.size := ⟨_, rfl⟩
          go_upto_region 10 with fail
          rw [← hpg] at hX ⊢
          generalize (wo.alloc (.cells #[.string X.ref, .int .i64 X.ent, .string X.fr, .string X.to, .string X.cur, .int .i64 X.amt, .int .i64 X.first, .int .i64 X.per] 37)) = W1 at hX hB ⊢
          clear hpg q0 q1 q2 q3 q4 q5 q6 q7 hA hsz
          have hX0 := hX
          have c0 := hX.c0
          have hck := hc.below hB
          have hak := Rd.below ha hB
          cases h0 : X.ref.toList.isEmpty with
          | true =>
            have HF := hide (plans_hit HC.out H20.out HTo.out hkl (HEA.out.trans (planE_1 (by simp [prefB, h0]))) (by decide))
            go_wp2_with fail
            go_ret
            exact ⟨by rw [HF.out]; rfl, hB⟩
          | false =>
            by_cases h1 : (8 : Int) < (X.ref.size : Int)
            · have HF := hide (plans_hit HC.out H20.out HTo.out hkl (HEA.out.trans (planE_1 (by simp [prefB]; omega))) (by decide))
              go_wp2_with fail
              go_ret
              exact ⟨by rw [HF.out]; rfl, hB⟩
            · have h1d : decide ((8 : Int) < (X.ref.size : Int)) = false := decide_eq_false h1
              have hs8 : X.ref.size ≤ 8 := by omega
              have HP : Hid (allIn X.ref plnSet = true → prefB X.ref = true) := by
                intro h2
                have : decide ((X.ref.size : Int) ≤ 8) = true := by rw [decide_eq_true_eq]; omega
                simp [prefB, h0, h2, this]
              have HP2 : Hid (allIn X.ref plnSet = false → prefB X.ref = false) := by intro h2; simp [prefB, h2]
              go_wp2_with fail
              go_loopw [8] (fun jv wi => ∃ j : Nat, j ≤ X.ref.size ∧ jv = .int .i64 j ∧ InTo X.ref plnSet j ∧ wi = W1) (fun jv _ => X.ref.size - (intOf jv).toNat)
              case atStart => exact ⟨0, by omega, rfl, InTo.zero _ _, rfl⟩
              case round =>
                obtain ⟨j, hj, rfl, hin, rfl⟩ := hrel
                by_cases hjl : j < X.ref.size
                · have j0 : (0 : Int) ≤ (j : Int) := by omega
                  have j1 : (j : Int) < (X.ref.size : Int) := by omega
                  have HBY := hide (pln_byte X.ref[j])
                  by_cases e1 : (X.ref[j].toNat : Int) < 48
                  · have hbad : plnSet.data.toList.contains X.ref[j] = false := by rw [HBY.out]; simp; omega
                    have HF := hide (plans_hit HC.out H20.out HTo.out hkl (HEA.out.trans (planE_1 (HP2.out (InTo.not hjl hbad)))) (by decide))
                    have e1b : ¬ (97 : Int) ≤ (X.ref[j].toNat : Int) := by omega
                    have e1c : (X.ref[j].toNat : Int) < 97 := by omega
                    clear hbad
                    go_wp2_with fail
                    go_ret
                    exact ⟨by rw [HF.out]; rfl, hB⟩
                  · by_cases e2 : (X.ref[j].toNat : Int) ≤ 57
                    · have hgood : plnSet.data.toList.contains X.ref[j] = true := by rw [HBY.out]; simp; omega
                      have HS := hide (hin.succ hjl hgood)
                      have e2b : ¬ (57 : Int) < (X.ref[j].toNat : Int) := by omega
                      clear hgood
                      go_wp2_with fail
                      go_roundw
                      case rel => exact ⟨j + 1, by omega, by go_num, HS.out, trivial⟩
                      case measure => simp [intOf]; omega
                    · have e2b : (57 : Int) < (X.ref[j].toNat : Int) := by omega
                      by_cases e3 : (X.ref[j].toNat : Int) < 97
                      · have hbad : plnSet.data.toList.contains X.ref[j] = false := by rw [HBY.out]; simp; omega
                        have HF := hide (plans_hit HC.out H20.out HTo.out hkl (HEA.out.trans (planE_1 (HP2.out (InTo.not hjl hbad)))) (by decide))
                        clear hbad
                        go_wp2_with fail
                        go_ret
                        exact ⟨by rw [HF.out]; rfl, hB⟩
                      · by_cases e4 : (122 : Int) < (X.ref[j].toNat : Int)
                        · have hbad : plnSet.data.toList.contains X.ref[j] = false := by rw [HBY.out]; simp; omega
                          have HF := hide (plans_hit HC.out H20.out HTo.out hkl (HEA.out.trans (planE_1 (HP2.out (InTo.not hjl hbad)))) (by decide))
                          clear hbad
                          go_wp2_with fail
                          go_ret
                          exact ⟨by rw [HF.out]; rfl, hB⟩
                        · have hgood : plnSet.data.toList.contains X.ref[j] = true := by rw [HBY.out]; simp; omega
                          have HS := hide (hin.succ hjl hgood)
                          clear hgood
                          go_wp2_with fail
                          go_roundw
                          case rel => exact ⟨j + 1, by omega, by go_num, HS.out, trivial⟩
                          case measure => simp [intOf]; omega
                · have HPR := hide (HP.out (hin.all (by omega)))
                  have j1 : ¬ (j : Int) < (X.ref.size : Int) := by omega
                  clear hin hjl hj
                  go_wp2_with fail
                  go_loopw [10] (fun jv wi => ∃ j : Nat, j ≤ k ∧ jv = .int .i64 j ∧ NoTo (sameRef X) l j ∧ ∃ m, wi = wr.drewN m) (fun jv _ => k - (intOf jv).toNat)
                  case atStart => exact ⟨0, by omega, rfl, NoTo.zero _ _, 0, rfl⟩
                  case round =>
                    obtain ⟨j, hj, rfl, hno, m, rfl⟩ := hrel
                    have hXm : PlnAt (wr.drewN m) pg X := hX0.below (bdrewN (Below.refl _ wr) m)
                    have hBm : Below w.heap.size w (wr.drewN m) := bdrewN hB m
                    have hakm := hak.below (bdrewN (Below.refl _ wr) m)
                    by_cases hjk : j < k
                    · have hjl : j < l.length := by omega
                      obtain ⟨b2, off2, e2, hcs2⟩ := hakm.2 (by omega)
                      cases e2
                      have r0 := hcs2 j 0 _ hjl rfl
                      rw [Nat.add_zero] at r0
                      have r0 : wr.cell? _ = _ := r0
                      have d0 : wr.cell? _ = _ := hXm.c0
                      have j0 : (0 : Int) ≤ (j : Int) := by omega
                      have j2 : (j : Int) < (k : Int) := by omega
                      have j3 : (j : Int) < (n : Int) := by omega
                      clear hcs2
                      cases hs : (l[j].ref.toList == X.ref.toList) with
                      | true =>
                        have HF := hide (plans_hit HC.out H20.out HTo.out hkl (HEA.out.trans (planE_2 (c := c) HPR.out (any_takeP (p := sameRef X) hjk hjl hs))) (by decide))
                        have HS := hide hs
                        clear hno
                        go_wp2_with fail
                        go_quiet (fail)
                        go_wp2_with fail
                        go_ret
                        first | exact ⟨by rw [HF.out]; rfl, bdrewN hBm _⟩ | exact ⟨by rw [HF.out]; rfl, bdrewN hB _⟩
                      | false =>
                        have HS := hide (hno.succ hjl hs)
                        clear hno
                        go_wp2_with fail
                        go_quiet (fail)
                        go_wp2_with fail
                        go_roundw
                        case rel => exact ⟨j + 1, by omega, by go_num, HS.out, _, rfl⟩
                        case measure => simp [intOf]; omega
                    · have hjk2 : j = k := by omega
                      have HAN : Hid ((l.take k).any (sameRef X) = false) := by subst hjk2; exact hno.any_takeP
                      have j2 : ¬ (j : Int) < (k : Int) := by omega
                      have d1 := hXm.c1
                      clear hno hjk hj hjk2 hakm
                      generalize wr.drewN m = wm at hXm hBm d1 ⊢
                      go_wp2_with fail
                      refine (refEntity_any _ _).mono ?_
                      rintro e w3 ⟨rfl, rfl⟩
                      clear d1
                      cases h4 : inB 1 12 X.ent with
                      | false =>
                        have HF := hide (plans_hit HC.out H20.out HTo.out hkl (HEA.out.trans (planE_3 (c := c) HPR.out HAN.out h4)) (by decide))
                        go_wp2_with fail
                        go_ret
                        exact ⟨by rw [HF.out]; rfl, hBm⟩
                      | true =>
                        have HE := hide h4
                        obtain ⟨d0, d1, d2, d3, d4, d5, d6, d7⟩ := hXm
                        have hX2 : PlnAt wm pg X := ⟨d0, d1, d2, d3, d4, d5, d6, d7⟩
                        clear h4
                        go_wp2_with fail
                        refine (refNums_any X _).mono ?_
                        rintro e w4 ⟨rfl, hb4⟩
                        have hX4 := hX2.below hb4
                        have hb4 := bthen hBm (Nat.le_refl _) hb4
                        clear d0 d1 d2 d3 d4 d5 d6 d7 hX2 hBm
                        by_cases h5 : numE X = 0
                        · have HN := hide h5
                          have hc4 := hc.below hb4
                          have e2 := hX4.c2
                          have e3 := hX4.c3
                          have e4 := hX4.c4
                          rw [h5]
                          clear h5 hX4
                          go_wp2_with fail
                          refine (refLeaf_any c _ _ _ _ _ hcl hc4).mono ?_
                          rintro e w5 ⟨rfl, rfl⟩
                          by_cases h6 : leafE c X.fr = 0
                          · have H6 := hide h6
                            rw [h6]
                            clear h6
                            go_wp2_with fail
                            refine (refLeaf_any c _ _ _ _ _ hcl hc4).mono ?_
                            rintro e w5 ⟨rfl, rfl⟩
                            by_cases h7 : leafE c X.to = 0
                            · have HG := hide (planE_5 (c := c) HPR.out HAN.out HE.out HN.out)
                              have HG : Hid (planE c (l.take k) X = if X.fr.toList = X.to.toList then 8 else if curB X.cur = false then 2 else 0) := by
                                show _ = _
                                rw [HG.out, if_neg (by rw [H6.out]; decide), if_neg (by rw [h7]; decide)]
                              rw [h7]
                              clear h7
                              cases h8 : (X.fr.toList == X.to.toList) with
                              | true =>
                                have HF := hide (plans_hit HC.out H20.out HTo.out hkl (HEA.out.trans (HG.out.trans (if_pos (by simpa using h8)))) (by decide))
                                go_wp2_with fail
                                go_ret
                                exact ⟨by rw [HF.out]; rfl, hb4⟩
                              | false =>
                                have hne : ¬ X.fr.toList = X.to.toList := by simpa using h8
                                have HN2 := hide hne
                                clear hne
                                go_wp2_with fail
                                refine (refCur_any X.cur _ hsc).mono ?_
                                rintro e w6 ⟨rfl, rfl⟩
                                cases h9 : curB X.cur with
                                | true =>
                                  have HK : Hid (firstE (planAt c l) (k + 1) = 0) := by
                                    show _ = _
                                    rw [firstE_succ HTo.out, HEA.out, HG.out, if_neg HN2.out, if_neg (by rw [h9]; decide)]
                                  go_wp2_with fail
                                  go_roundw
                                  case rel => exact ⟨k + 1, by omega, by go_num, by first | rfl | trivial, HK.out, hb4⟩
                                  case measure => simp [intOf]; omega
                                | false =>
                                  have HF := hide (plans_hit HC.out H20.out HTo.out hkl (HEA.out.trans (HG.out.trans ((if_neg HN2.out).trans (if_pos h9)))) (by decide))
                                  go_wp2_with fail
                                  go_ret
                                  exact ⟨by rw [HF.out]; rfl, hb4⟩
                            · have h7b : (leafE c X.to == 0) = false := by rw [beq_eq_false_iff_ne]; exact h7
                              have HG := hide (planE_5 (c := c) HPR.out HAN.out HE.out HN.out)
                              have HG : Hid (planE c (l.take k) X = leafE c X.to) := by
                                show _ = _
                                rw [HG.out, if_neg (by rw [H6.out]; decide), if_pos h7]
                              have HF := hide (plans_hit HC.out H20.out HTo.out hkl (HEA.out.trans HG.out) h7)
                              have h7c : (leafE c X.to != 0) = true := by rw [bne, h7b]; rfl
                              clear h7
                              go_wp2_with fail
                              go_ret
                              exact ⟨by rw [HF.out]; rfl, hb4⟩
                          · have h6b : (leafE c X.fr == 0) = false := by rw [beq_eq_false_iff_ne]; exact h6
                            have HG := hide (planE_5 (c := c) HPR.out HAN.out HE.out HN.out)
                            have HG : Hid (planE c (l.take k) X = leafE c X.fr) := by
                              show _ = _
                              rw [HG.out, if_pos h6]
                            have HF := hide (plans_hit HC.out H20.out HTo.out hkl (HEA.out.trans HG.out) h6)
                            have h6c : (leafE c X.fr != 0) = true := by rw [bne, h6b]; rfl
                            clear h6
                            go_wp2_with fail
                            go_ret
                            exact ⟨by rw [HF.out]; rfl, hb4⟩
                        · have HF := hide (plans_hit HC.out H20.out HTo.out hkl (HEA.out.trans (planE_4 (c := c) HPR.out HAN.out HE.out h5)) (by decide))
                          have hev : numE X = 1 := by
                            rcases numE_01 (x := X) with h | h
                            · exact absurd h h5
                            · exact h
                          rw [hev]
                          clear h5 hev
                          go_wp2_with fail
                          go_ret
                          exact ⟨by rw [HF.out]; rfl, hb4⟩
        · have hkn : k = n := by omega
          have HF : Hid (plansE c l = 0) := by
            show _ = _
            rw [plansE_3 HC.out H20.out, Hn.out, ← hkn]
            exact HTo.out
          go_wp2_with fail
          go_ret
          exact ⟨by rw [HF.out]; rfl, hbr⟩
  · have HF := hide (plansE_1 (l := l) he)
    have HE := hide he
    have hez : (chartE c == 0) = false := by rw [beq_eq_false_iff_ne]; exact he
    have hez2 : (chartE c != 0) = true := by rw [bne, hez]; rfl
    clear he
    go_enter Tryz.func6, Tryz.ntmps6
    go_wp2_with fail
    refine (refChart_any c _ _ _ _ hcl hcc hc hcok).mono ?_
    rintro e w1 ⟨rfl, hb1⟩
    go_wp2_with fail
    go_ret
    exact ⟨by rw [HF.out]; rfl, hb1⟩
end Go.Proofs.YtfkhcdcmcplfoaaGreatDoor

namespace Go.Proofs.YtfkhcdcmcplfoaaGreatDoor
open Go Go.RowKit
set_option linter.unusedVariables false

theorem frozen_grownX {W w' : World} {gx q : Nat} {row : Option Nat} (hf : W.frozen? ⟨gx, q, none⟩ = false) (hx : gx < W.heap.size) (hg : W.grownBy w' row) (hne : row ≠ some gx) : w'.frozen? ⟨gx, q, none⟩ = false := by
  have y := hg.block gx hx (fun e => hne e.symm)
  rw [← hf]
  unfold World.frozen?
  simp only [y]
theorem cell?_alloc_keepX {w : World} {g q : Nat} {u : Value} {o : Obj} (h : w.cell? ⟨g, q, none⟩ = some u) : (w.alloc o).cell? ⟨g, q, none⟩ = some u :=
  below_cell ((Below.refl w.heap.size w).alloc (Nat.le_refl _) o) (World.block_lt_of_cell? _ _ h) h
theorem frozen_alloc_keepX {w : World} {g q : Nat} {o : Obj} (hg : g < w.heap.size) (h : w.frozen? ⟨g, q, none⟩ = false) : (w.alloc o).frozen? ⟨g, q, none⟩ = false :=
  (((Below.refl w.heap.size w).alloc (Nat.le_refl _) o).frozen (p := ⟨g, q, none⟩) hg).trans h
theorem dec_lt (i : Nat) (h : i < 128) : (Lib.decDigits i).length ≤ 21 := by
  have : ∀ i, i < 128 → (Lib.decDigits i).length ≤ 21 := by decide +kernel
  exact this i h

set_option maxHeartbeats 4000000 in
set_option maxRecDepth 100000 in
theorem refAccrue_any (c : List Acc) (CA : Option Addr) (cn ccap : Nat) (l : List Pln) (A : Option Addr) (n cap : Nat) (ent per : Int) (dg : ByteArray) (w : World)
    (hcl : cn ≤ 9223372036854775807) (hcc : cn ≤ ccap) (hc : Accs w CA cn c) (hcok : AccOk c) (hl : n ≤ 9223372036854775807) (ha : Rd w 8 plnEnc A n l) (hok : PlnsOk l) (hdg : 1 ≤ per → per ≤ 120 → dg = ⟨(Lib.decDigits per.toNat).toArray⟩) :
    Calls Tryz.prog 7 #[.slice CA cn ccap, .slice A n cap, .int .i64 ent, .int .i64 per] w fun e w' =>
      ((plansE c l ≠ 0 ∧ e = .returned (.tuple #[.slice none 0 0, .int .i64 (plansE c l)])) ∨
        (plansE c l = 0 ∧ atEA ent per ≠ 0 ∧ e = .returned (.tuple #[.slice none 0 0, .int .i64 (atEA ent per)])) ∨
        (plansE c l = 0 ∧ atEA ent per = 0 ∧ ∃ v es, e = .returned (.tuple #[v, .int .i64 0]) ∧ Pack w' w.heap.size v es ∧ es.map Ent.core = acoresTo l ent per dg n)) ∧ Below w.heap.size w w' := by
  have hn := ha.1
  have Hn := hide hn
  obtain ⟨i1, hi1, hy0, hy1, hy2⟩ := info_parts ent_infoA
  obtain ⟨j1, hj1, hx0, hx1, hx2⟩ := info_parts line_info
  by_cases hp : plansE c l = 0
  · have HP := hide hp
    obtain ⟨_, h20, hpo⟩ := plansE_0 hp
    have hn20 : n ≤ 20 := by omega
    have HPO := hide hpo
    clear hp hpo h20 hn
    by_cases hat : atEA ent per = 0
    · have HAT := hide hat
      have hper : 1 ≤ per ∧ per ≤ 120 := by
        unfold atEA at hat
        by_cases h : inB 1 12 ent = true ∧ inB 1 120 per = true
        · exact inB_iff.1 h.2
        · rw [if_neg h] at hat; cases hat
      obtain ⟨p0, p1⟩ := hper
      have hdd := hdg p0 p1
      have hds : dg.size ≤ 21 := by
        have := dec_lt per.toNat (by omega)
        rw [hdd]; simpa [ByteArray.size] using this
      have HDG : Hid (∀ W : World, Calls Tryz.prog 22 #[.int .i64 per] W fun e w' => e = .returned (.string dg) ∧ Below W.heap.size W w') := fun W => by
        have := digits128 per.toNat (by omega) W
        rw [show ((per.toNat : Nat) : Int) = per by omega] at this
        rw [hdd]; exact this
      have H0 := hide p0
      have H1 := hide p1
      clear hat p0 p1 hdd hdg
      go_enter Tryz.func7, Tryz.ntmps7
      go_wp2_with fail
      refine (refPlans_any c _ _ _ l _ _ _ _ hcl hcc hc hcok hl ha hok).mono ?_
      rintro e w1 ⟨rfl, hb1⟩
      rw [HP.out]
      go_wp2_with fail
      refine (refWhen_any ent per _).mono ?_
      rintro e w2 ⟨rfl, rfl⟩
      rw [HAT.out]
      go_wp2_with fail
      go_loopw [11, 12] (fun ov iv wr => ∃ (k : Nat) (es : List Ent), k ≤ n ∧ iv = .int .i64 k ∧ Pack wr w.heap.size ov es ∧ es.map Ent.core = acoresTo l ent per dg k ∧ Below w.heap.size w wr) (fun _ iv _ => n - (intOf iv).toNat)
      case atStart => exact ⟨0, [], by omega, rfl, Pack.nil _ _, rfl, hb1⟩
      case round =>
        clear hb1
        obtain ⟨k, es, hk, rfl, hpk, hes, hbr⟩ := hrel
        obtain ⟨wo, hwo⟩ : ∃ wo, wo = wr := ⟨_, rfl⟩
        subst hwo
        have HEs := hide hes
        clear hes
        by_cases hlt : k < n
        · have hkl : k < l.length := by have := Hn.out; omega
          obtain ⟨b, off, rfl, hcs⟩ := (Rd.below ha hbr).2 (by omega)
          have q0 := hcs k 0 _ hkl rfl
          have q1 := hcs k 1 _ hkl rfl
          have q2 := hcs k 2 _ hkl rfl
          have q3 := hcs k 3 _ hkl rfl
          have q4 := hcs k 4 _ hkl rfl
          have q5 := hcs k 5 _ hkl rfl
          have q6 := hcs k 6 _ hkl rfl
          have q7 := hcs k 7 _ hkl rfl
          rw [Nat.add_zero] at q0
          clear hcs
          have k0 : (0 : Int) ≤ (k : Int) := by omega
          have k1 : (k : Int) < (n : Int) := by omega
          have hsz := hbr.size
          have hX := PlnAt.new wo l[k]
          have hA : Below wo.heap.size wo (wo.alloc (.cells #[.string l[k].ref, .int .i64 l[k].ent, .string l[k].fr, .string l[k].to, .string l[k].cur, .int .i64 l[k].amt, .int .i64 l[k].first, .int .i64 l[k].per] 37)) := (Below.refl _ _).alloc (Nat.le_refl _) _
          have hB : Below w.heap.size w (wo.alloc (.cells #[.string l[k].ref, .int .i64 l[k].ent, .string l[k].fr, .string l[k].to, .string l[k].cur, .int .i64 l[k].amt, .int .i64 l[k].first, .int .i64 l[k].per] 37)) := hbr.trans (hA.mono hsz)
          have hpk1 := hpk.below hA
          have hel : es.length ≤ 20 := by have := cores_lenA HEs.out; have := acoresTo_len (l := l) (ent := ent) (per := per) (dg := dg) (k := k) (by omega); omega
          obtain ⟨VA, vc, rfl, hvc, hvm⟩ := hpk.own.form
          obtain ⟨pg, hpg⟩ : ∃ pg, pg = wo.heap.size := ⟨_, rfl⟩
          have hvp : Value.ownBlock (.slice VA es.length vc) ≠ some pg := fun e => Nat.lt_irrefl _ (Nat.lt_of_lt_of_eq (hpk.own.block pg e).2 hpg.symm)
          obtain ⟨X, hXe⟩ : ∃ X, X = l[k] := ⟨_, rfl⟩
          have HXE := hide hXe
          have hnum : numE X = 0 := by rw [hXe]; exact (HPO.out _ (List.getElem_mem hkl)).num
          have hrs : X.ref.size ≤ 8 := by rw [hXe]; exact (HPO.out _ (List.getElem_mem hkl)).ref
          rw [← hXe] at q0 q1 q2 q3 q4 q5 q6 q7 hX hB hpk1 hA
          obtain ⟨nv, hnv⟩ : ∃ nv, nv = partOf X per := ⟨_, rfl⟩
          have hnb := partOf_small (x := X) (period := per) hnum
          rw [← hnv] at hnb
          obtain ⟨hn1, hn2⟩ := hnb
          have HNV := hide hnv
          have HPT : Hid (∀ W : World, Calls Tryz.prog 12 #[.agg #[.string X.ref, .int .i64 X.ent, .string X.fr, .string X.to, .string X.cur, .int .i64 X.amt, .int .i64 X.first, .int .i64 X.per], .int .i64 per] W fun e w' => e = .returned (.int .i64 nv) ∧ Below W.heap.size W w') := fun W => by rw [hnv]; exact refPart_any X per W hnum H0.out H1.out
          clear hnum hnv hXe hpk
          go_upto_region 11 with fail
          rw [← hpg] at hX ⊢
          generalize (wo.alloc (.cells #[.string X.ref, .int .i64 X.ent, .string X.fr, .string X.to, .string X.cur, .int .i64 X.amt, .int .i64 X.first, .int .i64 X.per] 37)) = W1 at hX hB hpk1 hA ⊢
          have hpgw : w.heap.size ≤ pg := by omega
          clear hpg q0 q1 q2 q3 q4 q5 q6 q7 hA hsz
          have hX1 := hX
          obtain ⟨c0, c1, c2, c3, c4, c5, c6, c7⟩ := hX
          go_wp2_with fail
          refine (HPT.out _).mono ?_
          rintro e w2 ⟨rfl, hb2⟩
          have hX2 := hX1.below hb2
          have hpk2 := hpk1.below hb2
          have hB2 := bthen hB (Nat.le_refl _) hb2
          have hs2 := hB2.size
          clear c0 c1 c2 c3 c4 c5 c6 c7 hX1 hpk1 hB hb2 HPT
          have d1 := hX2.c1
          cases e1 : (X.ent == ent) with
          | false =>
            have e1n : (X.ent != ent) = true := by rw [bne, e1] <;> rfl
            have HN := hide (acores_ent (ent := ent) (per := per) (dg := dg) hkl (by rw [← HXE.out]; simpa using e1))
            go_wp2_with fail
            go_roundw
            case rel => exact ⟨k + 1, es, by omega, by go_num, hpk2, by rw [HN.out]; exact HEs.out, hB2⟩
            case measure => simp [intOf]; omega
          | true =>
            have e1n : (X.ent != ent) = false := by rw [bne, e1] <;> rfl
            have he1 : X.ent = ent := by simpa using e1
            by_cases hz : nv = 0
            · have hz1 : (nv == 0) = true := by simpa using hz
              have HN := hide (acores_no (ent := ent) (per := per) (dg := dg) hkl (by rw [← HXE.out]; exact he1) (by rw [← HXE.out, ← HNV.out]; exact hz))
              clear hz he1
              go_wp2_with fail
              go_roundw
              case rel => exact ⟨k + 1, es, by omega, by go_num, hpk2, by rw [HN.out]; exact HEs.out, hB2⟩
              case measure => simp [intOf]; omega
            · have hz1 : (nv == 0) = false := by simpa using hz
              have HN := hide (acores_yes (ent := ent) (per := per) (dg := dg) hkl (by rw [← HXE.out]; exact he1) (by rw [← HXE.out, ← HNV.out]; exact hz))
              clear hz he1
              have hw1 : ¬ (9223372036854775807 < X.ref.size + (⟨#[45]⟩ : ByteArray).size) := by
                have : (⟨#[45]⟩ : ByteArray).size = 1 := rfl
                omega
              have hw2 : ¬ (9223372036854775807 < X.ref.size + 1) := by omega
              have hpd : (X.ref ++ ⟨#[45]⟩ : ByteArray).size = X.ref.size + 1 := by rw [ByteArray.size_append]; rfl
              have hw3 : ¬ (9223372036854775807 < (X.ref ++ ⟨#[45]⟩ : ByteArray).size + dg.size) := by rw [hpd]; omega
              have hw4 : ¬ (9223372036854775807 < X.ref.size + 1 + dg.size) := by omega
              have hw5 : ¬ (9223372036854775807 < X.ref.size + (⟨#[45]⟩ : ByteArray).size + dg.size) := by
                have : (⟨#[45]⟩ : ByteArray).size = 1 := rfl
                omega
              clear hpd
              have hwn : IntKind.i64.wrap (-nv) = -nv := IntWalk.i64_in _ (by omega)
              go_wp2_with fail
              refine (HDG.out _).mono ?_
              rintro e w5 ⟨rfl, hb5⟩
              have hX5 := hX2.below hb5
              have hpk5 := hpk2.below hb5
              have hb5 := bthen hB2 (Nat.le_refl _) hb5
              have hs5 := hb5.size
              have g0 := hX5.c0
              clear e1 e1n hz1 d1 hX2 hpk2 hB2 hs2
              go_upto_region 15 with fail
              have hA6 : Below w5.heap.size w5 (w5.alloc (.cells #[.string (X.ref ++ ⟨#[45]⟩ ++ dg), .int .i64 ent, .int .i64 per, .slice none 0 0] 54)) := (Below.refl _ _).alloc (Nat.le_refl _) _
              have hX6 := hX5.below hA6
              have hpk6 := hpk5.below hA6
              have hb6 := bthen hb5 (Nat.le_refl _) hA6
              have e0 : (w5.alloc (.cells #[.string (X.ref ++ ⟨#[45]⟩ ++ dg), .int .i64 ent, .int .i64 per, .slice none 0 0] 54)).cell? ⟨w5.heap.size, 0, none⟩ = some (.string (X.ref ++ ⟨#[45]⟩ ++ dg)) := by simp
              have e1 : (w5.alloc (.cells #[.string (X.ref ++ ⟨#[45]⟩ ++ dg), .int .i64 ent, .int .i64 per, .slice none 0 0] 54)).cell? ⟨w5.heap.size, 1, none⟩ = some (.int .i64 ent) := by simp
              have e2 : (w5.alloc (.cells #[.string (X.ref ++ ⟨#[45]⟩ ++ dg), .int .i64 ent, .int .i64 per, .slice none 0 0] 54)).cell? ⟨w5.heap.size, 2, none⟩ = some (.int .i64 per) := by simp
              have e3 : (w5.alloc (.cells #[.string (X.ref ++ ⟨#[45]⟩ ++ dg), .int .i64 ent, .int .i64 per, .slice none 0 0] 54)).cell? ⟨w5.heap.size, 3, none⟩ = some (.slice none 0 0) := by simp
              have f3 : (w5.alloc (.cells #[.string (X.ref ++ ⟨#[45]⟩ ++ dg), .int .i64 ent, .int .i64 per, .slice none 0 0] 54)).frozen? ⟨w5.heap.size, 3, none⟩ = false := by simp
              have hs6 : (w5.alloc (.cells #[.string (X.ref ++ ⟨#[45]⟩ ++ dg), .int .i64 ent, .int .i64 per, .slice none 0 0] 54)).heap.size = w5.heap.size + 1 := by simp
              have hvq : ∀ q, Value.ownBlock (.slice VA es.length vc) = some q → q < w5.heap.size := fun q e => (hpk5.own.block q e).2
              have hpe : pg < w5.heap.size := World.block_lt_of_cell? _ _ g0
              generalize (w5.alloc (.cells #[.string (X.ref ++ ⟨#[45]⟩ ++ dg), .int .i64 ent, .int .i64 per, .slice none 0 0] 54)) = W6 at hX6 hpk6 hb6 hA6 e0 e1 e2 e3 f3 hs6 ⊢
              obtain ⟨eb, heb⟩ : ∃ eb, eb = w5.heap.size := ⟨_, rfl⟩
              rw [← heb] at e0 e1 e2 e3 f3 hs6 hvq hpe hs5 hA6 ⊢
              have HEB := hide heb
              clear heb g0
              have g2 := hX6.c2
              have g4 := hX6.c4
              obtain ⟨E1, hE1⟩ : ∃ E1 : Line, E1 = ⟨X.fr, X.cur, nv⟩ := ⟨_, rfl⟩
              obtain ⟨E2, hE2⟩ : ∃ E2 : Line, E2 = ⟨X.to, X.cur, -nv⟩ := ⟨_, rfl⟩
              go_upto_region 16 with (first | (at_builtin; go_loud (refine wpList_push _ rfl _ _ 52 rfl (eb + 1) 56 j1 zeroLine 3 40 Tryz.underlying52 hj1 hx0 hx1 hx2 rfl (by decide) lineEnc_ok _ ([] : List Line) rfl (Own.nil _ _ _ _ _) _ 1 1 [E1] rfl (Rd.boxedAt _ lineEnc_ok E1 _ _ (by rw [hE1]; rfl) _ (by first | rfl | simp | omega | (simp; omega))) (by intro h; cases h) (by first | (simp [maxLen]; done) | decide) (by first | omega | decide | (simp; done)) (by first | omega | (simp; omega)) ?_); intro v1 w6 hown6 hg6 hat6; go_loud (rw [List.nil_append] at hown6); go_loud (obtain ⟨A1, c1, rfl, hc1a, hc1b⟩ := hown6.form); have hl1 : [E1].length = 1 := rfl; go_loud (rw [hl1] at hown6 hc1a hat6 ⊢); go_loud (have hg6 : World.grownBy (W6.alloc (.cells #[.string X.fr, .string X.cur, .int .i64 nv] 56)) w6 none := hg6); go_loud (have e0 := hg6.cell (show (W6.alloc (.cells #[.string X.fr, .string X.cur, .int .i64 nv] 56)).cell? ⟨eb, 0, none⟩ = _ from cell?_alloc_keepX e0) (by simp)); go_loud (have e1 := hg6.cell (show (W6.alloc (.cells #[.string X.fr, .string X.cur, .int .i64 nv] 56)).cell? ⟨eb, 1, none⟩ = _ from cell?_alloc_keepX e1) (by simp)); go_loud (have e2 := hg6.cell (show (W6.alloc (.cells #[.string X.fr, .string X.cur, .int .i64 nv] 56)).cell? ⟨eb, 2, none⟩ = _ from cell?_alloc_keepX e2) (by simp)); go_loud (have e3 := hg6.cell (show (W6.alloc (.cells #[.string X.fr, .string X.cur, .int .i64 nv] 56)).cell? ⟨eb, 3, none⟩ = _ from cell?_alloc_keepX e3) (by simp)); go_loud (have f3 := frozen_grownX (show (W6.alloc (.cells #[.string X.fr, .string X.cur, .int .i64 nv] 56)).frozen? ⟨eb, 3, none⟩ = false from frozen_alloc_keepX (by omega) f3) (by simp; omega) hg6 (by simp))))
              clear hat6
              have hbel6 : Below eb w5 w6 := (hA6.alloc (by omega) (.cells #[.string X.fr, .string X.cur, .int .i64 nv] 56)).grown hg6 (by simp; omega) (fun q e => by cases e)
              have hbel7 : Below eb w5 (w6.setCell ⟨eb, 3, none⟩ (.slice A1 1 c1)) := hbel6.setCell (Nat.le_refl _) _
              have hX7 : PlnAt (w6.setCell ⟨eb, 3, none⟩ (.slice A1 1 c1)) pg X := hX5.below (by rw [← HEB.out]; exact hbel7)
              have k0 : (w6.setCell ⟨eb, 3, none⟩ (.slice A1 1 c1)).cell? ⟨eb, 0, none⟩ = some (.string (X.ref ++ ⟨#[45]⟩ ++ dg)) := (World.cell?_setCell_other _ _ _ _ (by simp)).trans e0
              have k1 : (w6.setCell ⟨eb, 3, none⟩ (.slice A1 1 c1)).cell? ⟨eb, 1, none⟩ = some (.int .i64 ent) := (World.cell?_setCell_other _ _ _ _ (by simp)).trans e1
              have k2 : (w6.setCell ⟨eb, 3, none⟩ (.slice A1 1 c1)).cell? ⟨eb, 2, none⟩ = some (.int .i64 per) := (World.cell?_setCell_other _ _ _ _ (by simp)).trans e2
              have k3 : (w6.setCell ⟨eb, 3, none⟩ (.slice A1 1 c1)).cell? ⟨eb, 3, none⟩ = some (.slice A1 1 c1) := World.cell?_setCell_same _ _ _ e3
              have kf : (w6.setCell ⟨eb, 3, none⟩ (.slice A1 1 c1)).frozen? ⟨eb, 3, none⟩ = false := by simp [f3]
              have hnb : Value.ownBlock (.slice A1 1 c1) ≠ some eb := fun e => by have := (hown6.block _ e).1; omega
              have hO7 : Own (w6.setCell ⟨eb, 3, none⟩ (.slice A1 1 c1)) (eb + 1) 56 3 lineEnc (.slice A1 1 c1) [E1] := hown6.grown (only_setCell (only_refl _ _) _ _) (.inr hnb)
              have hsz7 : eb < (w6.setCell ⟨eb, 3, none⟩ (.slice A1 1 c1)).heap.size := World.block_lt_of_cell? _ _ k0
              clear hX6 hpk6 hb6 hbel6 hg6 g2 g4 e0 e1 e2 e3 f3 hown6
              generalize (w6.setCell ⟨eb, 3, none⟩ (.slice A1 1 c1)) = w7 at k0 k1 k2 k3 kf hO7 hbel7 hX7 hsz7 ⊢
              have y3 := hX7.c3
              have y4 := hX7.c4
              have d0 : (w7.alloc (.cells #[.string X.to, .string X.cur, .int .i64 (-nv)] 56)).cell? ⟨eb, 0, none⟩ = some (.string (X.ref ++ ⟨#[45]⟩ ++ dg)) := cell?_alloc_keepX k0
              have d1 : (w7.alloc (.cells #[.string X.to, .string X.cur, .int .i64 (-nv)] 56)).cell? ⟨eb, 1, none⟩ = some (.int .i64 ent) := cell?_alloc_keepX k1
              have d2 : (w7.alloc (.cells #[.string X.to, .string X.cur, .int .i64 (-nv)] 56)).cell? ⟨eb, 2, none⟩ = some (.int .i64 per) := cell?_alloc_keepX k2
              have d3 : (w7.alloc (.cells #[.string X.to, .string X.cur, .int .i64 (-nv)] 56)).cell? ⟨eb, 3, none⟩ = some (.slice A1 1 c1) := cell?_alloc_keepX k3
              have df : (w7.alloc (.cells #[.string X.to, .string X.cur, .int .i64 (-nv)] 56)).frozen? ⟨eb, 3, none⟩ = false := frozen_alloc_keepX hsz7 kf
              have hO8 : Own (w7.alloc (.cells #[.string X.to, .string X.cur, .int .i64 (-nv)] 56)) (eb + 1) 56 3 lineEnc (.slice A1 1 c1) [E1] := hO7.alloc _
              have hR8 : Rd (w7.alloc (.cells #[.string X.to, .string X.cur, .int .i64 (-nv)] 56)) 3 lineEnc (some ⟨w7.heap.size, 0, none⟩) 1 [E2] := Rd.boxed w7 lineEnc_ok E2 _ _ (by rw [hE2]; rfl)
              have hbel8 : Below eb w5 (w7.alloc (.cells #[.string X.to, .string X.cur, .int .i64 (-nv)] 56)) := (hbel7.alloc (Nat.le_of_lt hsz7) _)
              have hs8e : (w7.alloc (.cells #[.string X.to, .string X.cur, .int .i64 (-nv)] 56)).heap.size = w7.heap.size + 1 := by simp
              have hs8 : eb < (w7.alloc (.cells #[.string X.to, .string X.cur, .int .i64 (-nv)] 56)).heap.size := by omega
              go_upto_region 17 with (first | (at_builtin; go_loud (refine wpList_push _ rfl _ _ 52 rfl (eb + 1) 56 j1 zeroLine 3 40 Tryz.underlying52 hj1 hx0 hx1 hx2 rfl (by decide) lineEnc_ok _ [E1] rfl hO8 _ 1 1 [E2] rfl hR8 (by intro h; cases h) (by first | (simp [maxLen]; done) | decide) (by first | (simp; done) | decide) (by omega) ?_); intro v2 w8 hown8 hg8 hat8; go_loud (rw [List.singleton_append] at hown8); go_loud (have g3 := hg8.cell d3 (fun e => hnb e.symm)); go_loud (have g0 := hg8.cell d0 (fun e => hnb e.symm)); go_loud (have g1 := hg8.cell d1 (fun e => hnb e.symm)); go_loud (have g2 := hg8.cell d2 (fun e => hnb e.symm)); go_loud (have gf := frozen_grownX df hs8 hg8 hnb); go_loud (obtain ⟨A2, c2, rfl, hc2a, hc2b⟩ := hown8.form); have hl2 : [E1, E2].length = 2 := rfl; go_loud (rw [hl2] at hown8 hc2a hat8 ⊢)))
              all_goals
                have m0 : (w8.setCell ⟨eb, 3, none⟩ (.slice A2 2 c2)).cell? ⟨eb, 0, none⟩ = some (.string (X.ref ++ ⟨#[45]⟩ ++ dg)) := (World.cell?_setCell_other _ _ _ _ (by simp)).trans g0
                have m1 : (w8.setCell ⟨eb, 3, none⟩ (.slice A2 2 c2)).cell? ⟨eb, 1, none⟩ = some (.int .i64 ent) := (World.cell?_setCell_other _ _ _ _ (by simp)).trans g1
                have m2 : (w8.setCell ⟨eb, 3, none⟩ (.slice A2 2 c2)).cell? ⟨eb, 2, none⟩ = some (.int .i64 per) := (World.cell?_setCell_other _ _ _ _ (by simp)).trans g2
                have m3 : (w8.setCell ⟨eb, 3, none⟩ (.slice A2 2 c2)).cell? ⟨eb, 3, none⟩ = some (.slice A2 2 c2) := World.cell?_setCell_same _ _ _ g3
                have hnb2 : Value.ownBlock (.slice A2 2 c2) ≠ some eb := fun e => by have := (hown8.block _ e).1; omega
                have hO9 : Own (w8.setCell ⟨eb, 3, none⟩ (.slice A2 2 c2)) (eb + 1) 56 3 lineEnc (.slice A2 2 c2) [E1, E2] := hown8.grown (only_setCell (only_refl _ _) _ _) (.inr hnb2)
                have hbel9 : Below w5.heap.size w5 (w8.setCell ⟨eb, 3, none⟩ (.slice A2 2 c2)) := by rw [← HEB.out]; exact (hbel8.grown hg8 (by omega) (fun q e => by have := (hO8.block q e).1; omega)).setCell (Nat.le_refl _) _
                have hpk9 := hpk5.below hbel9
                have hb9 := bthen hb5 (Nat.le_refl _) hbel9
                have hs9 := hb9.size
                clear hat8
                generalize (w8.setCell ⟨eb, 3, none⟩ (.slice A2 2 c2)) = w9 at m0 m1 m2 m3 hO9 hbel9 hpk9 hb9 hs9 ⊢
                obtain ⟨z2, hz2A⟩ : ∃ z2, A2 = some ⟨z2, 0, none⟩ := by
                  rcases hO9.2 with ⟨hv, h0⟩ | ⟨g9, cap9, cur9, hv, _⟩
                  · cases h0
                  · injection hv with e1; exact ⟨g9, e1⟩
                subst hz2A
                have hz2B := hO9.block z2 rfl
                obtain ⟨E, hE⟩ : ∃ E : Ent, E = ⟨(X.ref ++ ⟨#[45]⟩ ++ dg), ent, per, some ⟨z2, 0, none⟩, 2, c2, [E1, E2]⟩ := ⟨_, rfl⟩
                have HCO : Hid (Ent.core E = ((X.ref ++ ⟨#[45]⟩ ++ dg), ent, per, [⟨X.fr, X.cur, nv⟩, ⟨X.to, X.cur, -nv⟩])) := by show _ = _; rw [hE, hE1, hE2]; rfl
                have hL9 : Rd w9 3 lineEnc E.A E.n E.lines := by rw [hE]; exact hO9.rd lineEnc_ok
                have HEA : Hid (E.A = some ⟨z2, 0, none⟩) := by show _ = _; rw [hE]
                have HEN : Hid (E.n ≤ 20) := by show _ ≤ _; rw [hE]; show 2 ≤ 20; omega
                go_wp2_with (first | (at_builtin; go_loud (refine wpList_push _ rfl _ _ 29 rfl w.heap.size 54 i1 zeroEntA 4 56 Tryz.underlying29 hi1 hy0 hy1 hy2 rfl (by decide) entEnc_okA _ es rfl (hpk9.own.alloc _) _ 1 1 [E] rfl (Rd.boxedAt _ entEnc_okA E _ _ (by rw [hE]; rfl) _ (by simp)) (by intro h; cases h) (by simp only [maxLen]; omega) (by omega) (by simp; omega) ?_); intro v9 w10 hown10 hg10 hat10))
                go_roundw
                case rel => exact ⟨k + 1, es ++ [E], by omega, by go_num, (hpk9.below ((Below.refl _ _).alloc (Nat.le_refl _) _)).push hown10 hg10 hat10 (hL9.below ((Below.refl _ _).alloc (Nat.le_refl _) _)) HEN.out HEA.out (by have := hz2B.2; simp; omega) (fun e => by have := hvq _ e; have := hz2B.1; omega), by rw [List.map_append, HEs.out, HN.out, ← HXE.out, ← HNV.out, List.map_cons, List.map_nil, HCO.out], (hb9.alloc hs9 _).grown hg10 (by simp; omega) (fun q e => (hpk9.own.block q e).1)⟩
                case measure => simp [intOf]; omega
        · have hkn : k = n := by omega
          go_wp2_with fail
          go_ret2
          exact ⟨.inr (.inr ⟨HP.out, HAT.out, _, es, rfl, hpk, by rw [HEs.out, hkn]⟩), hbr⟩
    · have HAT := hide hat
      obtain ⟨ae, hae⟩ : ∃ ae, ae = atEA ent per := ⟨_, rfl⟩
      have HE := hide hae
      rw [← hae] at hat
      have hz1 : (ae == 0) = false := by rw [beq_eq_false_iff_ne]; exact hat
      have hz2 : (ae != 0) = true := by rw [bne, hz1]; rfl
      clear hat hae
      go_enter Tryz.func7, Tryz.ntmps7
      go_wp2_with fail
      refine (refPlans_any c _ _ _ l _ _ _ _ hcl hcc hc hcok hl ha hok).mono ?_
      rintro e w1 ⟨rfl, hb1⟩
      rw [HP.out]
      go_wp2_with fail
      refine (refWhen_any ent per _).mono ?_
      rintro e w2 ⟨rfl, rfl⟩
      rw [← HE.out]
      go_wp2_with fail
      go_ret2
      exact ⟨.inr (.inl ⟨HP.out, HAT.out, by rw [← HE.out]; rfl⟩), hb1⟩
  · have HP := hide hp
    obtain ⟨pe, hpe⟩ : ∃ pe, pe = plansE c l := ⟨_, rfl⟩
    have HE := hide hpe
    rw [← hpe] at hp
    have hz1 : (pe == 0) = false := by rw [beq_eq_false_iff_ne]; exact hp
    have hz2 : (pe != 0) = true := by rw [bne, hz1]; rfl
    clear hp hpe
    go_enter Tryz.func7, Tryz.ntmps7
    go_wp2_with fail
    refine (refPlans_any c _ _ _ l _ _ _ _ hcl hcc hc hcok hl ha hok).mono ?_
    rintro e w1 ⟨rfl, hb1⟩
    rw [← HE.out]
    go_wp2_with fail
    go_ret2
    exact ⟨.inl ⟨HP.out, by rw [← HE.out]; rfl⟩, hb1⟩
end Go.Proofs.YtfkhcdcmcplfoaaGreatDoor
