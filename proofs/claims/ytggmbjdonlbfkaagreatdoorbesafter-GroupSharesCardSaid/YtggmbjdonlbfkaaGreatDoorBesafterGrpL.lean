/- daylaw4.GroupShares returns true. -/
import Derived.Test.YtggmbjdonlbfkaaGreatDoorBesafterGrpF
import Derived.Test.YtggmbjdonlbfkaaGreatDoorBesafterOpenH
import Derived.BigQuiet
import Derived.Deep.QuietTactic
namespace Go.Proofs.YtggmbjdonlbfkaaGreatDoorBesafter
open Go Go.RowKit
set_option linter.unusedVariables false

theorem isEur_atG (x : Bal) : isEur x = (x.cur.toList == [69, 85, 82]) := by
  unfold isEur
  rw [show eur.toList = [69, 85, 82] from by rw [ByteArray.toList_eq]; rfl]
def factH : List Hold := [⟨1, 2, 600⟩, ⟨2, 3, 500⟩]
/-- the law's own holdings -/
theorem factH_any (A : Option Addr) (w : World) (ha : Rd w 3 Hold.enc A 2 factH) :
    Calls Tryz.prog 4 #[.slice A 2 2, .int .i64 1] w fun e w' => ∃ g, e = .returned (.tuple #[.slice (some ⟨g, 0, none⟩) 12 12, .nilIface]) ∧ w'.cell? ⟨g, 1, none⟩ = some (.int .i64 600) ∧ w'.cell? ⟨g, 2, none⟩ = some (.int .i64 300) ∧ Below w.heap.size w w' := by
  refine (gparts_any factH A 2 2 1 w (by omega) (by unfold maxLen; omega) ha).mono ?_
  obtain ⟨f1, f2⟩ := parts_fact
  rintro e w' ⟨hb, ⟨_, _, g, he, hown⟩ | ⟨hno, _⟩⟩
  · rw [show partsF factH 1 = [1000, 600, 300, 0, 0, 0, 0, 0, 0, 0, 0, 0] from f2] at hown
    have h1 := (hown.cells intEnc2_ok 1 0 (.int .i64 600) (by simp) rfl).1
    have h2 := (hown.cells intEnc2_ok 2 0 (.int .i64 300) (by simp) rfl).1
    exact ⟨g, he, by simpa using h1, by simpa using h2, hb⟩
  · exact absurd ⟨f1, by omega, by omega⟩ hno
theorem sumTo_low {P : List Int} (h : ∀ i, 0 ≤ P.getD i 0 ∧ P.getD i 0 ≤ 1000) : ∀ k, k ≤ P.length → 0 ≤ sumTo P k ∧ sumTo P k ≤ 1000 * (k : Int)
  | 0, _ => by simp [sumTo]
  | k + 1, hk => by
    have ih := sumTo_low h k (by omega)
    have h1 := h k
    rw [getD_at (by omega)] at h1
    rw [sumTo_succ P k (by omega)]
    omega

set_option maxHeartbeats 4000000 in
set_option maxRecDepth 100000 in
theorem grpshares_any (c : List Acc) (CA : Option Addr) (cn ccap : Nat) (l : List Hold) (A : Option Addr) (n cap : Nat) (top : Int) (b : List Bal) (BA : Option Addr) (bn bcap : Nat) (w : World) (hcc : cn ≤ ccap) (hcm : ccap ≤ maxLen) (hc : Accs w CA cn c) (hcok : AccOk c)
    (hl : n ≤ cap) (hcap : cap ≤ maxLen) (ha : Rd w 3 Hold.enc A n l) (hbn : bn ≤ bcap) (hbm : bcap ≤ maxLen) (hb : Rd w 4 balEnc BA bn b) (hok : BalsOk b) (hn48 : bn ≤ 2932031007402) :
    Calls Tryz.prog 3 #[.slice CA cn ccap, .slice A n cap, .int .i64 top, .slice BA bn bcap] w fun e w' => e = .returned (.bool true) ∧ Below w.heap.size w w' := by
  obtain ⟨i0, hi0, hz0, hz1, hz2⟩ := info_parts bal_infoG
  have Hb := hide hb.1
  have hcl : cn ≤ 9223372036854775807 := by unfold maxLen at hcm; omega
  go_enter Tryz.func3, Tryz.ntmps3
  go_wp2_with fail
  refine Calls.mono (factH_any _ _ ?hA) ?_
  case hA => exact Rd.lit w holdEnc_ok factH 2 rfl _ _ rfl
  rintro e w1 ⟨fg, rfl, f1, f2, hb1⟩
  have hb1 := bof_alloc hb1
  go_wp2_with fail
  refine (gparts_any l A n cap top _ hl hcap (Rd.below ha hb1)).mono ?_
  clear f1 f2
  rintro e w2 ⟨hb2, ⟨hh, ht, g, rfl, hown⟩ | ⟨_, z, rfl⟩⟩
  case inr =>
    go_wp2_with fail
    go_ret
    exact ⟨rfl, bthen hb1 (Nat.le_refl _) hb2⟩
  have hb2 := bthen hb1 (Nat.le_refl _) hb2
  obtain ⟨p1, p2, p3⟩ := parts_law hh ht
  obtain ⟨P, hP⟩ : ∃ P, P = partsF l top := ⟨_, rfl⟩
  rw [← hP] at hown p1 p2 p3
  have HP1 := hide p1
  have HP2 := hide p2
  have HP3 := hide p3
  have HT := hide ht
  have HOWN := hide hown
  clear hP hh p1 p2 p3 ht hown hb1
  go_wp2_with fail
  go_loopw [13] (fun iv wr => w2 = wr ∧ ∃ k : Nat, k ≤ 12 ∧ iv = .int .i64 k) (fun iv _ => 12 - (intOf iv).toNat)
  case atStart => exact ⟨rfl, 0, by omega, rfl⟩
  case round =>
    obtain ⟨rfl, k, hk, rfl⟩ := hrel
    by_cases hlt : k < 12
    · have hkP : k < P.length := by have := HP1.out; omega
      have q0 := (HOWN.out.cells intEnc2_ok k 0 _ hkP rfl).1
      simp only [Nat.mul_one, Nat.add_zero] at q0
      have k0 : (0 : Int) ≤ (k : Int) := by omega
      have k1 : (k : Int) < 12 := by omega
      have hpv := HP2.out k
      have hpt := HP3.out
      have hgk := getD_at hkP
      obtain ⟨pv, hpe⟩ : ∃ pv, pv = P[k] := ⟨_, rfl⟩
      rw [← hpe] at q0 hgk
      rw [hgk] at hpv
      have v0 : ¬ pv < 0 := by omega
      have v1 : ¬ 1000 < pv := by omega
      have hT2 := HT.out
      cases htk : ((k : Int) + 1 == top) with
      | false =>
        clear hpt hgk hpe hpv hT2
        go_wp2_with fail
        go_roundw
        case rel => exact ⟨by first | rfl | trivial, k + 1, by omega, by go_num⟩
        case measure => simp [intOf]; omega
      | true =>
        have e1 : (k : Int) + 1 = top := by simpa using htk
        have e2 : (top - 1).toNat = k := by omega
        rw [e2, hgk] at hpt
        subst hpt
        clear hgk hpe hpv hT2 e1 e2 v0 v1
        go_wp2_with fail
        go_roundw
        case rel => exact ⟨by first | rfl | trivial, k + 1, by omega, by go_num⟩
        case measure => simp [intOf]; omega
    · clear HP1 HP2 HP3 HOWN
      go_wp2_with fail
      refine (gparts_any [] none 0 0 top _ (by omega) (by unfold maxLen; omega) (Rd.nil _ _ _ _)).mono ?_
      rintro e w3 ⟨hb3, ⟨hh, ht, gq, rfl, hown⟩ | ⟨hno, _⟩⟩
      case inr => exact absurd ⟨(parts_none top HT.out).1, HT.out⟩ hno
      have hb3 := bthen hb2 (Nat.le_refl _) hb3
      obtain ⟨p1, p2, _⟩ := parts_law hh ht
      have p3 := (parts_none top ht).2.1
      obtain ⟨P, hP⟩ : ∃ P, P = partsF [] top := ⟨_, rfl⟩
      rw [← hP] at hown p1 p2 p3
      have HP1 := hide p1
      have HLOW := hide (sumTo_low p2)
      have HP3 := hide p3
      have HP2 := hide p2
      have HOWN := hide hown
      clear hP hh ht p1 p2 p3 hown hb2 hlt hk
      go_wp2_with fail
      go_loopw [16, 17] (fun sv iv wr => w3 = wr ∧ ∃ k : Nat, k ≤ 12 ∧ iv = .int .i64 k ∧ sv = .int .i64 (sumTo P k)) (fun _ iv _ => 12 - (intOf iv).toNat)
      case atStart => exact ⟨rfl, 0, by omega, rfl, by simp [sumTo]⟩
      case round =>
        obtain ⟨rfl, k, hk, rfl, rfl⟩ := hrel
        by_cases hlt : k < 12
        · have hkP : k < P.length := by have := HP1.out; omega
          have q0 := (HOWN.out.cells intEnc2_ok k 0 _ hkP rfl).1
          simp only [Nat.mul_one, Nat.add_zero] at q0
          have k0 : (0 : Int) ≤ (k : Int) := by omega
          have k1 : (k : Int) < 12 := by omega
          have hlo := HLOW.out k (by omega)
          have hpv := HP2.out k
          rw [getD_at hkP] at hpv
          have HNX := hide (sumTo_succ P k hkP)
          obtain ⟨pv, hpe⟩ : ∃ pv, pv = P[k] := ⟨_, rfl⟩
          rw [← hpe] at q0 hpv HNX
          obtain ⟨sv, hse⟩ : ∃ sv, sv = sumTo P k := ⟨_, rfl⟩
          rw [← hse] at hlo HNX ⊢
          have s0 : 0 ≤ sv := hlo.1
          have s1 : sv ≤ 12000 := by omega
          have v0 : 0 ≤ pv := hpv.1
          have v1 : pv ≤ 1000 := hpv.2
          clear hpe hse hlo hpv
          go_wp2_with fail
          go_roundw
          case rel => exact ⟨by first | rfl | trivial, k + 1, by omega, by go_num, by rw [HNX.out]⟩
          case measure => simp [intOf]; omega
        · have hk12 : k = P.length := by have := HP1.out; omega
          have hsum : sumTo P k = 1000 := by
            rw [hk12]
            have := HP3.out
            unfold sumTo
            rw [List.take_length]; exact this
          rw [hsum]
          clear hsum hk12 HLOW HP1 HP2 HP3 HOWN
          go_wp2_with fail
          clear hlt hk
          go_loopw [18, 19] (fun sv iv wr => ∃ i : Nat, i ≤ bn ∧ iv = .int .i64 i ∧ Own wr w3.heap.size 33 4 balEnc sv (eurTo b i) ∧ Below w3.heap.size w3 wr) (fun _ iv _ => bn - (intOf iv).toNat)
          case atStart => exact ⟨0, by omega, rfl, Own.nil _ _ _ _ _, Below.refl _ _⟩
          case round =>
            obtain ⟨i, hi, rfl, hown, hbr⟩ := hrel
            have hbw := bthen hb3 (Nat.le_refl _) hbr
            have hsr := hbr.size
            have hlen := eurTo_len b i
            by_cases hlt : i < bn
            · have hil : i < b.length := by have := Hb.out; omega
              obtain ⟨bb, boff, rfl, hcs⟩ := (Rd.below hb hbw).2 (by omega)
              have q0 := hcs i 0 _ hil rfl
              have q1 := hcs i 1 _ hil rfl
              have q2 := hcs i 2 _ hil rfl
              have q3 := hcs i 3 _ hil rfl
              rw [Nat.add_zero] at q0
              clear hcs
              have i0' : (0 : Int) ≤ (i : Int) := by omega
              have i1' : (i : Int) < (bn : Int) := by omega
              cases e2 : (b[i].cur.toList == [69, 85, 82]) with
              | true =>
                have HS := hide (eurTo_yes hil ((isEur_atG b[i]).trans e2))
                go_wp2_with (first | (at_builtin; go_loud (refine wpList_push _ rfl _ _ 24 rfl w3.heap.size 33 i0 zeroBalG 4 48 Tryz.underlying24 hi0 hz0 hz1 hz2 rfl (by decide) balEnc_ok _ (eurTo b i) rfl (hown.alloc _) _ 1 1 [b[i]] rfl (Rd.boxedR _ balEnc_ok b[i] _ _ rfl _ (by simp)) (by intro h; cases h) (by unfold maxLen; omega) (by omega) (by simp; omega) ?_); intro v2 w4 hown2 hg2 hat2; have hb2 : Below w3.heap.size w3 w4 := (hbr.alloc hsr _).grown hg2 (by simp; omega) (fun k e => (hown.block k e).1)))
                go_roundw
                case rel => exact ⟨i + 1, by omega, by go_num, by rw [HS.out]; exact hown2, hb2⟩
                case measure => simp [intOf]; omega
              | false =>
                have HS := hide (eurTo_no hil ((isEur_atG b[i]).trans e2))
                go_wp2_with fail
                go_roundw
                case rel => exact ⟨i + 1, by omega, by go_num, by rw [HS.out]; exact hown, hbr⟩
                case measure => simp [intOf]; omega
            · have hE := eurs_of b i
              have hSok := eurTo_ok hok i
              obtain ⟨S, hS⟩ : ∃ S, S = eurTo b i := ⟨_, rfl⟩
              rw [← hS] at hown hE hSok hlen
              clear hS
              obtain ⟨SA, sc, rfl, hsl, hsc⟩ := hown.form
              have hrd := hown.rd balEnc_ok
              have hSl : S.length ≤ 9223372036854775807 := by omega
              go_wp2_with fail
              refine (whole_eur c CA cn ccap S _ _ _ top _ hcl hcc (hc.below hbw) hcok HT.out hSl hrd hE hSok).mono ?_
              rintro e w5 ⟨v5, y5, rfl, hownV, hownY, hb5⟩
              have hbw5 := bthen hbw (Nat.le_refl _) hb5
              have hrd5 := hrd.below hb5
              by_cases hst : stE c S top eur = 0
              · have HST := hide hst
                rw [show errV (stE c S top eur) = .nilIface from errV_0 hst]
                have hy : wholeY c S top = List.replicate c.length 0 := if_pos hst
                rw [hy] at hownY
                obtain ⟨YA, yc, rfl, hyl, hym⟩ := hownY.form
                obtain ⟨VA, vc, rfl, hvl, hvm⟩ := hownV.form
                have hyr := hownY.rd intEnc2_ok
                have hvr := hownV.rd intEnc2_ok
                rw [List.length_replicate] at hyr hyl ⊢
                clear hst hy
                have hLen : (stL c S top eur).length ≤ 9223372036854775807 := by unfold maxLen at hvm; omega
                obtain ⟨LL, hLL⟩ : ∃ LL, LL = stL c S top eur := ⟨_, rfl⟩
                have HLL := hide hLL
                rw [← hLL] at hvr hvl hLen ⊢
                have hown6b : Hid (∀ W, Below w5.heap.size w5 W → Rd W 1 intEnc2 VA LL.length LL) := fun W hW => hvr.below hW
                have hyb : Hid (∀ W, Below w5.heap.size w5 W → Rd W 1 intEnc2 YA c.length (List.replicate c.length 0)) := fun W hW => hyr.below hW
                clear hLL hownV hownY hvl hvm hyl hym hvr hyr hsl hsc hown hrd
                have hcb5 := hc.below hbw5
                go_wp2_with fail
                refine (statement_any c CA cn ccap S _ _ _ top eur _ hcl hcc hcb5 hcok hSl hrd5).mono ?_
                rintro e w6 ⟨v6, rfl, hown6, hb6⟩
                rw [show errV (stE c S top eur) = .nilIface from errV_0 HST.out]
                rw [← HLL.out] at hown6
                obtain ⟨ZA, zc, rfl, hzl, hzm⟩ := hown6.form
                have hzr := hown6.rd intEnc2_ok
                have hbw6 := bthen hbw5 (Nat.le_refl _) hb6
                have hyr6 := hyb.out _ hb6
                have hvr6 := hown6b.out _ hb6
                clear hown6 hzl hzm hyb hown6b
                obtain ⟨cl, hclE⟩ : ∃ cl, cl = c.length := ⟨_, rfl⟩
                rw [← hclE] at hyr6 ⊢
                have hcl2 : cl ≤ 9223372036854775807 := by rw [hclE, hc.1]; exact hcl
                clear hclE
                go_wp2_with fail
                go_loopw [24] (fun iv wr => w6 = wr ∧ ∃ k : Nat, k ≤ cl ∧ iv = .int .i64 k) (fun iv _ => cl - (intOf iv).toNat)
                case atStart => exact ⟨rfl, 0, by omega, rfl⟩
                case round =>
                  obtain ⟨rfl, k, hk, rfl⟩ := hrel
                  by_cases hkl : k < cl
                  · obtain ⟨yb, yo, rfl, hcs⟩ := hyr6.2 (by omega)
                    have q0 := hcs k 0 (.int .i64 0) (by simpa using hkl) (by simp [intEnc2])
                    simp only [Nat.mul_one, Nat.add_zero] at q0
                    clear hcs
                    have k0 : (0 : Int) ≤ (k : Int) := by omega
                    have k1 : (k : Int) < (cl : Int) := by omega
                    go_wp2_with fail
                    go_roundw
                    case rel => exact ⟨by first | rfl | trivial, k + 1, by omega, by go_num⟩
                    case measure => simp [intOf]; omega
                  · go_wp2_with fail
                    refine (ints_same LL VA ZA LL.length vc zc _ hvr6 hzr hLen).mono ?_
                    rintro e w7 ⟨rfl, hb7⟩
                    go_wp2_with fail
                    go_ret
                    exact ⟨rfl, bthen hbw6 (Nat.le_refl _) hb7⟩
              · have HST := hide hst
                rw [errV_n hst]
                clear hst hownV hownY
                have hcb5 := hc.below hbw5
                go_wp2_with fail
                refine (statement_any c CA cn ccap S _ _ _ top eur _ hcl hcc hcb5 hcok hSl hrd5).mono ?_
                rintro e w6 ⟨v6, rfl, hown6, hb6⟩
                rw [errV_n HST.out]
                have hbw6 := bthen hbw5 (Nat.le_refl _) hb6
                clear hown6
                go_wp2_with fail
                go_quiet (fail)
                go_wp2_with fail
                go_ret
                exact ⟨rfl, bdrewN hbw6 _⟩
end Go.Proofs.YtggmbjdonlbfkaaGreatDoorBesafter
