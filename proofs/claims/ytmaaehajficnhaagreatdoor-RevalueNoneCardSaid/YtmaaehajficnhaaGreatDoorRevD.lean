/- daylaw5.RevalueNone returns true. -/
import Derived.Test.YtmaaehajficnhaaGreatDoorRevC
import Derived.Deep.QuietTactic
import Derived.BigQuiet
namespace Go.Proofs.YtmaaehajficnhaaGreatDoor
open Go Go.RowKit
set_option linter.unusedVariables false

def zeroBalR : Value := .agg #[.int .i64 0, .string ⟨#[]⟩, .string ⟨#[]⟩, .int .i64 0]
theorem bal_infoR : (Tryz.prog.info? 30).map (fun i => (i.zero, i.size, i.bytes)) = some (some zeroBalR, 4, 48) := by kernel_rfl
theorem isEur_at (x : Bal) : isEur x = (x.cur.toList == [69, 85, 82]) := by
  unfold isEur
  rw [show eur.toList = [69, 85, 82] from by rw [ByteArray.toList_eq]; rfl]
def factR : List Bal := [⟨1, ⟨#[49, 48]⟩, eur, 8⟩]
theorem factR_eur : Eurs factR := by
  intro k hk
  have : k = 0 := by simp [factR] at hk; omega
  subst this; rfl
theorem factR_ok : BalsOk factR := by
  intro x hx
  obtain rfl := List.mem_singleton.1 hx
  refine ⟨⟨?_, ?_⟩, ?_, ?_, ?_, ?_⟩ <;> decide
theorem factR_worth : worthE factR 1 1 = 0 := by decide +kernel
theorem factR_list : worthTo 1 factR 1 = [8] := by decide +kernel
/-- the law's own balance is worth what it is -/
theorem fact_any (A : Option Addr) (w : World) (ha : Rd w 4 balEnc A 1 factR) :
    Calls Tryz.prog 4 #[.slice none 0 0, .string eur, .slice A 1 1, .int .i64 1, .int .i64 1] w fun e w' => ∃ b off c, e = .returned (.tuple #[.slice (some ⟨b, off, none⟩) 1 c, .nilIface]) ∧ w'.cell? ⟨b, off, none⟩ = some (.int .i64 8) ∧ Below w.heap.size w w' := by
  refine (worth_any factR A 1 1 1 1 w (by omega) ha factR_eur factR_ok).mono ?_
  rintro e w' ⟨hb, ⟨_, v, he, hown⟩ | ⟨k, hk, h0, _⟩⟩
  · rw [factR_list] at hown
    obtain ⟨A', c, rfl, _, _⟩ := hown.form
    obtain ⟨b, off, rfl, hc⟩ := (hown.rd intEnc2_ok).2 (by decide)
    exact ⟨b, off, c, he, by have := hc 0 0 (.int .i64 8) (by decide) rfl; simpa using this, hb⟩
  · rw [factR_worth] at hk; exact absurd hk.symm h0

set_option maxHeartbeats 4000000 in
set_option maxRecDepth 100000 in
theorem revnone_any (c : List Acc) (CA : Option Addr) (cn ccap : Nat) (l : List Bal) (A : Option Addr) (n cap : Nat) (ent per : Int) (w : World) (hcc : cn ≤ ccap) (hcm : ccap ≤ maxLen) (hc : Accs w CA cn c) (hcok : AccOk c)
    (hnc : n ≤ cap) (hcapm : cap ≤ maxLen) (ha : Rd w 4 balEnc A n l) (hok : BalsOk l) (hn48 : n ≤ 2932031007402) :
    Calls Tryz.prog 3 #[.slice CA cn ccap, .slice A n cap, .int .i64 ent, .int .i64 per] w fun e w' => e = .returned (.bool true) ∧ Below w.heap.size w w' := by
  obtain ⟨i0, hi0, hz0, hz1, hz2⟩ := info_parts bal_infoR
  have Hn := hide ha.1
  go_enter Tryz.func3, Tryz.ntmps3
  go_wp2_with fail
  refine Calls.mono (fact_any _ _ ?hA) ?_
  case hA => exact Rd.lit w balEnc_ok factR 1 rfl _ _ rfl
  rintro e w1 ⟨fb, fo, fc, rfl, hf, hb1⟩
  have hb1 := bof_alloc hb1
  go_wp2_with fail
  go_loopw [11, 12] (fun sv iv wr => ∃ i : Nat, i ≤ n ∧ iv = .int .i64 i ∧ Own wr w1.heap.size 30 4 balEnc sv (eurTo l i) ∧ Below w1.heap.size w1 wr) (fun _ iv _ => n - (intOf iv).toNat)
  case atStart => exact ⟨0, by omega, rfl, Own.nil _ _ _ _ _, Below.refl _ _⟩
  case round =>
    obtain ⟨i, hi, rfl, hown, hbr⟩ := hrel
    have hbw := bthen hb1 (Nat.le_refl _) hbr
    have hsr := hbr.size
    have hlen := eurTo_len l i
    by_cases hlt : i < n
    · have hil : i < l.length := by have := Hn.out; omega
      obtain ⟨b, off, rfl, hcs⟩ := (Rd.below ha hbw).2 (by omega)
      have q0 := hcs i 0 _ hil rfl
      have q1 := hcs i 1 _ hil rfl
      have q2 := hcs i 2 _ hil rfl
      have q3 := hcs i 3 _ hil rfl
      rw [Nat.add_zero] at q0
      clear hcs
      have i0' : (0 : Int) ≤ (i : Int) := by omega
      have i1' : (i : Int) < (n : Int) := by omega
      cases e2 : (l[i].cur.toList == [69, 85, 82]) with
      | true =>
        have HS := hide (eurTo_yes hil ((isEur_at l[i]).trans e2))
        go_wp2_with (first | (at_builtin; go_loud (refine wpList_push _ rfl _ _ 23 rfl w1.heap.size 30 i0 zeroBalR 4 48 Tryz.underlying23 hi0 hz0 hz1 hz2 rfl (by decide) balEnc_ok _ (eurTo l i) rfl (hown.alloc _) _ 1 1 [l[i]] rfl (Rd.boxedR _ balEnc_ok l[i] _ _ rfl _ (by simp)) (by intro h; cases h) (by unfold maxLen; omega) (by omega) (by simp; omega) ?_); intro v2 w2 hown2 hg2 hat2; have hb2 : Below w1.heap.size w1 w2 := (hbr.alloc hsr _).grown hg2 (by simp; omega) (fun k e => (hown.block k e).1)))
        go_roundw
        case rel => exact ⟨i + 1, by omega, by go_num, by rw [HS.out]; exact hown2, hb2⟩
        case measure => simp [intOf]; omega
      | false =>
        have HS := hide (eurTo_no hil ((isEur_at l[i]).trans e2))
        go_wp2_with fail
        go_roundw
        case rel => exact ⟨i + 1, by omega, by go_num, by rw [HS.out]; exact hown, hbr⟩
        case measure => simp [intOf]; omega
    · have hE := eurs_of l i
      have hSok := eurTo_ok hok i
      obtain ⟨S, hS⟩ : ∃ S, S = eurTo l i := ⟨_, rfl⟩
      rw [← hS] at hown hE hSok hlen
      clear hS
      obtain ⟨SA, sc, rfl, hsl, hsc⟩ := hown.form
      have hrd := hown.rd balEnc_ok
      have hSl : S.length ≤ 9223372036854775807 := by omega
      go_wp2_with fail
      refine (worth_any S _ _ _ ent per _ hSl hrd hE hSok).mono ?_
      rintro e w4 ⟨hb4, hcase⟩
      have hb14 := bthen hbw (Nat.le_refl _) hb4
      have hrd4 := hrd.below hb4
      have hcl : cn ≤ 9223372036854775807 := by unfold maxLen at hcm; omega
      rcases hcase with ⟨HW, v, rfl, hownW⟩ | ⟨k, HW, hk, rfl⟩
      · have hWl := worthTo_len ent S S.length (Nat.le_refl _)
        obtain ⟨WA, wc, rfl, hwl, hwm⟩ := hownW.form
        have hrw := hownW.rd intEnc2_ok
        rw [hWl] at hrw ⊢
        go_wp2_with fail
        go_loopw [15] (fun iv wr => ∃ k : Nat, k ≤ S.length ∧ iv = .int .i64 k ∧ Below w.heap.size w wr ∧ Below w4.heap.size w4 wr) (fun iv _ => S.length - (intOf iv).toNat)
        case atStart => exact ⟨0, by omega, rfl, hb14, Below.refl _ _⟩
        case round =>
          obtain ⟨k, hk, rfl, hbk, hbk4⟩ := hrel
          by_cases hkl : k < S.length
          · obtain ⟨b, off, rfl, hcs⟩ := (Rd.below hrd4 hbk4).2 (by omega)
            have q0 := hcs k 0 _ hkl rfl
            have q3 := hcs k 3 _ hkl rfl
            rw [Nat.add_zero] at q0
            clear hcs
            obtain ⟨b2, off2, rfl, hcs⟩ := (Rd.below hrw hbk4).2 (by omega)
            have p0 := hcs k 0 _ (by rw [hWl]; exact hkl) rfl
            rw [Nat.mul_one, Nat.add_zero, worthTo_at _ hkl] at p0
            clear hcs
            have k0 : (0 : Int) ≤ (k : Int) := by omega
            have k1 : (k : Int) < (S.length : Int) := by omega
            (try clear hcm); (try clear hc); (try clear hcok); (try clear hcl); (try clear hcc); (try clear ha); (try clear hok); (try clear hn48); (try clear hnc); (try clear hcapm); (try clear Hn); (try clear hSok); (try clear hE); (try clear hownW); (try clear hrw); (try clear hrd4); (try clear hrd); (try clear hown); (try clear hb14); (try clear hb4); (try clear hbw); (try clear hb1); (try clear hbr); (try clear hsr); (try clear hlen); (try clear hWl); (try clear hwl); (try clear hwm); (try clear hsl); (try clear hsc); (try clear HW); (try clear hf); (try clear hi0); (try clear hz0); (try clear hz1); (try clear hz2); (try clear hlt); (try clear hi)
            cases e0 : (S[k].ent == ent) with
            | true =>
              have HV : worthOf ent S[k] = S[k].amt := if_pos (by simpa using e0)
              rw [HV] at p0
              clear HV
              have hne : (S[k].amt != S[k].amt) = false := by simp
              have hen : (S[k].ent != ent) = false := by rw [bne, e0]; rfl
              go_wp2_with fail
              go_quiet (fail)
              go_wp2_with fail
              go_roundw
              case rel => exact ⟨k + 1, by omega, by go_num, bdrewN hbk _, bdrewN hbk4 _⟩
              case measure => simp [intOf]; omega
            | false =>
              have HV : worthOf ent S[k] = 0 := if_neg (by simpa using e0)
              rw [HV] at p0
              clear HV
              have hen : (S[k].ent != ent) = true := by rw [bne, e0]; rfl
              go_wp2_with fail
              go_quiet (fail)
              go_wp2_with fail
              go_roundw
              case rel => exact ⟨k + 1, by omega, by go_num, bdrewN hbk _, bdrewN hbk4 _⟩
              case measure => simp [intOf]; omega
          · go_wp2_with fail
            refine (entries_none c _ _ _ S _ _ _ ent per _ hcl hcc (hc.below hbk) hcok hSl (hrd4.below hbk4) hE hSok).mono ?_
            rintro e w6 ⟨⟨EV, rfl, rfl | ⟨z, rfl⟩⟩, hb6⟩
            · go_wp2_with fail
              go_ret
              exact ⟨rfl, bthen hbk (Nat.le_refl _) hb6⟩
            · go_wp2_with fail
              go_ret
              exact ⟨rfl, bthen hbk (Nat.le_refl _) hb6⟩
      · go_wp2_with fail
        go_loopw [15] (fun iv wr => iv = .int .i64 0 ∧ wr = w4) (fun iv _ => 0)
        case atStart => exact ⟨rfl, rfl⟩
        case round =>
          obtain ⟨rfl, rfl⟩ := hrel
          go_wp2_with fail
          refine (entries_none c _ _ _ S _ _ _ ent per _ hcl hcc (hc.below hb14) hcok hSl hrd4 hE hSok).mono ?_
          rintro e w6 ⟨⟨EV, rfl, rfl | ⟨z, rfl⟩⟩, hb6⟩
          · go_wp2_with fail
            go_ret
            exact ⟨rfl, bthen hb14 (Nat.le_refl _) hb6⟩
          · go_wp2_with fail
            go_ret
            exact ⟨rfl, bthen hb14 (Nat.le_refl _) hb6⟩
end Go.Proofs.YtmaaehajficnhaaGreatDoor
