/- accrue.Part: what it returns, whatever the plan and the period. -/
import Derived.Test.YtfkhcdcmcplfoaaGreatDoorAcrX
import Derived.Test.YtfkhcdcmcplfoaaGreatDoorApX
import Derived.Test.YtfkhcdcmcplfoaaGreatDoorSamA
import Derived.Test.YtfkhcdcmcplfoaaGreatDoorTold
import Derived.Test.YtfkhcdcmcplfoaaGreatDoorBalP
namespace Go.Proofs.YtfkhcdcmcplfoaaGreatDoor
open Go Go.RowKit
set_option linter.unusedVariables false

set_option maxRecDepth 100000 in
theorem aPart_far (x : Pln) (period : Int) (w : World) (hn : numE x = 0) (hp : inB 1 120 period = false) :
    Calls Tryz.prog 13 #[plnV x, .int .i64 period] w fun e w' => e = .returned (.tuple #[.int .i64 0, .iface 43 (.int .i64 1)]) ∧ Below w.heap.size w w' := by
  have HP := hide hp
  have hb : Below w.heap.size w (w.alloc (.cells #[.string x.ref, .int .i64 x.ent, .string x.fr, .string x.to, .string x.cur, .int .i64 x.amt, .int .i64 x.first, .int .i64 x.per] 37)) := (Below.refl _ _).alloc (Nat.le_refl _) _
  have hX := PlnAt.new w x
  have hev : errV (numE x) = .nilIface := by rw [hn]; rfl
  have HE := hide hev
  clear hp hev hn
  go_enter Tryz.func13, Tryz.ntmps13
  unfold plnV
  go_upto_region 1 with fail
  generalize w.alloc (.cells #[.string x.ref, .int .i64 x.ent, .string x.fr, .string x.to, .string x.cur, .int .i64 x.amt, .int .i64 x.first, .int .i64 x.per] 37) = W1 at hX hb ⊢
  obtain ⟨c0, c1, c2, c3, c4, c5, c6, c7⟩ := hX
  go_wp2_with fail
  refine (numbers_any x _).mono ?_
  rintro e w2 ⟨rfl, hb2⟩
  rw [HE.out]
  have hb2 := bthen hb (Nat.le_refl _) hb2
  go_wp2_with fail
  refine (period_any _ _).mono ?_
  rintro e w3 ⟨rfl, rfl⟩
  rw [HP.out]
  go_wp2_with fail
  go_ret2
  exact ⟨rfl, hb2⟩

/-- what is wrong with the part of a plan in a period -/
def apE (x : Pln) (period : Int) : Int := if numE x ≠ 0 then 1 else if inB 1 120 period = false then 1 else 0
theorem aPart_any (x : Pln) (period : Int) (w : World) :
    Calls Tryz.prog 13 #[plnV x, .int .i64 period] w fun e w' => e = .returned (.tuple #[.int .i64 (if apE x period = 0 then partOf x period else 0), errV (apE x period)]) ∧ Below w.heap.size w w' := by
  by_cases hn : numE x = 0
  · cases hp : inB 1 120 period with
    | false =>
      have he : apE x period = 1 := by unfold apE; rw [if_neg (fun h => h hn), if_pos hp]
      rw [he, if_neg (by decide)]
      exact aPart_far x period w hn hp
    | true =>
      have he : apE x period = 0 := by unfold apE; rw [if_neg (fun h => h hn), if_neg (by rw [hp]; decide)]
      rw [he, if_pos rfl]
      obtain ⟨h0, h1⟩ := inB_iff.1 hp
      exact aPart_ok x period w hn h0 h1
  · have he : apE x period = 1 := by unfold apE; rw [if_pos hn]
    rw [he, if_neg (by decide)]
    exact aPart_bad x period w hn
end Go.Proofs.YtfkhcdcmcplfoaaGreatDoor

namespace Go.Proofs.YtfkhcdcmcplfoaaGreatDoor
open Go Go.RowKit
set_option linter.unusedVariables false

/-- what is wrong with the entries of a period -/
def acE (c : List Acc) (l : List Pln) (ent per : Int) : Int := if plansE c l ≠ 0 then plansE c l else atEA ent per
theorem acE_1 {c : List Acc} {l : List Pln} {ent per : Int} (h : plansE c l ≠ 0) : acE c l ent per = plansE c l := if_pos h
theorem acE_2 {c : List Acc} {l : List Pln} {ent per : Int} (h : plansE c l = 0) : acE c l ent per = atEA ent per := if_neg (fun k => k h)
theorem aEntries_pack (c : List Acc) (CA : Option Addr) (cn ccap : Nat) (l : List Pln) (A : Option Addr) (n cap : Nat) (ent per : Int) (dg : ByteArray) (w : World)
    (hcl : cn ≤ 9223372036854775807) (hcc : cn ≤ ccap) (hc : Accs w CA cn c) (hcok : AccOk c) (hl : n ≤ cap) (hcap : cap ≤ maxLen) (ha : Rd w 8 plnEnc A n l) (hok : PlnsOk l) (hdg : dg.size ≤ 21)
    (HIt : Hid (∀ W : World, Below w.heap.size w W → Calls Tryz.prog 25 #[.int .i64 per] W fun e w' => e = .returned (.string dg) ∧ Below W.heap.size W w')) :
    Calls Tryz.prog 8 #[.slice CA cn ccap, .slice A n cap, .int .i64 ent, .int .i64 per] w fun e w' =>
      (∃ v es, e = .returned (.tuple #[v, errV (acE c l ent per)]) ∧ Pack w' w.heap.size v es ∧ es.map Ent.core = if acE c l ent per = 0 then acoresTo l ent per dg n else []) ∧ Below w.heap.size w w' := by
  refine (aEntries_any c CA cn ccap l A n cap ent per dg w hcl hcc hc hcok hl hcap ha hok hdg HIt).mono ?_
  rintro e w' ⟨⟨hp, rfl⟩ | ⟨hp, ht, rfl⟩ | ⟨hp, ht, v, es, rfl, hpk, hes⟩, hb⟩
  · rw [acE_1 hp, if_neg hp]
    exact ⟨⟨_, [], by rw [errV_n hp], Pack.nil _ _, rfl⟩, hb⟩
  · rw [acE_2 hp, if_neg ht]
    exact ⟨⟨_, [], by rw [errV_n ht], Pack.nil _ _, rfl⟩, hb⟩
  · rw [acE_2 hp, if_pos ht]
    exact ⟨⟨v, es, by rw [errV_0 ht], hpk, hes⟩, hb⟩
theorem refAccrue_pack (c : List Acc) (CA : Option Addr) (cn ccap : Nat) (l : List Pln) (A : Option Addr) (n cap : Nat) (ent per : Int) (dg : ByteArray) (w : World)
    (hcl : cn ≤ 9223372036854775807) (hcc : cn ≤ ccap) (hc : Accs w CA cn c) (hcok : AccOk c) (hl : n ≤ 9223372036854775807) (ha : Rd w 8 plnEnc A n l) (hok : PlnsOk l) (hdg : 1 ≤ per → per ≤ 120 → dg = ⟨(Lib.decDigits per.toNat).toArray⟩) :
    Calls Tryz.prog 7 #[.slice CA cn ccap, .slice A n cap, .int .i64 ent, .int .i64 per] w fun e w' =>
      (∃ v es, e = .returned (.tuple #[v, .int .i64 (acE c l ent per)]) ∧ Pack w' w.heap.size v es ∧ es.map Ent.core = if acE c l ent per = 0 then acoresTo l ent per dg n else []) ∧ Below w.heap.size w w' := by
  refine (refAccrue_any c CA cn ccap l A n cap ent per dg w hcl hcc hc hcok hl ha hok hdg).mono ?_
  rintro e w' ⟨⟨hp, rfl⟩ | ⟨hp, ht, rfl⟩ | ⟨hp, ht, v, es, rfl, hpk, hes⟩, hb⟩
  · rw [acE_1 hp, if_neg hp]
    exact ⟨⟨_, [], rfl, Pack.nil _ _, rfl⟩, hb⟩
  · rw [acE_2 hp, if_neg ht]
    exact ⟨⟨_, [], rfl, Pack.nil _ _, rfl⟩, hb⟩
  · rw [acE_2 hp, if_pos ht]
    exact ⟨⟨v, es, by rw [ht], hpk, hes⟩, hb⟩
end Go.Proofs.YtfkhcdcmcplfoaaGreatDoor

namespace Go.Proofs.YtfkhcdcmcplfoaaGreatDoor
open Go Go.RowKit
set_option linter.unusedVariables false

theorem planE_range (c : List Acc) (al : List Pln) (x : Pln) : 0 ≤ planE c al x ∧ planE c al x ≤ 12 := by
  have h1 := leafE_range c x.fr
  have h2 := leafE_range c x.to
  unfold planE
  repeat' split
  all_goals first | omega | exact h1 | exact h2
theorem planAt_range (c : List Acc) (l : List Pln) (k : Nat) : 0 ≤ planAt c l k ∧ planAt c l k ≤ 12 := by
  unfold planAt
  split
  · omega
  · exact planE_range _ _ _
theorem plansE_range (c : List Acc) (l : List Pln) : 0 ≤ plansE c l ∧ plansE c l ≤ 12 := by
  unfold plansE
  split
  · exact chartE_range c
  · split
    · omega
    · exact firstE_range (planAt_range c l) _
theorem acE_range (c : List Acc) (l : List Pln) (ent per : Int) : 0 ≤ acE c l ent per ∧ acE c l ent per ≤ 12 := by
  unfold acE
  split
  · exact plansE_range c l
  · unfold atEA; split <;> omega

set_option maxHeartbeats 8000000 in
set_option maxRecDepth 100000 in
theorem accruePlans_any (c : List Acc) (CA : Option Addr) (cn ccap : Nat) (l : List Pln) (A : Option Addr) (n cap : Nat) (ent per : Int) (dg : ByteArray) (w : World) (hg : ErrTy w)
    (hcl : cn ≤ 9223372036854775807) (hcc : cn ≤ ccap) (hc : Accs w CA cn c) (hcok : AccOk c) (hl : n ≤ cap) (hcap : cap ≤ maxLen) (ha : Rd w 8 plnEnc A n l) (hok : PlnsOk l) (hdg : dg.size ≤ 21) (hdd : 1 ≤ per → per ≤ 120 → dg = ⟨(Lib.decDigits per.toNat).toArray⟩)
    (HIt : Hid (∀ W : World, Below w.heap.size w W → Calls Tryz.prog 25 #[.int .i64 per] W fun e w' => e = .returned (.string dg) ∧ Below W.heap.size W w')) :
    Calls Tryz.prog 3 #[.slice CA cn ccap, .slice A n cap, .int .i64 ent, .int .i64 per] w fun e w' => e = .returned (.bool true) ∧ Below w.heap.size w w' := by
  have hn9 : n ≤ 9223372036854775807 := by unfold maxLen at hcap; omega
  obtain ⟨p0, p1⟩ := plansE_range c l
  obtain ⟨a0, a1⟩ := acE_range c l ent per
  have HR := hide (And.intro p0 (And.intro p1 (And.intro a0 a1)))
  clear p0 p1 a0 a1
  go_enter Tryz.func3, Tryz.ntmps3
  go_wp2_with fail
  refine (aCheck_any c _ _ _ l _ _ _ _ hcl hcc hc hcok hl hcap ha hok).mono ?_
  rintro e w1 ⟨rfl, hb1⟩
  go_wp2_with fail
  refine (refPlans_any c _ _ _ l _ _ _ _ hcl hcc (hc.below hb1) hcok hn9 (ha.below hb1) hok).mono ?_
  rintro e w2 ⟨rfl, hb2⟩
  have hb2 := bthen hb1 (Nat.le_refl _) hb2
  go_wp2_with fail
  refine (error_any (plansE c l) (plansE c l) _ (hg.below hb2) HR.out.1 HR.out.2.1).mono ?_
  rintro e w3 ⟨rfl, hb3⟩
  have hb3 := bthen hb2 (Nat.le_refl _) hb3
  go_wp2_with fail
  refine (refAccrue_pack c _ _ _ l _ _ _ ent per dg _ hcl hcc (hc.below hb3) hcok hn9 (ha.below hb3) hok hdd).mono ?_
  rintro e w4 ⟨⟨v1, es1, rfl, hpk1, hes1⟩, hb4⟩
  have hb4 := bthen hb3 (Nat.le_refl _) hb4
  obtain ⟨V1, c1, rfl, hc1, hm1⟩ := hpk1.own.form
  go_wp2_with fail
  refine (aEntries_pack c _ _ _ l _ _ _ ent per dg _ hcl hcc (hc.below hb4) hcok hl hcap (ha.below hb4) hok hdg (hide (fun W' h' => HIt.out W' (bthen hb4 (Nat.le_refl _) h')))).mono ?_
  rintro e w5 ⟨⟨v2, es2, rfl, hpk2, hes2⟩, hb5⟩
  have hpk1 := hpk1.below hb5
  have hb5 := bthen hb4 (Nat.le_refl _) hb5
  obtain ⟨V2, c2, rfl, hc2, hm2⟩ := hpk2.own.form
  have hss : SameE es2 es1 := hes2.trans hes1.symm
  have hlen := hss.len
  have HSS := hide hss
  clear hss hes1 hes2
  go_wp2_with fail
  refine (error_any (acE c l ent per) (acE c l ent per) _ (hg.below hb5) HR.out.2.2.1 HR.out.2.2.2).mono ?_
  rintro e w6 ⟨rfl, hb6⟩
  have hpk1 := hpk1.below hb6
  have hpk2 := hpk2.below hb6
  have hb6 := bthen hb5 (Nat.le_refl _) hb6
  go_wp2_with fail
  have hA1 := hpk1.own.rd entEnc_okA
  have hA2 := hpk2.own.rd entEnc_okA
  have hL1 := fun e he => (hpk1.all e he).imp id fun h => h.1
  have hL2 := fun e he => (hpk2.all e he).imp id fun h => h.1
  rw [← hlen] at hA1 ⊢
  refine (ents_same es2 es1 _ _ _ _ _ _ (by unfold maxLen at hm2; omega) hA2 hA1 hL2 hL1 HSS.out).mono ?_
  rintro e w7 ⟨rfl, hb7⟩
  have hb7 := bthen hb6 (Nat.le_refl _) hb7
  clear hpk1 hpk2 hA1 hA2 hL1 hL2
  go_wp2_with fail
  go_loopw [16] (fun iv wr => ∃ k : Nat, k ≤ n ∧ iv = .int .i64 k ∧ Below w.heap.size w wr) (fun iv _ => n - (intOf iv).toNat)
  case atStart => exact ⟨0, by omega, rfl, hb7⟩
  case round =>
    clear hb7
    obtain ⟨k, hk, rfl, hbr⟩ := hrel
    by_cases hlt : k < n
    · have hkl : k < l.length := by have := ha.1; omega
      obtain ⟨b, off, rfl, _⟩ := (Rd.below ha hbr).2 (by omega)
      have HC : Hid (∀ W, Below w.heap.size w W → ∀ (j : Nat) (u : Value), (plnEnc l[k])[j]? = some u → W.cell? ⟨b, off + k * 8 + j, none⟩ = some u) := by
        intro W hW j u hu
        obtain ⟨b2, off2, e2, hcs⟩ := (Rd.below ha hW).2 (by omega)
        cases e2
        exact hcs k j u hkl hu
      have k0 : (0 : Int) ≤ (k : Int) := by omega
      have k1 : (k : Int) < (n : Int) := by omega
      obtain ⟨X, hX⟩ : ∃ X, X = l[k] := ⟨_, rfl⟩
      rw [← hX] at HC
      clear hX
      have q0 := HC.out _ hbr 0 _ rfl
      have q1 := HC.out _ hbr 1 _ rfl
      have q2 := HC.out _ hbr 2 _ rfl
      have q3 := HC.out _ hbr 3 _ rfl
      have q4 := HC.out _ hbr 4 _ rfl
      have q5 := HC.out _ hbr 5 _ rfl
      have q6 := HC.out _ hbr 6 _ rfl
      have q7 := HC.out _ hbr 7 _ rfl
      rw [Nat.add_zero] at q0
      go_wp2_with fail
      refine (refNums_any X _).mono ?_
      rintro e w8 ⟨rfl, hb8⟩
      have hb8 := bthen hbr (Nat.le_refl _) hb8
      clear q0 q1 q2 q3 q4 q5 q6 q7
      by_cases h5 : numE X = 0
      · have HN := hide h5
        rw [h5]
        clear h5
        cases hp : inB 1 120 per with
        | true =>
          obtain ⟨m0, m1⟩ := inB_iff.1 hp
          have HAP : Hid (apE X per = 0) := by show _ = _; unfold apE; rw [if_neg (fun h => h HN.out), if_neg (by rw [hp]; decide)]
          have HP := hide hp
          clear hp
          have r0 := HC.out _ hb8 0 _ rfl
          have r1 := HC.out _ hb8 1 _ rfl
          have r2 := HC.out _ hb8 2 _ rfl
          have r3 := HC.out _ hb8 3 _ rfl
          have r4 := HC.out _ hb8 4 _ rfl
          have r5 := HC.out _ hb8 5 _ rfl
          have r6 := HC.out _ hb8 6 _ rfl
          have r7 := HC.out _ hb8 7 _ rfl
          rw [Nat.add_zero] at r0
          go_wp2_with fail
          refine (refPeriod_any _ _).mono ?_
          rintro e w9 ⟨rfl, rfl⟩
          rw [HP.out]
          go_wp2_with fail
          refine (refPart_any X per _ HN.out m0 m1).mono ?_
          rintro e w9 ⟨rfl, hb9⟩
          have hb9 := bthen hb8 (Nat.le_refl _) hb9
          clear r0 r1 r2 r3 r4 r5 r6 r7
          obtain ⟨nv, hnv⟩ : ∃ nv, nv = partOf X per := ⟨_, rfl⟩
          rw [← hnv]
          have z0 := HC.out _ hb9 0 _ rfl
          have z1 := HC.out _ hb9 1 _ rfl
          have z2 := HC.out _ hb9 2 _ rfl
          have z3 := HC.out _ hb9 3 _ rfl
          have z4 := HC.out _ hb9 4 _ rfl
          have z5 := HC.out _ hb9 5 _ rfl
          have z6 := HC.out _ hb9 6 _ rfl
          have z7 := HC.out _ hb9 7 _ rfl
          rw [Nat.add_zero] at z0
          have HQ := hide (fun W => aPart_any X per W)
          rw [HAP.out] at HQ
          unfold plnV at HQ
          go_wp2_with fail
          refine (HQ.out _).mono ?_
          rintro e wy ⟨rfl, hby⟩
          have hby := bthen hb9 (Nat.le_refl _) hby
          go_wp2_with fail
          refine (error_any 0 0 _ (hg.below hby) (by decide) (by decide)).mono ?_
          rintro e wz ⟨rfl, hbz⟩
          have hbz := bthen hby (Nat.le_refl _) hbz
          go_wp2_with fail
          go_roundw
          case rel => exact ⟨k + 1, by omega, by go_num, hbz⟩
          case measure => simp [intOf]; omega
        | false =>
          have HAP : Hid (apE X per = 1) := by show _ = _; unfold apE; rw [if_neg (fun h => h HN.out), if_pos hp]
          have HP := hide hp
          clear hp
          go_wp2_with fail
          refine (refPeriod_any _ _).mono ?_
          rintro e w9 ⟨rfl, rfl⟩
          rw [HP.out]
          have z0 := HC.out _ hb8 0 _ rfl
          have z1 := HC.out _ hb8 1 _ rfl
          have z2 := HC.out _ hb8 2 _ rfl
          have z3 := HC.out _ hb8 3 _ rfl
          have z4 := HC.out _ hb8 4 _ rfl
          have z5 := HC.out _ hb8 5 _ rfl
          have z6 := HC.out _ hb8 6 _ rfl
          have z7 := HC.out _ hb8 7 _ rfl
          rw [Nat.add_zero] at z0
          have HQ := hide (fun W => aPart_any X per W)
          rw [HAP.out] at HQ
          unfold plnV at HQ
          go_wp2_with fail
          refine (HQ.out _).mono ?_
          rintro e wy ⟨rfl, hby⟩
          have hby := bthen hb8 (Nat.le_refl _) hby
          go_wp2_with fail
          refine (error_any 1 1 _ (hg.below hby) (by decide) (by decide)).mono ?_
          rintro e wz ⟨rfl, hbz⟩
          have hbz := bthen hby (Nat.le_refl _) hbz
          go_wp2_with fail
          go_roundw
          case rel => exact ⟨k + 1, by omega, by go_num, hbz⟩
          case measure => simp [intOf]; omega
      · have HAP : Hid (apE X per = 1) := by show _ = _; unfold apE; rw [if_pos h5]
        have hev : numE X = 1 := by
          rcases numE_01 (x := X) with h | h
          · exact absurd h h5
          · exact h
        rw [hev]
        clear h5 hev
        have z0 := HC.out _ hb8 0 _ rfl
        have z1 := HC.out _ hb8 1 _ rfl
        have z2 := HC.out _ hb8 2 _ rfl
        have z3 := HC.out _ hb8 3 _ rfl
        have z4 := HC.out _ hb8 4 _ rfl
        have z5 := HC.out _ hb8 5 _ rfl
        have z6 := HC.out _ hb8 6 _ rfl
        have z7 := HC.out _ hb8 7 _ rfl
        rw [Nat.add_zero] at z0
        have HQ := hide (fun W => aPart_any X per W)
        rw [HAP.out] at HQ
        unfold plnV at HQ
        go_wp2_with fail
        refine (HQ.out _).mono ?_
        rintro e wy ⟨rfl, hby⟩
        have hby := bthen hb8 (Nat.le_refl _) hby
        go_wp2_with fail
        refine (error_any 1 1 _ (hg.below hby) (by decide) (by decide)).mono ?_
        rintro e wz ⟨rfl, hbz⟩
        have hbz := bthen hby (Nat.le_refl _) hbz
        go_wp2_with fail
        go_roundw
        case rel => exact ⟨k + 1, by omega, by go_num, hbz⟩
        case measure => simp [intOf]; omega
    · have hkn : k = n := by omega
      go_wp2_with fail
      go_ret
      exact ⟨rfl, hbr⟩
end Go.Proofs.YtfkhcdcmcplfoaaGreatDoor
