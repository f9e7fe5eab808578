/- daylaw3.AllotGives returns true. -/
import Derived.Test.YtbdbpcllndajgaaGreatDoorPlsB
import Derived.Test.YtbdbpcllndajgaaGreatDoorAloX
import Derived.Test.YtbdbpcllndajgaaGreatDoorSamA
import Derived.Test.YtbdbpcllndajgaaGreatDoorLaidX
namespace Go.Proofs.YtbdbpcllndajgaaGreatDoor
open Go Go.RowKit
set_option linter.unusedVariables false

theorem itoa_natL (k : Nat) : (⟨(Lib.itoa (k : Int)).toArray⟩ : ByteArray) = ⟨(Lib.decDigits k).toArray⟩ := by
  unfold Lib.itoa
  rw [if_neg (by omega), Int.toNat_natCast]
theorem entriesG_pack (c : List Acc) (CA : Option Addr) (cn ccap : Nat) (l : List Pol) (A : Option Addr) (n cap : Nat) (b : List Bal) (BA : Option Addr) (bn bcap : Nat) (ent per : Int) (dg : Nat → ByteArray) (w : World)
    (hcl : cn ≤ 9223372036854775807) (hcc : cn ≤ ccap) (hc : Accs w CA cn c) (hcok : AccOk c) (hl : n ≤ cap) (hcap : cap ≤ maxLen) (ha : Rd w 4 Pol.enc A n l) (hok : ∀ p ∈ l, PolFits w p) (hbl : bn ≤ 9223372036854775807) (hb : Rd w 4 balEnc BA bn b) (hdg : ∀ k, k < 20 → (dg k).size ≤ 21)
    (HIt : Hid (∀ k : Nat, k < 20 → ∀ W : World, Below w.heap.size w W → Calls Tryz.prog 26 #[.int .i64 k] W fun e w' => e = .returned (.string (dg k)) ∧ Below W.heap.size W w')) :
    Calls Tryz.prog 8 #[.slice CA cn ccap, .slice A n cap, .slice BA bn bcap, .int .i64 ent, .int .i64 per] w fun e w' =>
      (∃ v es, e = .returned (.tuple #[v, errV (allotE c l b ent per)]) ∧ Pack w' w.heap.size v es ∧ (allotE c l b ent per = 0 → GaveR l b ent per dg n (es.map Ent.core)) ∧ (allotE c l b ent per ≠ 0 → es = [])) ∧ Below w.heap.size w w' := by
  refine (allotEntries_any c CA cn ccap l A n cap b BA bn bcap ent per dg w hcl hcc hc hcok hl hcap ha hok hbl hb hdg HIt).mono ?_
  rintro e w' ⟨⟨h, rfl⟩ | ⟨h, v, es, rfl, hpk, hg⟩, hb'⟩
  · exact ⟨⟨_, [], rfl, Pack.nil _ _, fun h0 => absurd h0 h, fun _ => rfl⟩, hb'⟩
  · exact ⟨⟨v, es, by rw [errV_0 h], hpk, fun _ => hg.ref (allotE_0 h).1, fun h0 => absurd h h0⟩, hb'⟩
theorem refAllot_pack (c : List Acc) (CA : Option Addr) (cn ccap : Nat) (l : List Pol) (A : Option Addr) (n cap : Nat) (b : List Bal) (BA : Option Addr) (bn bcap : Nat) (ent per : Int) (dg : Nat → ByteArray) (w : World)
    (hcl : cn ≤ 9223372036854775807) (hcc : cn ≤ ccap) (hc : Accs w CA cn c) (hcok : AccOk c) (hl : n ≤ 9223372036854775807) (ha : Rd w 4 Pol.enc A n l) (hok : ∀ p ∈ l, PolFits w p) (hbl : bn ≤ 9223372036854775807) (hb : Rd w 4 balEnc BA bn b) (hdg : ∀ k, k < 20 → (dg k).size ≤ 21) (hdd : ∀ k, k < 20 → dg k = ⟨(Lib.decDigits k).toArray⟩) :
    Calls Tryz.prog 7 #[.slice CA cn ccap, .slice A n cap, .slice BA bn bcap, .int .i64 ent, .int .i64 per] w fun e w' =>
      (∃ v es, e = .returned (.tuple #[v, .int .i64 (allotE c l b ent per)]) ∧ Pack w' w.heap.size v es ∧ (allotE c l b ent per = 0 → GaveR l b ent per dg n (es.map Ent.core)) ∧ (allotE c l b ent per ≠ 0 → es = [])) ∧ Below w.heap.size w w' := by
  refine (refAllot_any c CA cn ccap l A n cap b BA bn bcap ent per dg w hcl hcc hc hcok hl ha hok hbl hb hdg hdd).mono ?_
  rintro e w' ⟨⟨h, rfl⟩ | ⟨h, v, es, rfl, hpk, hg⟩, hb'⟩
  · exact ⟨⟨_, [], rfl, Pack.nil _ _, fun h0 => absurd h0 h, fun _ => rfl⟩, hb'⟩
  · exact ⟨⟨v, es, by rw [h], hpk, fun _ => hg, fun h0 => absurd h h0⟩, hb'⟩

set_option maxHeartbeats 4000000 in
set_option maxRecDepth 100000 in
theorem allotGives_any (c : List Acc) (CA : Option Addr) (cn ccap : Nat) (l : List Pol) (A : Option Addr) (n cap : Nat) (b : List Bal) (BA : Option Addr) (bn bcap : Nat) (ent per : Int) (dg : Nat → ByteArray) (w : World) (hg : ErrTy w)
    (hcc : cn ≤ ccap) (hcm : ccap ≤ maxLen) (hc : Accs w CA cn c) (hcok : AccOk c) (hl : n ≤ cap) (hcap : cap ≤ maxLen) (ha : Rd w 4 Pol.enc A n l) (hok : ∀ p ∈ l, PolFits w p) (hbc : bn ≤ bcap) (hbm : bcap ≤ maxLen) (hb : Rd w 4 balEnc BA bn b) (hdg : ∀ k, k < 20 → (dg k).size ≤ 21) (hdd : ∀ k, k < 20 → dg k = ⟨(Lib.decDigits k).toArray⟩)
    (HIt : Hid (∀ k : Nat, k < 20 → ∀ W : World, Below w.heap.size w W → Calls Tryz.prog 26 #[.int .i64 k] W fun e w' => e = .returned (.string (dg k)) ∧ Below W.heap.size W w')) :
    Calls Tryz.prog 3 #[.slice CA cn ccap, .slice A n cap, .slice BA bn bcap, .int .i64 ent, .int .i64 per] w fun e w' => e = .returned (.bool true) ∧ Below w.heap.size w w' := by
  have hcl : cn ≤ 9223372036854775807 := by unfold maxLen at hcm; omega
  have hbl : bn ≤ 9223372036854775807 := by unfold maxLen at hbm; omega
  have hn9 : n ≤ 9223372036854775807 := by unfold maxLen at hcap; omega
  obtain ⟨p0, p1⟩ := poolsE_range c l
  obtain ⟨a0, a1⟩ := allotE_range c l b ent per
  have HR := hide (And.intro p0 (And.intro p1 (And.intro a0 a1)))
  clear p0 p1 a0 a1
  go_enter Tryz.func3, Tryz.ntmps3
  go_wp2_with fail
  refine (poolsCheck_any c _ _ _ l _ _ _ _ hcl hcc hc hcok hl hcap ha hok).mono ?_
  rintro e w1 ⟨rfl, hb1⟩
  go_wp2_with fail
  refine (refPools_any c _ _ _ l _ _ _ _ hcl hcc (hc.below hb1) hcok hn9 (Rd.below ha hb1) (fun p hp => (hok p hp).below hb1)).mono ?_
  rintro e w2 ⟨rfl, hb2⟩
  have hb2 := bthen hb1 (Nat.le_refl _) hb2
  go_wp2_with fail
  refine (error_any (poolsE c l) (poolsE c l) _ (hg.below hb2) HR.out.1 HR.out.2.1).mono ?_
  rintro e w3 ⟨rfl, hb3⟩
  have hb3 := bthen hb2 (Nat.le_refl _) hb3
  go_wp2_with fail
  refine (refAllot_pack c _ _ _ l _ _ _ b _ _ _ ent per dg _ hcl hcc (hc.below hb3) hcok hn9 (Rd.below ha hb3) (fun p hp => (hok p hp).below hb3) hbl (Rd.below hb hb3) hdg hdd).mono ?_
  rintro e w4 ⟨⟨v1, es1, rfl, hpk1, hes1, hno1⟩, hb4⟩
  have hb4 := bthen hb3 (Nat.le_refl _) hb4
  obtain ⟨V1, c1, rfl, hc1, hm1⟩ := hpk1.own.form
  go_wp2_with fail
  refine (entriesG_pack c _ _ _ l _ _ _ b _ _ _ ent per dg _ hcl hcc (hc.below hb4) hcok hl hcap (Rd.below ha hb4) (fun p hp => (hok p hp).below hb4) hbl (Rd.below hb hb4) hdg (hide (fun k hk W' h' => HIt.out k hk W' (bthen hb4 (Nat.le_refl _) h')))).mono ?_
  rintro e w5 ⟨⟨v2, es2, rfl, hpk2, hes2, hno2⟩, hb5⟩
  have hpk1 := hpk1.below hb5
  have hb5 := bthen hb4 (Nat.le_refl _) hb5
  obtain ⟨V2, c2, rfl, hc2, hm2⟩ := hpk2.own.form
  have hss : SameE es2 es1 := by
    by_cases h : allotE c l b ent per = 0
    · exact (hes2 h).same (hes1 h)
    · rw [hno1 h, hno2 h]; rfl
  have hlen := hss.len
  have HSS := hide hss
  clear hss hes1 hes2 hno1 hno2
  go_wp2_with fail
  refine (error_any (allotE c l b ent per) (allotE c l b ent per) _ (hg.below hb5) HR.out.2.2.1 HR.out.2.2.2).mono ?_
  rintro e w6 ⟨rfl, hb6⟩
  have hpk1 := hpk1.below hb6
  have hpk2 := hpk2.below hb6
  have hb6 := bthen hb5 (Nat.le_refl _) hb6
  go_wp2_with fail
  have hA1 := hpk1.own.rd entEnc_okA
  have hA2 := hpk2.own.rd entEnc_okA
  have hL1 := fun e he => (hpk1.all e he).imp id fun h => h.1
  have hL2 := fun e he => (hpk2.all e he).imp id fun h => h.1
  rw [← hlen] at hA1 ⊢
  refine (ents_same es2 es1 _ _ _ _ _ _ (by unfold maxLen at hm2; omega) hA2 hA1 hL2 hL1 HSS.out).mono ?_
  rintro e w7 ⟨rfl, hb7⟩
  have hb7 := bthen hb6 (Nat.le_refl _) hb7
  clear hpk1 hpk2 hA1 hA2 hL1 hL2
  go_wp2_with fail
  go_ret
  exact ⟨by first | rfl | simp, hb7⟩
end Go.Proofs.YtbdbpcllndajgaaGreatDoor
