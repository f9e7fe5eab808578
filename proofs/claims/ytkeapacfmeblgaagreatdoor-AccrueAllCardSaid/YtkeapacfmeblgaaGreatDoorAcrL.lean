/- daylaw3.AccrueAll returns true. -/
import Derived.Test.YtkeapacfmeblgaaGreatDoorAcrC
namespace Go.Proofs.YtkeapacfmeblgaaGreatDoor
open Go Go.RowKit
set_option linter.unusedVariables false

def factP : Pln := ⟨⟨#[]⟩, 0, ⟨#[]⟩, ⟨#[]⟩, ⟨#[]⟩, 10, 1, 4⟩
theorem factP_num : numE factP = 0 := by decide +kernel
theorem factP_part : partOf factP 2 = 3 := by decide +kernel
theorem zero_pack {w : World} {B : Nat} {v : Value} {es : List Ent} (h : Pack w B v es) (h2 : ∀ e, e ∈ es → TwoLine (Ent.core e)) :
    Calls Tryz.prog 6 #[v] w fun e w' => e = .returned (.bool true) ∧ Below w.heap.size w w' := by
  obtain ⟨VA, vc, rfl, hvc, hvm⟩ := h.own.form
  refine zero_any es VA es.length vc w (by unfold maxLen at hvm; omega) (h.own.rd entEnc_okA) (fun e he => ?_) h2
  obtain ⟨h1, h3, _⟩ := h.all e he
  exact ⟨h1, h3⟩
/-- what AccrueAll wants of Entries: entries of two lines, or none and an error -/
theorem aEntries_two (c : List Acc) (CA : Option Addr) (cn ccap : Nat) (l : List Pln) (A : Option Addr) (n cap : Nat) (ent per : Int) (dg : ByteArray) (w : World)
    (hcl : cn ≤ 9223372036854775807) (hcc : cn ≤ ccap) (hc : Accs w CA cn c) (hcok : AccOk c) (hl : n ≤ cap) (hcap : cap ≤ maxLen) (ha : Rd w 8 plnEnc A n l) (hok : PlnsOk l) (hdg : dg.size ≤ 21)
    (HIt : Hid (∀ W : World, Below w.heap.size w W → Calls Tryz.prog 12 #[.int .i64 per] W fun e w' => e = .returned (.string dg) ∧ Below W.heap.size W w')) :
    Calls Tryz.prog 5 #[.slice CA cn ccap, .slice A n cap, .int .i64 ent, .int .i64 per] w fun e w' =>
      (∃ v ev es, e = .returned (.tuple #[v, ev]) ∧ (ev = .nilIface ∨ ∃ z, ev = .iface 37 (.int .i64 z)) ∧ Pack w' w.heap.size v es ∧ ∀ e, e ∈ es → TwoLine (Ent.core e)) ∧ Below w.heap.size w w' := by
  refine (aEntries_any c CA cn ccap l A n cap ent per dg w hcl hcc hc hcok hl hcap ha hok hdg HIt).mono ?_
  rintro e w' ⟨⟨_, rfl⟩ | ⟨_, _, rfl⟩ | ⟨hp, _, v, es, rfl, hpk, hes⟩, hb⟩
  · exact ⟨⟨_, _, [], rfl, .inr ⟨_, rfl⟩, Pack.nil _ _, fun e he => by cases he⟩, hb⟩
  · exact ⟨⟨_, _, [], rfl, .inr ⟨_, rfl⟩, Pack.nil _ _, fun e he => by cases he⟩, hb⟩
  · refine ⟨⟨_, _, es, rfl, .inl rfl, hpk, fun e he => ?_⟩, hb⟩
    refine acoresTo_two (l := l) (ent := ent) (per := per) (dg := dg) (k := n) (fun x hx => ((plansE_0 hp).2.2 x hx).num) _ ?_
    rw [← hes]
    exact List.mem_map.2 ⟨e, he, rfl⟩

set_option maxHeartbeats 8000000 in
set_option maxRecDepth 100000 in
theorem accrueAll_any (x : Pln) (c : List Acc) (CA : Option Addr) (cn ccap : Nat) (l : List Pln) (A : Option Addr) (n cap : Nat) (ent per : Int) (dg : ByteArray) (w : World)
    (hcc : cn ≤ ccap) (hcm : ccap ≤ maxLen) (hc : Accs w CA cn c) (hcok : AccOk c) (hl : n ≤ cap) (hcap : cap ≤ maxLen) (ha : Rd w 8 plnEnc A n l) (hok : PlnsOk l) (hdg : dg.size ≤ 21)
    (HIt : Hid (∀ W : World, Below w.heap.size w W → Calls Tryz.prog 12 #[.int .i64 per] W fun e w' => e = .returned (.string dg) ∧ Below W.heap.size W w')) :
    Calls Tryz.prog 3 #[.agg #[.string x.ref, .int .i64 x.ent, .string x.fr, .string x.to, .string x.cur, .int .i64 x.amt, .int .i64 x.first, .int .i64 x.per], .slice CA cn ccap, .slice A n cap, .int .i64 ent, .int .i64 per] w fun e w' => e = .returned (.bool true) ∧ Below w.heap.size w w' := by
  have hcl : cn ≤ 9223372036854775807 := by unfold maxLen at hcm; omega
  have HEN : Hid (∀ W : World, Below w.heap.size w W → Calls Tryz.prog 5 #[.slice CA cn ccap, .slice A n cap, .int .i64 ent, .int .i64 per] W fun e w' =>
      (∃ v ev es, e = .returned (.tuple #[v, ev]) ∧ (ev = .nilIface ∨ ∃ z, ev = .iface 37 (.int .i64 z)) ∧ Pack w' W.heap.size v es ∧ ∀ e, e ∈ es → TwoLine (Ent.core e)) ∧ Below W.heap.size W w') := fun W hW =>
    aEntries_two c CA cn ccap l A n cap ent per dg W hcl hcc (hc.below hW) hcok hl hcap (ha.below hW) hok hdg (fun W' h' => HIt.out W' (bthen hW (Nat.le_refl _) h'))
  have hb : Below w.heap.size w (w.alloc (.cells #[.string x.ref, .int .i64 x.ent, .string x.fr, .string x.to, .string x.cur, .int .i64 x.amt, .int .i64 x.first, .int .i64 x.per] 23)) := (Below.refl _ _).alloc (Nat.le_refl _) _
  have hX := PlnAt.new w x
  clear hcl hcc hcm hc hcok hl hcap ha hok hdg HIt
  go_enter Tryz.func3, Tryz.ntmps3
  go_upto_region 1 with fail
  obtain ⟨pg, hpg⟩ : ∃ pg, pg = w.heap.size := ⟨_, rfl⟩
  rw [← hpg] at hX ⊢
  generalize w.alloc (.cells #[.string x.ref, .int .i64 x.ent, .string x.fr, .string x.to, .string x.cur, .int .i64 x.amt, .int .i64 x.first, .int .i64 x.per] 23) = W1 at hX hb ⊢
  clear hpg
  go_wp2_with fail
  refine (aPart_ok factP 2 _ factP_num (by omega) (by omega)).mono ?_
  rintro e w1 ⟨rfl, hb1⟩
  have hX1 := hX.below hb1
  have hb1 := bthen hb (Nat.le_refl _) hb1
  rw [factP_part]
  clear hX hb
  go_wp2_with fail
  refine (HEN.out _ hb1).mono ?_
  rintro e w2 ⟨⟨v, ev, es, rfl, hev, hpk, htwo⟩, hb2⟩
  have hX2 := hX1.below hb2
  have hb2 := bthen hb1 (Nat.le_refl _) hb2
  have HEV := hide hev
  clear hX1 hb1 HEN hev
  go_wp2_with fail
  refine (zero_pack hpk htwo).mono ?_
  rintro e w3 ⟨rfl, hb3⟩
  have hX3 := hX2.below hb3
  have hb3 := bthen hb2 (Nat.le_refl _) hb3
  clear hX2 hb2 hpk htwo
  go_upto_region 6 with fail
  go_cut [50] from 45 to 50 (fun s50 wx => s50 = .bool false ∧ wx = w3)
  case first =>
    rcases HEV.out with rfl | ⟨z, rfl⟩
    · go_wp2_with fail
      go_meet
      exact ⟨rfl, rfl⟩
    · go_wp2_with fail
      go_meet
      exact ⟨rfl, rfl⟩
  case rest =>
  obtain ⟨rfl, rfl⟩ := hcut
  have hX0 := hX3
  obtain ⟨c0, c1, c2, c3, c4, c5, c6, c7⟩ := hX3
  go_wp2_with fail
  by_cases hn : numE x = 0
  · obtain ⟨a0, ⟨a1, a2⟩, ⟨p0, p1⟩, f0, f1⟩ := numE_ok hn
    refine (aPart_ok x 1 _ hn (by omega) (by omega)).mono ?_
    rintro e w4 ⟨rfl, hb4⟩
    have hX4 := hX0.below hb4
    have hb4 := bthen hb3 (Nat.le_refl _) hb4
    clear c0 c1 c2 c3 c4 c5 c6 c7 hX0 hb3
    have hX0 := hX4
    obtain ⟨c0, c1, c2, c3, c4, c5, c6, c7⟩ := hX4
    obtain ⟨v1, hv1⟩ : ∃ v1, v1 = partOf x 1 := ⟨_, rfl⟩
    rw [← hv1]
    clear hv1
    by_cases h9 : 120 - x.per < x.first
    · go_wp2_with fail
      go_ret
      exact ⟨rfl, hb4⟩
    · have HNM := hide hn
      obtain ⟨lo, hlo⟩ := parts_near x.amt x.per p0
      have hz := (hlo 0).1
      have hz2 := part_small (a := x.amt) (p := x.per) (k := 0) (by omega) p0 ⟨a1, a2⟩
      have hl1 : -1000000000000001 ≤ lo := by have h1 := hz.2; have h2 := hz2.1; simp only [Int.natCast_zero] at h1; omega
      have hl2 : lo ≤ 1000000000000000 := by have h1 := hz.1; have h2 := hz2.2; simp only [Int.natCast_zero] at h1; omega
      clear hz hz2
      have HLO := hide hlo
      have h9' : x.first + x.per ≤ 120 := by omega
      have HPT : Hid (∀ (k : Nat), (k : Int) < x.per → ∀ W : World, Calls Tryz.prog 4 #[.agg #[.string x.ref, .int .i64 x.ent, .string x.fr, .string x.to, .string x.cur, .int .i64 x.amt, .int .i64 x.first, .int .i64 x.per], .int .i64 (x.first + (k : Int))] W fun e w' => e = .returned (.tuple #[.int .i64 (partI x.amt x.per k), .nilIface]) ∧ Below W.heap.size W w') := by
        intro k hk W
        rw [← partOf_in hk]
        exact aPart_ok x (x.first + k) W hn (by omega) (by omega)
      have HPE : Hid (∀ W : World, Calls Tryz.prog 4 #[.agg #[.string x.ref, .int .i64 x.ent, .string x.fr, .string x.to, .string x.cur, .int .i64 x.amt, .int .i64 x.first, .int .i64 x.per], .int .i64 (x.first + x.per)] W fun e w' => e = .returned (.tuple #[.int .i64 0, .nilIface]) ∧ Below W.heap.size W w') := by
        intro W
        have h := partOf_after (x := x) p0
        have := aPart_ok x (x.first + x.per) W hn (by omega) (by omega)
        rwa [h] at this
      clear hlo hn
      go_upto_region 11 with fail
      go_wp2_with fail
      go_loopw [16, 17, 18, 19] (fun sv lv mv iv wr => ∃ (k : Nat) (s le mo : Int), (k : Int) ≤ x.per ∧ iv = .int .i64 (k : Int) ∧ sv = .int .i64 s ∧ lv = .int .i64 le ∧ mv = .int .i64 mo ∧ s = uptoI x.amt x.per k ∧ (0 < k → (lo ≤ le ∧ le ≤ lo + 1) ∧ lo ≤ mo ∧ mo ≤ lo + 1) ∧ PlnAt wr pg x ∧ Below w.heap.size w wr) (fun _ _ _ iv _ => x.per.toNat - (intOf iv).toNat)
      case atStart => exact ⟨0, 0, 0, 0, by simp only [Int.natCast_zero]; omega, rfl, rfl, rfl, rfl, (upto_zero _ _).symm, fun h => absurd h (by omega), hX0, hb4⟩
      case round =>
        clear c0 c1 c2 c3 c4 c5 c6 c7 hX0 hb4
        obtain ⟨k, s, le, mo, hk, rfl, rfl, rfl, rfl, hs, hlm, hX, hbr⟩ := hrel
        have HS := hide hs
        have HLM := hide hlm
        have hX0 := hX
        obtain ⟨c0, c1, c2, c3, c4, c5, c6, c7⟩ := hX
        have k0 : (0 : Int) ≤ (k : Int) := by omega
        have k120 : (k : Int) ≤ 120 := by omega
        have hsb := upto_bnd x.amt x.per k k0 k120 p0 (by omega)
        rw [← hs] at hsb
        have s0 : -120000000000000000 ≤ s := by omega
        have s1 : s ≤ 120000000000000000 := by omega
        clear hs hlm hsb
        by_cases hlt : (k : Int) < x.per
        · obtain ⟨nv, hnv⟩ : ∃ nv, nv = partI x.amt x.per k := ⟨_, rfl⟩
          have hne := HLO.out k
          have hns := part_small (a := x.amt) (p := x.per) (k := (k : Int)) k0 p0 ⟨a1, a2⟩
          have HP1 := HPT.out k hlt
          rw [← hnv] at hne hns HP1
          obtain ⟨⟨n1, n2⟩, n3, n4⟩ := hne
          obtain ⟨n5, n6⟩ := hns
          have HP2 := hide HP1
          have HNV := hide hnv
          clear HP1 hnv
          go_wp2_with fail
          refine (HP2.out _).mono ?_
          rintro e w5 ⟨rfl, hb5⟩
          have hX5 := hX0.below hb5
          have hb5 := bthen hbr (Nat.le_refl _) hb5
          clear c0 c1 c2 c3 c4 c5 c6 c7 hX0 hbr HP2
          have hX0 := hX5
          have c5 := hX5.c5
          go_upto_region 18 with fail
          go_cut [100] from 81 to 100 (fun s100 wx => s100 = .bool false ∧ wx = w5)
          case first =>
            by_cases hpos : 0 < x.amt
            · have m1 : 0 ≤ nv := n3 hpos
              clear n3 n4
              go_wp2_with fail
              go_meet
              exact ⟨congrArg Value.bool (decide_eq_false (by omega)), rfl⟩
            · have hneg : x.amt < 0 := by omega
              have m1 : nv ≤ 0 := n4 hneg
              clear n3 n4
              go_wp2_with fail
              go_meet
              exact ⟨congrArg Value.bool (decide_eq_false (by omega)), rfl⟩
          case rest =>
          obtain ⟨rfl, rfl⟩ := hcut
          have HN := hide (And.intro n1 n2)
          have HSS : Hid (s + nv = uptoI x.amt x.per (((k + 1 : Nat)) : Int)) := by
            show _ = _
            rw [HS.out, HNV.out, part_step]
            rfl
          clear n3 n4
          by_cases hk0 : k = 0
          · subst hk0
            go_wp2_with fail
            go_roundw
            case rel => exact ⟨1, s + nv, nv, nv, by omega, by go_num, rfl, rfl, rfl, HSS.out, fun _ => ⟨HN.out, HN.out⟩, hX5, hb5⟩
            case measure => simp [intOf]; omega
          · have hkz : ((k : Int) == 0) = false := by rw [beq_eq_false_iff_ne]; omega
            obtain ⟨⟨l1, l2⟩, m1, m2⟩ := HLM.out (by omega)
            by_cases hle : nv < le
            · by_cases hmo : mo < nv
              · omega
              · go_wp2_with fail
                go_roundw
                case rel => exact ⟨k + 1, s + nv, nv, mo, by omega, by go_num, rfl, rfl, rfl, HSS.out, fun _ => ⟨HN.out, m1, m2⟩, hX5, hb5⟩
                case measure => simp [intOf]; omega
            · by_cases hmo : mo < nv
              · go_wp2_with fail
                go_roundw
                case rel => exact ⟨k + 1, s + nv, le, nv, by omega, by go_num, rfl, rfl, rfl, HSS.out, fun _ => ⟨⟨l1, l2⟩, HN.out⟩, hX5, hb5⟩
                case measure => simp [intOf]; omega
              · go_wp2_with fail
                go_roundw
                case rel => exact ⟨k + 1, s + nv, le, mo, by omega, by go_num, rfl, rfl, rfl, HSS.out, fun _ => ⟨⟨l1, l2⟩, m1, m2⟩, hX5, hb5⟩
                case measure => simp [intOf]; omega
        · have hkp : (k : Int) = x.per := by omega
          have hsa : s = x.amt := by rw [HS.out, hkp, upto_all _ _ p0]
          subst hsa
          obtain ⟨⟨l1, l2⟩, m1, m2⟩ := HLM.out (by omega)
          have hml : mo - le ≤ 1 := by omega
          clear hkp
          go_wp2_with fail
          refine (HPE.out _).mono ?_
          rintro e w5 ⟨rfl, hb5⟩
          have hX5 := hX0.below hb5
          have hb5 := bthen hbr (Nat.le_refl _) hb5
          clear c0 c1 c2 c3 c4 c5 c6 c7 hX0 hbr
          have c5 := hX5.c5
          go_wp2_with fail
          go_ret
          exact ⟨rfl, hb5⟩
  · refine (aPart_bad x 1 _ hn).mono ?_
    rintro e w4 ⟨rfl, hb4⟩
    have hX4 := hX0.below hb4
    have hb4 := bthen hb3 (Nat.le_refl _) hb4
    clear c0 c1 c2 c3 c4 c5 c6 c7 hX0 hb3
    go_wp2_with fail
    go_ret
    exact ⟨rfl, hb4⟩
end Go.Proofs.YtkeapacfmeblgaaGreatDoor
