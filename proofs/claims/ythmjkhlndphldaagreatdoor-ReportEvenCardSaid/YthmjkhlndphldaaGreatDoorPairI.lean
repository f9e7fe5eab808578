/- dayref2.Eliminate: what it returns. -/
import Derived.Test.YthmjkhlndphldaaGreatDoorPairH
namespace Go.Proofs.YthmjkhlndphldaaGreatDoor
open Go Go.RowKit
set_option linter.unusedVariables false

set_option maxHeartbeats 4000000 in
set_option maxRecDepth 100000 in
theorem elim_any (c : List Acc) (CA : Option Addr) (cn ccap : Nat) (l : List Pr) (A : Option Addr) (n cap : Nat) (b : List Bal) (BA : Option Addr) (bn bcap : Nat) (cur : ByteArray) (per : Int) (w : World)
    (hcl : cn ≤ 9223372036854775807) (hcc : cn ≤ ccap) (hc : Accs w CA cn c) (hcok : AccOk c) (hl : n ≤ 9223372036854775807) (ha : Rd w 5 prEnc A n l) (hbl : bn ≤ 9223372036854775807) (hb : Rd w 4 balEnc BA bn b) (hcur : cur.size ≤ 9223372036854775807) :
    Calls Tryz.prog 45 #[.slice CA cn ccap, .slice A n cap, .slice BA bn bcap, .string cur, .int .i64 per] w fun e w' =>
      ((elimE c l b cur per ≠ 0 ∧ e = .returned (.tuple #[.slice none 0 0, .int .i64 (elimE c l b cur per)])) ∨
        (elimE c l b cur per = 0 ∧ ∃ v es, e = .returned (.tuple #[v, .int .i64 0]) ∧ Pack w' w.heap.size v es ∧ es.map Ent.core = coresTo l b cur per (2 * n))) ∧ Below w.heap.size w w' := by
  have hn := ha.1
  have Hn := hide hn
  obtain ⟨i0, hi0, hz0, hz1, hz2⟩ := info_parts ent_info
  by_cases hp : pairsE c l = 0
  · have HP := hide hp
    obtain ⟨hce, h20, _⟩ := pairsE_0 hp
    have hn20 : n ≤ 20 := by omega
    by_cases hle : leftE l b cur = 0
    · have HL := hide hle
      have HB := hide (leftE_0 hle).2.1
      clear hp hle hn hce h20
      cases h3 : inB 1 120 per with
      | false =>
        have HF := hide (elimE_3 HP.out HL.out h3)
        have H3 := hide h3
        clear h3
        go_enter Tryz.func45, Tryz.ntmps45
        go_wp2_with fail
        refine (refPairs_any c _ _ _ l _ _ _ _ hcl hcc hc hcok hl ha).mono ?_
        rintro e w1 ⟨rfl, hb1⟩
        rw [HP.out]
        go_wp2_with fail
        refine (refLeft_any l _ _ _ b _ _ _ cur _ hl (ha.below hb1) hbl (hb.below hb1) hcur).mono ?_
        rintro e w2 ⟨⟨hne, _⟩ | ⟨_, v2, rfl, hown2⟩, hb2⟩
        · exact absurd HL.out hne
        · have hb2 := bthen hb1 (Nat.le_refl _) hb2
          go_wp2_with fail
          refine (refPeriod_any _ _).mono ?_
          rintro e w3 ⟨rfl, rfl⟩
          rw [H3.out]
          go_wp2_with fail
          go_ret2
          exact ⟨.inl ⟨by rw [HF.out]; decide, by rw [HF.out]; rfl⟩, hb2⟩
      | true =>
        have HF := hide (elimE_4 HP.out HL.out h3)
        have H3 := hide h3
        clear h3
        go_enter Tryz.func45, Tryz.ntmps45
        go_wp2_with fail
        refine (refPairs_any c _ _ _ l _ _ _ _ hcl hcc hc hcok hl ha).mono ?_
        rintro e w1 ⟨rfl, hb1⟩
        rw [HP.out]
        go_wp2_with fail
        refine (refLeft_any l _ _ _ b _ _ _ cur _ hl (ha.below hb1) hbl (hb.below hb1) hcur).mono ?_
        rintro e w2 ⟨⟨hne, _⟩ | ⟨_, v2, rfl, hown2⟩, hb2⟩
        · exact absurd HL.out hne
        have hb2 := bthen hb1 (Nat.le_refl _) hb2
        clear hown2
        go_wp2_with fail
        refine (refPeriod_any _ _).mono ?_
        rintro e w3 ⟨rfl, rfl⟩
        rw [H3.out]
        go_wp2_with fail
        go_loopw [13, 14, 15] (fun okv ov iv wr => ∃ (k : Nat) (es : List Ent), k ≤ n ∧ iv = .int .i64 k ∧ firstE (farE l b cur) (2 * k) = 0 ∧ Pack wr w.heap.size ov es ∧ es.map Ent.core = coresTo l b cur per (2 * k) ∧ Below w.heap.size w wr) (fun _ _ iv _ => n - (intOf iv).toNat)
        case atStart => exact ⟨0, [], by omega, rfl, rfl, Pack.nil _ _, rfl, hb2⟩
        case round =>
          obtain ⟨k, es, hk, rfl, hto, hpk, hes, hbr⟩ := hrel
          by_cases hlt : k < n
          · have hkl : k < l.length := by have := Hn.out; omega
            have k0 : (0 : Int) ≤ (k : Int) := by omega
            have k1 : (k : Int) < (n : Int) := by omega
            have hsz := hbr.size
            have HTo := hide hto
            have HEs := hide hes
            clear hto hes
            go_wp2_with fail
            go_loopw [13, 14, 16] (fun okv ov jv wi => ∃ (j : Nat) (es : List Ent), j ≤ 2 ∧ jv = .int .i64 j ∧ firstE (farE l b cur) (2 * k + j) = 0 ∧ Pack wi w.heap.size ov es ∧ es.map Ent.core = coresTo l b cur per (2 * k + j) ∧ Below w.heap.size w wi) (fun _ _ jv _ => 2 - (intOf jv).toNat)
            case atStart => exact ⟨0, es, by omega, rfl, HTo.out, hpk, HEs.out, hbr⟩
            case round =>
              clear hpk hbr
              obtain ⟨j, es, hj, rfl, hto, hpk, hes, hbi⟩ := hrel
              obtain ⟨b0, off, rfl, hcs⟩ := (Rd.below ha hbi).2 (by omega)
              have q0 := hcs k 0 _ hkl rfl
              have q1 := hcs k 1 _ hkl rfl
              have q2 := hcs k 2 _ hkl rfl
              have q3 := hcs k 3 _ hkl rfl
              have q4 := hcs k 4 _ hkl rfl
              rw [Nat.add_zero] at q0
              clear hcs
              have hqb : b0 < wr.heap.size := World.block_lt_of_cell? _ _ q0
              have HTo := hide hto
              have HEs := hide hes
              clear hto hes
              have hbk := hb.below hbi
              have hsi := hbi.size
              have hel : es.length ≤ 40 := by have := cores_len HEs.out; have := coresTo_len (l := l) (b := b) (cur := cur) (per := per) (2 * k + j); omega
              obtain ⟨i1, hi1, hy0, hy1, hy2⟩ := info_parts ent_info
              obtain ⟨j1, hj1, hx0, hx1, hx2⟩ := info_parts line_info
              obtain ⟨VA, vc, rfl, hvc, hvm⟩ := hpk.own.form
              have hdl := dec_le k (by omega)
              obtain ⟨dg, hdg⟩ : ∃ dg : ByteArray, dg = ⟨(Lib.decDigits k).toArray⟩ := ⟨_, rfl⟩
              have hds : dg.size ≤ 2 := by rw [hdg]; simpa [ByteArray.size] using hdl
              have HDG := hide hdg
              clear hdg hdl
              have hw1 : ¬ (9223372036854775807 < (⟨#[112, 97, 105, 114, 45]⟩ : ByteArray).size + dg.size) := by
                have : (⟨#[112, 97, 105, 114, 45]⟩ : ByteArray).size = 5 := rfl
                omega
              have hw2 : ¬ (9223372036854775807 < 5 + dg.size) := by omega
              have hw3 : ¬ (9223372036854775807 < (#[112, 97, 105, 114, 45] : Array UInt8).size + dg.size) := hw1
              have hpd : (⟨#[112, 97, 105, 114, 45]⟩ ++ dg : ByteArray).size = 5 + dg.size := by rw [ByteArray.size_append]; rfl
              have hv1 : ∀ z : ByteArray, z.size = 1 → ¬ (9223372036854775807 < (⟨#[112, 97, 105, 114, 45]⟩ ++ dg : ByteArray).size + z.size) := fun z hz => by rw [hpd, hz]; omega
              have Hv := hide hv1
              clear hpd hv1
              have hcase : j = 0 ∨ j = 1 ∨ j = 2 := by omega
              rcases hcase with rfl | rfl | rfl
              · obtain ⟨nv, hnv⟩ : ∃ nv, nv = nSide b cur l[k] 0 := ⟨_, rfl⟩
                have hget : getB b l[k].a l[k].one cur = nv := by rw [hnv]; rfl
                have HNV := hide hnv
                clear hnv
                have HG := hide hget
                clear hget
                obtain ⟨ab, hab⟩ : ∃ ab, ab = abB.extract 0 (0 + 1) := ⟨_, rfl⟩
                have hw11 : IntKind.i64.wrap 1 = 1 := by decide
                have hex : (⟨#[97, 98]⟩ : ByteArray).extract 0 1 = ab := hab.symm
                have hab1 : ab.size = 1 := by rw [hab]; rfl
                have hv2 := Hv.out ab hab1
                have hv3 : ¬ (9223372036854775807 < 5 + dg.size + ab.size) := by omega
                have HAB := hide hab
                clear hab hab1
                by_cases hz : nv = 0
                · have hz1 : (nv == 0) = true := by simpa using hz
                  have HN := hide (cores_no (per := per) hkl (show 0 < 2 by omega) (by rw [← HNV.out]; exact hz))
                  have HFR := hide (far_no hkl (show 0 < 2 by omega) (by rw [← HNV.out]; exact hz))
                  clear hz
                  go_wp2_with fail
                  refine (refGet_s b l[k].a l[k].one cur _ _ _ _ hbl hbk).mono ?_
                  rintro e w5 ⟨rfl, rfl⟩
                  rw [HG.out]
                  go_wp2_with fail
                  go_roundw
                  case rel => exact ⟨1, es, by omega, by go_num, by rw [show 2 * k + 1 = 2 * k + 0 + 1 from rfl, firstE_succ HTo.out]; exact HFR.out, hpk, by rw [show 2 * k + 1 = 2 * k + 0 + 1 from rfl, HN.out]; exact HEs.out, hbi⟩
                  case measure => simp [intOf]
                · have hz1 : (nv == 0) = false := by simpa using hz
                  cases ham : inB (-1000000000000000) 1000000000000000 nv with
                  | false =>
                    have HX := hide (far_hit HP.out HL.out H3.out HTo.out (by omega) (far_1 hkl (show 0 < 2 by omega) (by rw [← HNV.out]; exact hz) (by rw [← HNV.out]; exact ham)))
                    have HAM := hide ham
                    clear hz ham
                    go_wp2_with fail
                    refine (refGet_s b l[k].a l[k].one cur _ _ _ _ hbl hbk).mono ?_
                    rintro e w5 ⟨rfl, rfl⟩
                    rw [HG.out]
                    go_wp2_with fail
                    refine (refAmount_any _ _).mono ?_
                    rintro e w6 ⟨rfl, rfl⟩
                    rw [HAM.out]
                    go_wp2_with fail
                    go_ret2
                    exact ⟨.inl ⟨by rw [HX.out]; decide, by rw [HX.out]; rfl⟩, hbi⟩
                  | true =>
                    have HN := hide (cores_yes (per := per) hkl (show 0 < 2 by omega) (by rw [← HNV.out]; exact hz))
                    have HFR := hide (far_0 hkl (show 0 < 2 by omega) (by rw [← HNV.out]; exact hz) (by rw [← HNV.out]; exact ham))
                    have HAM := hide ham
                    have hnb : -1000000000000000 ≤ nv ∧ nv ≤ 1000000000000000 := by simpa [inB] using ham
                    obtain ⟨hn1, hn2⟩ := hnb
                    clear hz ham
                    have hwn : IntKind.i64.wrap (-nv) = -nv := IntWalk.i64_in _ (by omega)
                    go_wp2_with fail
                    refine (refGet_s b l[k].a l[k].one cur _ _ _ _ hbl hbk).mono ?_
                    rintro e w5 ⟨rfl, rfl⟩
                    rw [HG.out]
                    go_wp2_with fail
                    refine (refAmount_any _ _).mono ?_
                    rintro e w6 ⟨rfl, rfl⟩
                    rw [HAM.out]
                    have hdig := fun w : World => digits20 k (by omega) w
                    rw [← HDG.out] at hdig
                    go_wp2_with fail
                    refine (hdig _).mono ?_
                    rintro e w5 ⟨rfl, hb5⟩
                    have hpk5 := hpk.below hb5
                    have hq4 := below_cell hb5 hqb q4
                    have hqb5 := Nat.lt_of_lt_of_le hqb hb5.size
                    have hwr5 := hb5.size
                    have hb5 := bthen hbi (Nat.le_refl _) hb5
                    have hs5 := hb5.size
                    obtain ⟨E1, hE1⟩ : ∃ E1 : Line, E1 = ⟨l[k].one, cur, -nv⟩ := ⟨_, rfl⟩
                    obtain ⟨E2, hE2⟩ : ∃ E2 : Line, E2 = ⟨l[k].diff, cur, nv⟩ := ⟨_, rfl⟩
                    have hvq := fun q (e : Value.ownBlock (.slice VA es.length vc) = some q) => (hpk.own.block q e).2
                    go_wp2_with (first | (at_builtin; go_loud (refine wpList_push _ rfl _ _ 23 rfl (w5.heap.size + 1) 35 j1 zeroLine 3 40 Tryz.underlying23 hj1 hx0 hx1 hx2 rfl (by decide) lineEnc_ok _ ([] : List Line) rfl (Own.nil _ _ _ _ _) _ 1 1 [E1] rfl (Rd.boxedAt _ lineEnc_ok E1 _ _ (by rw [hE1]; rfl) _ (by simp)) (by intro h; cases h) (by simp [maxLen]) (by simp) (by simp) ?_); intro v1 w6 hown6 hg6 hat6; rw [List.nil_append] at hown6; obtain ⟨A1, c1, rfl, hc1a, hc1b⟩ := hown6.form; have hl1 : [E1].length = 1 := rfl; rw [hl1] at hown6 hc1a hat6 ⊢; have hg6 : World.grownBy ((w5.alloc (.cells #[.string (⟨#[112, 97, 105, 114, 45]⟩ ++ dg ++ ab), .int .i64 l[k].a, .int .i64 per, .slice none 0 0] 25)).alloc (.cells #[.string l[k].one, .string cur, .int .i64 (-nv)] 35)) w6 none := hg6; have e0 := hg6.cell (show ((w5.alloc (.cells #[.string (⟨#[112, 97, 105, 114, 45]⟩ ++ dg ++ ab), .int .i64 l[k].a, .int .i64 per, .slice none 0 0] 25)).alloc (.cells #[.string l[k].one, .string cur, .int .i64 (-nv)] 35)).cell? ⟨w5.heap.size, 0, none⟩ = some (.string (⟨#[112, 97, 105, 114, 45]⟩ ++ dg ++ ab)) by simp) (by simp); have e1 := hg6.cell (show ((w5.alloc (.cells #[.string (⟨#[112, 97, 105, 114, 45]⟩ ++ dg ++ ab), .int .i64 l[k].a, .int .i64 per, .slice none 0 0] 25)).alloc (.cells #[.string l[k].one, .string cur, .int .i64 (-nv)] 35)).cell? ⟨w5.heap.size, 1, none⟩ = some (.int .i64 l[k].a) by simp) (by simp); have e2 := hg6.cell (show ((w5.alloc (.cells #[.string (⟨#[112, 97, 105, 114, 45]⟩ ++ dg ++ ab), .int .i64 l[k].a, .int .i64 per, .slice none 0 0] 25)).alloc (.cells #[.string l[k].one, .string cur, .int .i64 (-nv)] 35)).cell? ⟨w5.heap.size, 2, none⟩ = some (.int .i64 per) by simp) (by simp); have e3 := hg6.cell (show ((w5.alloc (.cells #[.string (⟨#[112, 97, 105, 114, 45]⟩ ++ dg ++ ab), .int .i64 l[k].a, .int .i64 per, .slice none 0 0] 25)).alloc (.cells #[.string l[k].one, .string cur, .int .i64 (-nv)] 35)).cell? ⟨w5.heap.size, 3, none⟩ = some (.slice none 0 0) by simp) (by simp); have f3 := frozen_grown (show ((w5.alloc (.cells #[.string (⟨#[112, 97, 105, 114, 45]⟩ ++ dg ++ ab), .int .i64 l[k].a, .int .i64 per, .slice none 0 0] 25)).alloc (.cells #[.string l[k].one, .string cur, .int .i64 (-nv)] 35)).frozen? ⟨w5.heap.size, 3, none⟩ = false by simp) (by simp; omega) hg6 (by simp)))
                    clear hat6
                    have hbel6 : Below w5.heap.size w5 w6 := ((((Below.refl _ _).alloc (Nat.le_refl _) ((.cells #[.string (⟨#[112, 97, 105, 114, 45]⟩ ++ dg ++ ab), .int .i64 l[k].a, .int .i64 per, .slice none 0 0] 25))).alloc (by simp) (.cells #[.string l[k].one, .string cur, .int .i64 (-nv)] 35))).grown hg6 (by simp; omega) (fun q e => by cases e)
                    have k0 : (w6.setCell ⟨w5.heap.size, 3, none⟩ (.slice A1 1 c1)).cell? ⟨w5.heap.size, 0, none⟩ = some (.string (⟨#[112, 97, 105, 114, 45]⟩ ++ dg ++ ab)) := (World.cell?_setCell_other _ _ _ _ (by simp)).trans e0
                    have k1 : (w6.setCell ⟨w5.heap.size, 3, none⟩ (.slice A1 1 c1)).cell? ⟨w5.heap.size, 1, none⟩ = some (.int .i64 l[k].a) := (World.cell?_setCell_other _ _ _ _ (by simp)).trans e1
                    have k2 : (w6.setCell ⟨w5.heap.size, 3, none⟩ (.slice A1 1 c1)).cell? ⟨w5.heap.size, 2, none⟩ = some (.int .i64 per) := (World.cell?_setCell_other _ _ _ _ (by simp)).trans e2
                    have k3 : (w6.setCell ⟨w5.heap.size, 3, none⟩ (.slice A1 1 c1)).cell? ⟨w5.heap.size, 3, none⟩ = some (.slice A1 1 c1) := World.cell?_setCell_same _ _ _ e3
                    have kf : (w6.setCell ⟨w5.heap.size, 3, none⟩ (.slice A1 1 c1)).frozen? ⟨w5.heap.size, 3, none⟩ = false := by simp [f3]
                    have hnb : Value.ownBlock (.slice A1 1 c1) ≠ some w5.heap.size := fun e => by have := (hown6.block _ e).1; omega
                    have hO7 : Own (w6.setCell ⟨w5.heap.size, 3, none⟩ (.slice A1 1 c1)) (w5.heap.size + 1) 35 3 lineEnc (.slice A1 1 c1) [E1] := hown6.grown (only_setCell (only_refl _ _) _ _) (.inr hnb)
                    have hbel7 : Below w5.heap.size w5 (w6.setCell ⟨w5.heap.size, 3, none⟩ (.slice A1 1 c1)) := hbel6.setCell (Nat.le_refl _) _
                    have hq7 := below_cell hbel7 hqb5 hq4
                    have hsz7 : w5.heap.size < (w6.setCell ⟨w5.heap.size, 3, none⟩ (.slice A1 1 c1)).heap.size := World.block_lt_of_cell? _ _ k0
                    generalize (w6.setCell ⟨w5.heap.size, 3, none⟩ (.slice A1 1 c1)) = w7 at k0 k1 k2 k3 kf hO7 hbel7 hq7 hsz7 ⊢
                    have d0 : (w7.alloc (.cells #[.string l[k].diff, .string cur, .int .i64 nv] 35)).drew.cell? ⟨w5.heap.size, 0, none⟩ = some (.string (⟨#[112, 97, 105, 114, 45]⟩ ++ dg ++ ab)) := cell?_alloc_keep k0
                    have d1 : (w7.alloc (.cells #[.string l[k].diff, .string cur, .int .i64 nv] 35)).drew.cell? ⟨w5.heap.size, 1, none⟩ = some (.int .i64 l[k].a) := cell?_alloc_keep k1
                    have d2 : (w7.alloc (.cells #[.string l[k].diff, .string cur, .int .i64 nv] 35)).drew.cell? ⟨w5.heap.size, 2, none⟩ = some (.int .i64 per) := cell?_alloc_keep k2
                    have d3 : (w7.alloc (.cells #[.string l[k].diff, .string cur, .int .i64 nv] 35)).drew.cell? ⟨w5.heap.size, 3, none⟩ = some (.slice A1 1 c1) := cell?_alloc_keep k3
                    have df : (w7.alloc (.cells #[.string l[k].diff, .string cur, .int .i64 nv] 35)).drew.frozen? ⟨w5.heap.size, 3, none⟩ = false := frozen_alloc_keep hsz7 kf
                    have hO8 : Own (w7.alloc (.cells #[.string l[k].diff, .string cur, .int .i64 nv] 35)).drew (w5.heap.size + 1) 35 3 lineEnc (.slice A1 1 c1) [E1] := hO7.alloc _
                    have hR8 : Rd (w7.alloc (.cells #[.string l[k].diff, .string cur, .int .i64 nv] 35)).drew 3 lineEnc (some ⟨w7.heap.size, 0, none⟩) 1 [E2] := Rd.boxed w7 lineEnc_ok E2 _ _ (by rw [hE2]; rfl)
                    have hbel8 : Below w5.heap.size w5 (w7.alloc (.cells #[.string l[k].diff, .string cur, .int .i64 nv] 35)).drew := (hbel7.alloc (Nat.le_of_lt hsz7) _).drew
                    have hs8e : (w7.alloc (.cells #[.string l[k].diff, .string cur, .int .i64 nv] 35)).drew.heap.size = w7.heap.size + 1 := by show (w7.alloc _).heap.size = _; simp
                    have hs8 : w5.heap.size < (w7.alloc (.cells #[.string l[k].diff, .string cur, .int .i64 nv] 35)).drew.heap.size := by omega
                    go_region_law (first | (refine step_pushJ _ rfl _ _ 23 rfl (w5.heap.size + 1) 35 j1 zeroLine 3 40 Tryz.underlying23 hj1 hx0 hx1 hx2 rfl (by decide) lineEnc_ok (.slice A1 1 c1) [E1] (by simp [Act.eval]) hO8 _ 1 1 [E2] (by simp [Act.eval]) hR8 (by intro h; cases h) (by simp [maxLen]) (by simp) (by omega) ?_; intro v2 w8 hown8 hg8 hat8; rw [List.singleton_append] at hown8; have g3 := hg8.cell d3 (fun e => hnb e.symm); have g0 := hg8.cell d0 (fun e => hnb e.symm); have g1 := hg8.cell d1 (fun e => hnb e.symm); have g2 := hg8.cell d2 (fun e => hnb e.symm); have gf := frozen_grown df hs8 hg8 hnb; obtain ⟨A2, c2, rfl, hc2a, hc2b⟩ := hown8.form; have hl2 : [E1, E2].length = 2 := rfl; rw [hl2] at hown8 hc2a hat8 ⊢))
                    all_goals
                      have m0 : (w8.setCell ⟨w5.heap.size, 3, none⟩ (.slice A2 2 c2)).cell? ⟨w5.heap.size, 0, none⟩ = some (.string (⟨#[112, 97, 105, 114, 45]⟩ ++ dg ++ ab)) := (World.cell?_setCell_other _ _ _ _ (by simp)).trans g0
                      have m1 : (w8.setCell ⟨w5.heap.size, 3, none⟩ (.slice A2 2 c2)).cell? ⟨w5.heap.size, 1, none⟩ = some (.int .i64 l[k].a) := (World.cell?_setCell_other _ _ _ _ (by simp)).trans g1
                      have m2 : (w8.setCell ⟨w5.heap.size, 3, none⟩ (.slice A2 2 c2)).cell? ⟨w5.heap.size, 2, none⟩ = some (.int .i64 per) := (World.cell?_setCell_other _ _ _ _ (by simp)).trans g2
                      have m3 : (w8.setCell ⟨w5.heap.size, 3, none⟩ (.slice A2 2 c2)).cell? ⟨w5.heap.size, 3, none⟩ = some (.slice A2 2 c2) := World.cell?_setCell_same _ _ _ g3
                      have hnb2 : Value.ownBlock (.slice A2 2 c2) ≠ some w5.heap.size := fun e => by have := (hown8.block _ e).1; omega
                      have hO9 : Own (w8.setCell ⟨w5.heap.size, 3, none⟩ (.slice A2 2 c2)) (w5.heap.size + 1) 35 3 lineEnc (.slice A2 2 c2) [E1, E2] := hown8.grown (only_setCell (only_refl _ _) _ _) (.inr hnb2)
                      have hbel9 : Below w5.heap.size w5 (w8.setCell ⟨w5.heap.size, 3, none⟩ (.slice A2 2 c2)) := (hbel8.grown hg8 (by omega) (fun q e => by have := (hO8.block q e).1; omega)).setCell (Nat.le_refl _) _
                      have hpk9 := hpk5.below hbel9
                      have hb9 := bthen hb5 (Nat.le_refl _) hbel9
                      have hs9 := hb9.size
                      clear hat8
                      generalize (w8.setCell ⟨w5.heap.size, 3, none⟩ (.slice A2 2 c2)) = w9 at m0 m1 m2 m3 hO9 hbel9 hpk9 hb9 hs9 ⊢
                      obtain ⟨z2, hz2A⟩ : ∃ z2, A2 = some ⟨z2, 0, none⟩ := by
                        rcases hO9.2 with ⟨hv, h0⟩ | ⟨g9, cap9, cur9, hv, _⟩
                        · cases h0
                        · injection hv with e1; exact ⟨g9, e1⟩
                      subst hz2A
                      have hz2B := hO9.block z2 rfl
                      obtain ⟨E, hE⟩ : ∃ E : Ent, E = ⟨⟨#[112, 97, 105, 114, 45]⟩ ++ dg ++ ab, l[k].a, per, some ⟨z2, 0, none⟩, 2, c2, [E1, E2]⟩ := ⟨_, rfl⟩
                      have HCO : Hid (Ent.core E = (pairRef k 0, sdEnt l[k] 0, per, [⟨sdAcc l[k] 0, cur, -(nSide b cur l[k] 0)⟩, ⟨l[k].diff, cur, nSide b cur l[k] 0⟩])) := by show _ = _; rw [hE, hE1, hE2, ← HNV.out]; unfold pairRef; rw [← HDG.out, ← HAB.out]; rfl
                      have hL9 : Rd w9 3 lineEnc E.A E.n E.lines := by rw [hE]; exact hO9.rd lineEnc_ok
                      have HEA : Hid (E.A = some ⟨z2, 0, none⟩) := by show _ = _; rw [hE]
                      have HEN : Hid (E.n ≤ 20) := by show _ ≤ _; rw [hE]; show 2 ≤ 20; omega
                      go_wp2_with (first | (at_builtin; go_loud (refine wpList_push _ rfl _ _ 50 rfl w.heap.size 25 i1 zeroEnt 4 56 Tryz.underlying50 hi1 hy0 hy1 hy2 rfl (by decide) entEnc_ok _ es rfl (hpk9.own.alloc _) _ 1 1 [E] rfl (Rd.boxedAt _ entEnc_ok E _ _ (by rw [hE]; rfl) _ (by simp)) (by intro h; cases h) (by simp only [maxLen]; omega) (by omega) (by simp; omega) ?_); intro v9 w10 hown10 hg10 hat10))
                      go_roundw
                      case rel => exact ⟨1, es ++ [E], by omega, by go_num, by rw [show 2 * k + 1 = 2 * k + 0 + 1 from rfl, firstE_succ HTo.out]; exact HFR.out, (hpk9.below ((Below.refl _ _).alloc (Nat.le_refl _) _)).push hown10 hg10 hat10 (hL9.below ((Below.refl _ _).alloc (Nat.le_refl _) _)) HEN.out HEA.out (by have := hz2B.2; simp; omega) (fun e => by have := hvq _ e; have := hz2B.1; omega), by rw [List.map_append, HEs.out, show 2 * k + 1 = 2 * k + 0 + 1 from rfl, HN.out, List.map_cons, List.map_nil, HCO.out], (hb9.alloc hs9 _).grown hg10 (by simp; omega) (fun q e => (hpk9.own.block q e).1)⟩
                      case measure => simp [intOf]
              · obtain ⟨nv, hnv⟩ : ∃ nv, nv = nSide b cur l[k] 1 := ⟨_, rfl⟩
                have hget : getB b l[k].b l[k].other cur = nv := by rw [hnv]; rfl
                have HNV := hide hnv
                clear hnv
                have HG := hide hget
                clear hget
                obtain ⟨ab, hab⟩ : ∃ ab, ab = abB.extract 1 (1 + 1) := ⟨_, rfl⟩
                have hw11 : IntKind.i64.wrap 2 = 2 := by decide
                have hex : (⟨#[97, 98]⟩ : ByteArray).extract 1 2 = ab := hab.symm
                have hab1 : ab.size = 1 := by rw [hab]; rfl
                have hv2 := Hv.out ab hab1
                have hv3 : ¬ (9223372036854775807 < 5 + dg.size + ab.size) := by omega
                have HAB := hide hab
                clear hab hab1
                by_cases hz : nv = 0
                · have hz1 : (nv == 0) = true := by simpa using hz
                  have HN := hide (cores_no (per := per) hkl (show 1 < 2 by omega) (by rw [← HNV.out]; exact hz))
                  have HFR := hide (far_no hkl (show 1 < 2 by omega) (by rw [← HNV.out]; exact hz))
                  clear hz
                  go_wp2_with fail
                  refine (refGet_s b l[k].b l[k].other cur _ _ _ _ hbl hbk).mono ?_
                  rintro e w5 ⟨rfl, rfl⟩
                  rw [HG.out]
                  go_wp2_with fail
                  go_roundw
                  case rel => exact ⟨2, es, by omega, by go_num, by rw [show 2 * k + 2 = 2 * k + 1 + 1 from rfl, firstE_succ HTo.out]; exact HFR.out, hpk, by rw [show 2 * k + 2 = 2 * k + 1 + 1 from rfl, HN.out]; exact HEs.out, hbi⟩
                  case measure => simp [intOf]
                · have hz1 : (nv == 0) = false := by simpa using hz
                  cases ham : inB (-1000000000000000) 1000000000000000 nv with
                  | false =>
                    have HX := hide (far_hit HP.out HL.out H3.out HTo.out (by omega) (far_1 hkl (show 1 < 2 by omega) (by rw [← HNV.out]; exact hz) (by rw [← HNV.out]; exact ham)))
                    have HAM := hide ham
                    clear hz ham
                    go_wp2_with fail
                    refine (refGet_s b l[k].b l[k].other cur _ _ _ _ hbl hbk).mono ?_
                    rintro e w5 ⟨rfl, rfl⟩
                    rw [HG.out]
                    go_wp2_with fail
                    refine (refAmount_any _ _).mono ?_
                    rintro e w6 ⟨rfl, rfl⟩
                    rw [HAM.out]
                    go_wp2_with fail
                    go_ret2
                    exact ⟨.inl ⟨by rw [HX.out]; decide, by rw [HX.out]; rfl⟩, hbi⟩
                  | true =>
                    have HN := hide (cores_yes (per := per) hkl (show 1 < 2 by omega) (by rw [← HNV.out]; exact hz))
                    have HFR := hide (far_0 hkl (show 1 < 2 by omega) (by rw [← HNV.out]; exact hz) (by rw [← HNV.out]; exact ham))
                    have HAM := hide ham
                    have hnb : -1000000000000000 ≤ nv ∧ nv ≤ 1000000000000000 := by simpa [inB] using ham
                    obtain ⟨hn1, hn2⟩ := hnb
                    clear hz ham
                    have hwn : IntKind.i64.wrap (-nv) = -nv := IntWalk.i64_in _ (by omega)
                    go_wp2_with fail
                    refine (refGet_s b l[k].b l[k].other cur _ _ _ _ hbl hbk).mono ?_
                    rintro e w5 ⟨rfl, rfl⟩
                    rw [HG.out]
                    go_wp2_with fail
                    refine (refAmount_any _ _).mono ?_
                    rintro e w6 ⟨rfl, rfl⟩
                    rw [HAM.out]
                    have hdig := fun w : World => digits20 k (by omega) w
                    rw [← HDG.out] at hdig
                    go_wp2_with fail
                    refine (hdig _).mono ?_
                    rintro e w5 ⟨rfl, hb5⟩
                    have hpk5 := hpk.below hb5
                    have hq4 := below_cell hb5 hqb q4
                    have hqb5 := Nat.lt_of_lt_of_le hqb hb5.size
                    have hwr5 := hb5.size
                    have hb5 := bthen hbi (Nat.le_refl _) hb5
                    have hs5 := hb5.size
                    obtain ⟨E1, hE1⟩ : ∃ E1 : Line, E1 = ⟨l[k].other, cur, -nv⟩ := ⟨_, rfl⟩
                    obtain ⟨E2, hE2⟩ : ∃ E2 : Line, E2 = ⟨l[k].diff, cur, nv⟩ := ⟨_, rfl⟩
                    have hvq := fun q (e : Value.ownBlock (.slice VA es.length vc) = some q) => (hpk.own.block q e).2
                    go_wp2_with (first | (at_builtin; go_loud (refine wpList_push _ rfl _ _ 23 rfl (w5.heap.size + 1) 35 j1 zeroLine 3 40 Tryz.underlying23 hj1 hx0 hx1 hx2 rfl (by decide) lineEnc_ok _ ([] : List Line) rfl (Own.nil _ _ _ _ _) _ 1 1 [E1] rfl (Rd.boxedAt _ lineEnc_ok E1 _ _ (by rw [hE1]; rfl) _ (by simp)) (by intro h; cases h) (by simp [maxLen]) (by simp) (by simp) ?_); intro v1 w6 hown6 hg6 hat6; rw [List.nil_append] at hown6; obtain ⟨A1, c1, rfl, hc1a, hc1b⟩ := hown6.form; have hl1 : [E1].length = 1 := rfl; rw [hl1] at hown6 hc1a hat6 ⊢; have hg6 : World.grownBy ((w5.alloc (.cells #[.string (⟨#[112, 97, 105, 114, 45]⟩ ++ dg ++ ab), .int .i64 l[k].b, .int .i64 per, .slice none 0 0] 25)).alloc (.cells #[.string l[k].other, .string cur, .int .i64 (-nv)] 35)) w6 none := hg6; have e0 := hg6.cell (show ((w5.alloc (.cells #[.string (⟨#[112, 97, 105, 114, 45]⟩ ++ dg ++ ab), .int .i64 l[k].b, .int .i64 per, .slice none 0 0] 25)).alloc (.cells #[.string l[k].other, .string cur, .int .i64 (-nv)] 35)).cell? ⟨w5.heap.size, 0, none⟩ = some (.string (⟨#[112, 97, 105, 114, 45]⟩ ++ dg ++ ab)) by simp) (by simp); have e1 := hg6.cell (show ((w5.alloc (.cells #[.string (⟨#[112, 97, 105, 114, 45]⟩ ++ dg ++ ab), .int .i64 l[k].b, .int .i64 per, .slice none 0 0] 25)).alloc (.cells #[.string l[k].other, .string cur, .int .i64 (-nv)] 35)).cell? ⟨w5.heap.size, 1, none⟩ = some (.int .i64 l[k].b) by simp) (by simp); have e2 := hg6.cell (show ((w5.alloc (.cells #[.string (⟨#[112, 97, 105, 114, 45]⟩ ++ dg ++ ab), .int .i64 l[k].b, .int .i64 per, .slice none 0 0] 25)).alloc (.cells #[.string l[k].other, .string cur, .int .i64 (-nv)] 35)).cell? ⟨w5.heap.size, 2, none⟩ = some (.int .i64 per) by simp) (by simp); have e3 := hg6.cell (show ((w5.alloc (.cells #[.string (⟨#[112, 97, 105, 114, 45]⟩ ++ dg ++ ab), .int .i64 l[k].b, .int .i64 per, .slice none 0 0] 25)).alloc (.cells #[.string l[k].other, .string cur, .int .i64 (-nv)] 35)).cell? ⟨w5.heap.size, 3, none⟩ = some (.slice none 0 0) by simp) (by simp); have f3 := frozen_grown (show ((w5.alloc (.cells #[.string (⟨#[112, 97, 105, 114, 45]⟩ ++ dg ++ ab), .int .i64 l[k].b, .int .i64 per, .slice none 0 0] 25)).alloc (.cells #[.string l[k].other, .string cur, .int .i64 (-nv)] 35)).frozen? ⟨w5.heap.size, 3, none⟩ = false by simp) (by simp; omega) hg6 (by simp)))
                    clear hat6
                    have hbel6 : Below w5.heap.size w5 w6 := ((((Below.refl _ _).alloc (Nat.le_refl _) ((.cells #[.string (⟨#[112, 97, 105, 114, 45]⟩ ++ dg ++ ab), .int .i64 l[k].b, .int .i64 per, .slice none 0 0] 25))).alloc (by simp) (.cells #[.string l[k].other, .string cur, .int .i64 (-nv)] 35))).grown hg6 (by simp; omega) (fun q e => by cases e)
                    have k0 : (w6.setCell ⟨w5.heap.size, 3, none⟩ (.slice A1 1 c1)).cell? ⟨w5.heap.size, 0, none⟩ = some (.string (⟨#[112, 97, 105, 114, 45]⟩ ++ dg ++ ab)) := (World.cell?_setCell_other _ _ _ _ (by simp)).trans e0
                    have k1 : (w6.setCell ⟨w5.heap.size, 3, none⟩ (.slice A1 1 c1)).cell? ⟨w5.heap.size, 1, none⟩ = some (.int .i64 l[k].b) := (World.cell?_setCell_other _ _ _ _ (by simp)).trans e1
                    have k2 : (w6.setCell ⟨w5.heap.size, 3, none⟩ (.slice A1 1 c1)).cell? ⟨w5.heap.size, 2, none⟩ = some (.int .i64 per) := (World.cell?_setCell_other _ _ _ _ (by simp)).trans e2
                    have k3 : (w6.setCell ⟨w5.heap.size, 3, none⟩ (.slice A1 1 c1)).cell? ⟨w5.heap.size, 3, none⟩ = some (.slice A1 1 c1) := World.cell?_setCell_same _ _ _ e3
                    have kf : (w6.setCell ⟨w5.heap.size, 3, none⟩ (.slice A1 1 c1)).frozen? ⟨w5.heap.size, 3, none⟩ = false := by simp [f3]
                    have hnb : Value.ownBlock (.slice A1 1 c1) ≠ some w5.heap.size := fun e => by have := (hown6.block _ e).1; omega
                    have hO7 : Own (w6.setCell ⟨w5.heap.size, 3, none⟩ (.slice A1 1 c1)) (w5.heap.size + 1) 35 3 lineEnc (.slice A1 1 c1) [E1] := hown6.grown (only_setCell (only_refl _ _) _ _) (.inr hnb)
                    have hbel7 : Below w5.heap.size w5 (w6.setCell ⟨w5.heap.size, 3, none⟩ (.slice A1 1 c1)) := hbel6.setCell (Nat.le_refl _) _
                    have hq7 := below_cell hbel7 hqb5 hq4
                    have hsz7 : w5.heap.size < (w6.setCell ⟨w5.heap.size, 3, none⟩ (.slice A1 1 c1)).heap.size := World.block_lt_of_cell? _ _ k0
                    generalize (w6.setCell ⟨w5.heap.size, 3, none⟩ (.slice A1 1 c1)) = w7 at k0 k1 k2 k3 kf hO7 hbel7 hq7 hsz7 ⊢
                    have d0 : (w7.alloc (.cells #[.string l[k].diff, .string cur, .int .i64 nv] 35)).drew.cell? ⟨w5.heap.size, 0, none⟩ = some (.string (⟨#[112, 97, 105, 114, 45]⟩ ++ dg ++ ab)) := cell?_alloc_keep k0
                    have d1 : (w7.alloc (.cells #[.string l[k].diff, .string cur, .int .i64 nv] 35)).drew.cell? ⟨w5.heap.size, 1, none⟩ = some (.int .i64 l[k].b) := cell?_alloc_keep k1
                    have d2 : (w7.alloc (.cells #[.string l[k].diff, .string cur, .int .i64 nv] 35)).drew.cell? ⟨w5.heap.size, 2, none⟩ = some (.int .i64 per) := cell?_alloc_keep k2
                    have d3 : (w7.alloc (.cells #[.string l[k].diff, .string cur, .int .i64 nv] 35)).drew.cell? ⟨w5.heap.size, 3, none⟩ = some (.slice A1 1 c1) := cell?_alloc_keep k3
                    have df : (w7.alloc (.cells #[.string l[k].diff, .string cur, .int .i64 nv] 35)).drew.frozen? ⟨w5.heap.size, 3, none⟩ = false := frozen_alloc_keep hsz7 kf
                    have hO8 : Own (w7.alloc (.cells #[.string l[k].diff, .string cur, .int .i64 nv] 35)).drew (w5.heap.size + 1) 35 3 lineEnc (.slice A1 1 c1) [E1] := hO7.alloc _
                    have hR8 : Rd (w7.alloc (.cells #[.string l[k].diff, .string cur, .int .i64 nv] 35)).drew 3 lineEnc (some ⟨w7.heap.size, 0, none⟩) 1 [E2] := Rd.boxed w7 lineEnc_ok E2 _ _ (by rw [hE2]; rfl)
                    have hbel8 : Below w5.heap.size w5 (w7.alloc (.cells #[.string l[k].diff, .string cur, .int .i64 nv] 35)).drew := (hbel7.alloc (Nat.le_of_lt hsz7) _).drew
                    have hs8e : (w7.alloc (.cells #[.string l[k].diff, .string cur, .int .i64 nv] 35)).drew.heap.size = w7.heap.size + 1 := by show (w7.alloc _).heap.size = _; simp
                    have hs8 : w5.heap.size < (w7.alloc (.cells #[.string l[k].diff, .string cur, .int .i64 nv] 35)).drew.heap.size := by omega
                    go_region_law (first | (refine step_pushJ _ rfl _ _ 23 rfl (w5.heap.size + 1) 35 j1 zeroLine 3 40 Tryz.underlying23 hj1 hx0 hx1 hx2 rfl (by decide) lineEnc_ok (.slice A1 1 c1) [E1] (by simp [Act.eval]) hO8 _ 1 1 [E2] (by simp [Act.eval]) hR8 (by intro h; cases h) (by simp [maxLen]) (by simp) (by omega) ?_; intro v2 w8 hown8 hg8 hat8; rw [List.singleton_append] at hown8; have g3 := hg8.cell d3 (fun e => hnb e.symm); have g0 := hg8.cell d0 (fun e => hnb e.symm); have g1 := hg8.cell d1 (fun e => hnb e.symm); have g2 := hg8.cell d2 (fun e => hnb e.symm); have gf := frozen_grown df hs8 hg8 hnb; obtain ⟨A2, c2, rfl, hc2a, hc2b⟩ := hown8.form; have hl2 : [E1, E2].length = 2 := rfl; rw [hl2] at hown8 hc2a hat8 ⊢))
                    all_goals
                      have m0 : (w8.setCell ⟨w5.heap.size, 3, none⟩ (.slice A2 2 c2)).cell? ⟨w5.heap.size, 0, none⟩ = some (.string (⟨#[112, 97, 105, 114, 45]⟩ ++ dg ++ ab)) := (World.cell?_setCell_other _ _ _ _ (by simp)).trans g0
                      have m1 : (w8.setCell ⟨w5.heap.size, 3, none⟩ (.slice A2 2 c2)).cell? ⟨w5.heap.size, 1, none⟩ = some (.int .i64 l[k].b) := (World.cell?_setCell_other _ _ _ _ (by simp)).trans g1
                      have m2 : (w8.setCell ⟨w5.heap.size, 3, none⟩ (.slice A2 2 c2)).cell? ⟨w5.heap.size, 2, none⟩ = some (.int .i64 per) := (World.cell?_setCell_other _ _ _ _ (by simp)).trans g2
                      have m3 : (w8.setCell ⟨w5.heap.size, 3, none⟩ (.slice A2 2 c2)).cell? ⟨w5.heap.size, 3, none⟩ = some (.slice A2 2 c2) := World.cell?_setCell_same _ _ _ g3
                      have hnb2 : Value.ownBlock (.slice A2 2 c2) ≠ some w5.heap.size := fun e => by have := (hown8.block _ e).1; omega
                      have hO9 : Own (w8.setCell ⟨w5.heap.size, 3, none⟩ (.slice A2 2 c2)) (w5.heap.size + 1) 35 3 lineEnc (.slice A2 2 c2) [E1, E2] := hown8.grown (only_setCell (only_refl _ _) _ _) (.inr hnb2)
                      have hbel9 : Below w5.heap.size w5 (w8.setCell ⟨w5.heap.size, 3, none⟩ (.slice A2 2 c2)) := (hbel8.grown hg8 (by omega) (fun q e => by have := (hO8.block q e).1; omega)).setCell (Nat.le_refl _) _
                      have hpk9 := hpk5.below hbel9
                      have hb9 := bthen hb5 (Nat.le_refl _) hbel9
                      have hs9 := hb9.size
                      clear hat8
                      generalize (w8.setCell ⟨w5.heap.size, 3, none⟩ (.slice A2 2 c2)) = w9 at m0 m1 m2 m3 hO9 hbel9 hpk9 hb9 hs9 ⊢
                      obtain ⟨z2, hz2A⟩ : ∃ z2, A2 = some ⟨z2, 0, none⟩ := by
                        rcases hO9.2 with ⟨hv, h0⟩ | ⟨g9, cap9, cur9, hv, _⟩
                        · cases h0
                        · injection hv with e1; exact ⟨g9, e1⟩
                      subst hz2A
                      have hz2B := hO9.block z2 rfl
                      obtain ⟨E, hE⟩ : ∃ E : Ent, E = ⟨⟨#[112, 97, 105, 114, 45]⟩ ++ dg ++ ab, l[k].b, per, some ⟨z2, 0, none⟩, 2, c2, [E1, E2]⟩ := ⟨_, rfl⟩
                      have HCO : Hid (Ent.core E = (pairRef k 1, sdEnt l[k] 1, per, [⟨sdAcc l[k] 1, cur, -(nSide b cur l[k] 1)⟩, ⟨l[k].diff, cur, nSide b cur l[k] 1⟩])) := by show _ = _; rw [hE, hE1, hE2, ← HNV.out]; unfold pairRef; rw [← HDG.out, ← HAB.out]; rfl
                      have hL9 : Rd w9 3 lineEnc E.A E.n E.lines := by rw [hE]; exact hO9.rd lineEnc_ok
                      have HEA : Hid (E.A = some ⟨z2, 0, none⟩) := by show _ = _; rw [hE]
                      have HEN : Hid (E.n ≤ 20) := by show _ ≤ _; rw [hE]; show 2 ≤ 20; omega
                      go_wp2_with (first | (at_builtin; go_loud (refine wpList_push _ rfl _ _ 50 rfl w.heap.size 25 i1 zeroEnt 4 56 Tryz.underlying50 hi1 hy0 hy1 hy2 rfl (by decide) entEnc_ok _ es rfl (hpk9.own.alloc _) _ 1 1 [E] rfl (Rd.boxedAt _ entEnc_ok E _ _ (by rw [hE]; rfl) _ (by simp)) (by intro h; cases h) (by simp only [maxLen]; omega) (by omega) (by simp; omega) ?_); intro v9 w10 hown10 hg10 hat10))
                      go_roundw
                      case rel => exact ⟨2, es ++ [E], by omega, by go_num, by rw [show 2 * k + 2 = 2 * k + 1 + 1 from rfl, firstE_succ HTo.out]; exact HFR.out, (hpk9.below ((Below.refl _ _).alloc (Nat.le_refl _) _)).push hown10 hg10 hat10 (hL9.below ((Below.refl _ _).alloc (Nat.le_refl _) _)) HEN.out HEA.out (by have := hz2B.2; simp; omega) (fun e => by have := hvq _ e; have := hz2B.1; omega), by rw [List.map_append, HEs.out, show 2 * k + 2 = 2 * k + 1 + 1 from rfl, HN.out, List.map_cons, List.map_nil, HCO.out], (hb9.alloc hs9 _).grown hg10 (by simp; omega) (fun q e => (hpk9.own.block q e).1)⟩
                      case measure => simp [intOf]
              · go_wp2_with fail
                go_roundw
                case rel => exact ⟨k + 1, es, by omega, by go_num, HTo.out, hpk, HEs.out, hbi⟩
                case measure => simp [intOf]; omega
          · have hkn : k = n := by omega
            subst hkn
            go_wp2_with fail
            go_ret2
            exact ⟨.inr ⟨by rw [HF.out, Hn.out]; exact hto, _, es, rfl, hpk, hes⟩, hbr⟩
    · have HF := hide (elimE_2 (per := per) hp hle)
      clear hp hn hce h20
      obtain ⟨le, hlee⟩ : ∃ le, le = leftE l b cur := ⟨_, rfl⟩
      have HE := hide hlee
      rw [← hlee] at hle
      have hz : (le == 0) = false := by rw [beq_eq_false_iff_ne]; exact hle
      have HL := hide hle
      clear hle hlee
      go_enter Tryz.func45, Tryz.ntmps45
      go_wp2_with fail
      refine (refPairs_any c _ _ _ l _ _ _ _ hcl hcc hc hcok hl ha).mono ?_
      rintro e w1 ⟨rfl, hb1⟩
      rw [HP.out]
      go_wp2_with fail
      refine (refLeft_any l _ _ _ b _ _ _ cur _ hl (ha.below hb1) hbl (hb.below hb1) hcur).mono ?_
      rintro e w2 ⟨⟨hne, rfl⟩ | ⟨h0, _⟩, hb2⟩
      · have hb2 := bthen hb1 (Nat.le_refl _) hb2
        clear hne
        rw [← HE.out]
        go_wp2_with fail
        go_ret2
        exact ⟨.inl ⟨by rw [HF.out, ← HE.out]; exact HL.out, by rw [HF.out, ← HE.out]; rfl⟩, hb2⟩
      · exact absurd (HE.out.trans h0) HL.out
  · have HF := hide (elimE_1 (b := b) (cur := cur) (per := per) hp)
    obtain ⟨pe, hpe⟩ : ∃ pe, pe = pairsE c l := ⟨_, rfl⟩
    have HE := hide hpe
    rw [← hpe] at hp
    have hz : (pe == 0) = false := by rw [beq_eq_false_iff_ne]; exact hp
    have HP := hide hp
    clear hp hn hpe
    go_enter Tryz.func45, Tryz.ntmps45
    go_wp2_with fail
    refine (refPairs_any c _ _ _ l _ _ _ _ hcl hcc hc hcok hl ha).mono ?_
    rintro e w1 ⟨rfl, hb1⟩
    rw [← HE.out]
    go_wp2_with fail
    go_ret2
    exact ⟨.inl ⟨by rw [HF.out, ← HE.out]; exact HP.out, by rw [HF.out, ← HE.out]; rfl⟩, hb1⟩
end Go.Proofs.YthmjkhlndphldaaGreatDoor
