/- pair.Entries: what it returns. -/
import Derived.Test.YthmjkhlndphldaaGreatDoorPairG
import Derived.Deep.RegionHeld3
namespace Go.Proofs.YthmjkhlndphldaaGreatDoor
open Go Go.RowKit
set_option linter.unusedVariables false

theorem far_hit {c : List Acc} {l : List Pr} {b : List Bal} {cur : ByteArray} {per : Int} {m : Nat} (h1 : pairsE c l = 0) (h2 : leftE l b cur = 0) (h3 : inB 1 120 per = true) (hto : firstE (farE l b cur) m = 0) (hm : m < 2 * l.length) (he : farE l b cur m = 1) : elimE c l b cur per = 1 := by
  rw [elimE_4 h1 h2 h3, firstE_hit hto hm (by rw [he]; decide), he]
theorem dec_le (i : Nat) (h : i < 20) : (Lib.decDigits i).length ≤ 2 := by
  by_cases h1 : i < 10
  · rw [Lib.decDigits_one h1]; simp
  · rw [Lib.decDigits_two h1 (by omega)]; simp
theorem idx0 (u0 u1 u2 u3 : Value) (w : World) : (Instr.index 154 (.agg #[u0, u1, u2, u3]) (.int .i64 0)).run Tryz.prog w = .ok (.agg #[u0, u1]) w := by
  simp [Instr.index, run_underlying Tryz.underlying154, asIntOf, go_sem]
theorem idx1 (u0 u1 u2 u3 : Value) (w : World) : (Instr.index 154 (.agg #[u0, u1, u2, u3]) (.int .i64 1)).run Tryz.prog w = .ok (.agg #[u2, u3]) w := by
  simp [Instr.index, run_underlying Tryz.underlying154, asIntOf, go_sem]
theorem keep3 {w : World} {g0 o0 g1 o1 g2 o2 : Nat} {u0 u1 u2 : Value} (o : Obj) (h : w.cell? ⟨g0, o0, none⟩ = some u0 ∧ w.cell? ⟨g1, o1, none⟩ = some u1 ∧ w.cell? ⟨g2, o2, none⟩ = some u2) : (w.alloc o).cell? ⟨g0, o0, none⟩ = some u0 ∧ (w.alloc o).cell? ⟨g1, o1, none⟩ = some u1 ∧ (w.alloc o).cell? ⟨g2, o2, none⟩ = some u2 :=
  ⟨cell?_alloc_keep h.1, cell?_alloc_keep h.2.1, cell?_alloc_keep h.2.2⟩
theorem vp_new {v v' : Value} {pg N : Nat} (h : v.ownBlock ≠ some pg) (hat : v'.ownBlock = v.ownBlock ∨ v'.ownBlock = some N) (hN : pg < N) : v'.ownBlock ≠ some pg := by
  rcases hat with e | e
  · rw [e]; exact h
  · rw [e]; intro e2; injection e2 with e2; omega
theorem PrAt.grown {w w' : World} {g : Nat} {p : Pr} {row : Option Nat} (h : PrAt w g p) (hg : w.grownBy w' row) (hne : row ≠ some g) : PrAt w' g p :=
  ⟨hg.cell h.1 (fun e => hne e.symm), hg.cell h.2.1 (fun e => hne e.symm), hg.cell h.2.2.1 (fun e => hne e.symm), hg.cell h.2.2.2.1 (fun e => hne e.symm), hg.cell h.2.2.2.2 (fun e => hne e.symm)⟩

set_option maxHeartbeats 4000000 in
set_option maxRecDepth 100000 in
theorem entries_any (c : List Acc) (CA : Option Addr) (cn ccap : Nat) (l : List Pr) (A : Option Addr) (n cap : Nat) (b : List Bal) (BA : Option Addr) (bn bcap : Nat) (cur : ByteArray) (per : Int) (w : World)
    (hcl : cn ≤ 9223372036854775807) (hcc : cn ≤ ccap) (hc : Accs w CA cn c) (hcok : AccOk c) (hl : n ≤ 9223372036854775807) (ha : Rd w 5 prEnc A n l) (hbl : bn ≤ 9223372036854775807) (hb : Rd w 4 balEnc BA bn b) (hcur : cur.size ≤ 9223372036854775807) :
    Calls Tryz.prog 46 #[.slice CA cn ccap, .slice A n cap, .slice BA bn bcap, .string cur, .int .i64 per] w fun e w' =>
      ((elimE c l b cur per ≠ 0 ∧ e = .returned (.tuple #[.slice none 0 0, .iface 108 (.int .i64 (elimE c l b cur per))])) ∨
        (elimE c l b cur per = 0 ∧ ∃ v es, e = .returned (.tuple #[v, .nilIface]) ∧ Pack w' w.heap.size v es ∧ es.map Ent.core = coresTo l b cur per (2 * n))) ∧ Below w.heap.size w w' := by
  have hn := ha.1
  have Hn := hide hn
  obtain ⟨i0, hi0, hz0, hz1, hz2⟩ := info_parts ent_info
  by_cases hp : pairsE c l = 0
  · have HP := hide hp
    obtain ⟨hce, h20, _⟩ := pairsE_0 hp
    have hn20 : n ≤ 20 := by omega
    by_cases hle : leftE l b cur = 0
    · have HL := hide hle
      have HB := hide (leftE_0 hle).2.1
      clear hp hle hn hce h20
      cases h3 : inB 1 120 per with
      | false =>
        have HF := hide (elimE_3 HP.out HL.out h3)
        have H3 := hide h3
        clear h3
        go_enter Tryz.func46, Tryz.ntmps46
        go_wp2_with fail
        refine (pcheck_any c _ _ _ l _ _ _ _ hcl hcc hc hcok hl ha).mono ?_
        rintro e w1 ⟨rfl, hb1⟩
        rw [errV_0 HP.out]
        go_wp2_with fail
        refine (pleft_any l _ _ _ b _ _ _ cur _ hl (ha.below hb1) hbl (hb.below hb1) hcur).mono ?_
        rintro e w2 ⟨⟨hne, _⟩ | ⟨_, v2, rfl, hown2⟩, hb2⟩
        · exact absurd HL.out hne
        · have hb2 := bthen hb1 (Nat.le_refl _) hb2
          go_wp2_with fail
          refine (period_any _ _).mono ?_
          rintro e w3 ⟨rfl, rfl⟩
          rw [H3.out]
          go_wp2_with fail
          go_ret2
          exact ⟨.inl ⟨by rw [HF.out]; decide, by rw [HF.out]; rfl⟩, hb2⟩
      | true =>
        have HF := hide (elimE_4 HP.out HL.out h3)
        have H3 := hide h3
        clear h3
        go_enter Tryz.func46, Tryz.ntmps46
        go_wp2_with fail
        refine (pcheck_any c _ _ _ l _ _ _ _ hcl hcc hc hcok hl ha).mono ?_
        rintro e w1 ⟨rfl, hb1⟩
        rw [errV_0 HP.out]
        go_wp2_with fail
        refine (pleft_any l _ _ _ b _ _ _ cur _ hl (ha.below hb1) hbl (hb.below hb1) hcur).mono ?_
        rintro e w2 ⟨⟨hne, _⟩ | ⟨_, v2, rfl, hown2⟩, hb2⟩
        · exact absurd HL.out hne
        have hb2 := bthen hb1 (Nat.le_refl _) hb2
        clear hown2
        go_wp2_with fail
        refine (period_any _ _).mono ?_
        rintro e w3 ⟨rfl, rfl⟩
        rw [H3.out]
        go_wp2_with fail
        go_loopw [15, 43] (fun ov iv wr => ∃ (k : Nat) (es : List Ent), k ≤ n ∧ iv = .int .i64 k ∧ firstE (farE l b cur) (2 * k) = 0 ∧ Pack wr w.heap.size ov es ∧ es.map Ent.core = coresTo l b cur per (2 * k) ∧ Below w.heap.size w wr) (fun _ iv _ => n - (intOf iv).toNat)
        case atStart => exact ⟨0, [], by omega, rfl, rfl, Pack.nil _ _, rfl, hb2⟩
        case round =>
          obtain ⟨k, es, hk, rfl, hto, hpk, hes, hbr⟩ := hrel
          obtain ⟨wo, hwo⟩ : ∃ wo, wo = wr := ⟨_, rfl⟩
          subst hwo
          by_cases hlt : k < n
          · have hkl : k < l.length := by have := Hn.out; omega
            obtain ⟨b0, off, rfl, hcs⟩ := (Rd.below ha hbr).2 (by omega)
            have q0 := hcs k 0 _ hkl rfl
            have q1 := hcs k 1 _ hkl rfl
            have q2 := hcs k 2 _ hkl rfl
            have q3 := hcs k 3 _ hkl rfl
            have q4 := hcs k 4 _ hkl rfl
            rw [Nat.add_zero] at q0
            clear hcs
            have k0 : (0 : Int) ≤ (k : Int) := by omega
            have k1 : (k : Int) < (n : Int) := by omega
            have hsz := hbr.size
            have hX := PrAt.new wo l[k]
            have hB : Below w.heap.size w (wo.alloc (.cells #[.int .i64 l[k].a, .int .i64 l[k].b, .string l[k].one, .string l[k].other, .string l[k].diff] 99)) := hbr.alloc hsz _
            have hpk2 := hpk.below ((Below.refl _ _).alloc (Nat.le_refl _) (.cells #[.int .i64 l[k].a, .int .i64 l[k].b, .string l[k].one, .string l[k].other, .string l[k].diff] 99))
            have HTo := hide hto
            have HEs := hide hes
            have hpk0 := hpk
            clear hto hes hpk
            obtain ⟨pg, hpg⟩ : ∃ pg, pg = wo.heap.size := ⟨_, rfl⟩
            have hpgw : w.heap.size ≤ pg := by omega
            have hvp := fun e => Nat.lt_irrefl _ (Nat.lt_of_lt_of_eq (hpk0.own.block pg e).2 hpg.symm)
            go_wp2_with fail
            rw [← hpg] at hX ⊢
            generalize (wo.alloc (.cells #[.int .i64 l[k].a, .int .i64 l[k].b, .string l[k].one, .string l[k].other, .string l[k].diff] 99)) = W1 at hX hB hpk2 ⊢
            clear hpg
            refine (sides_any l[k] _).mono ?_
            rintro e w4 ⟨rfl, hb4⟩
            have hX := hX.below hb4
            have hpk2 := hpk2.below hb4
            have hB := bthen hB (Nat.le_refl _) hb4
            go_wp2_with fail
            go_loopw [15, 50] (fun ov jv wi => ∃ (j : Nat) (es : List Ent), j ≤ 2 ∧ jv = .int .i64 j ∧ firstE (farE l b cur) (2 * k + j) = 0 ∧ Pack wi w.heap.size ov es ∧ es.map Ent.core = coresTo l b cur per (2 * k + j) ∧ PrAt wi pg l[k] ∧ ov.ownBlock ≠ some pg ∧ Below w.heap.size w wi) (fun _ jv _ => 2 - (intOf jv).toNat)
            case atStart => exact ⟨0, es, by omega, rfl, HTo.out, hpk2, HEs.out, hX, hvp, hB⟩
            case round =>
              clear hX hB hpk2 q0 q1 q2 q3 q4
              obtain ⟨j, es, hj, rfl, hto, hpk, hes, hX, hvp, hbi⟩ := hrel
              have HTo := hide hto
              have HEs := hide hes
              clear hto hes
              have hbk := hb.below hbi
              have hsi := hbi.size
              have hel : es.length ≤ 40 := by have := cores_len HEs.out; have := coresTo_len (l := l) (b := b) (cur := cur) (per := per) (2 * k + j); omega
              obtain ⟨i1, hi1, hy0, hy1, hy2⟩ := info_parts ent_info
              obtain ⟨VA, vc, rfl, hvc, hvm⟩ := hpk.own.form
              have hdl := dec_le k (by omega)
              have hit : ∀ w : World, Calls Tryz.prog 102 #[.int .i64 (k : Int)] w fun e w' => e = .returned (.string ⟨(Lib.decDigits k).toArray⟩) ∧ w' = w := fun w => Tryz.strconv_Itoa_small k (by omega) w
              obtain ⟨dg, hdg⟩ : ∃ dg : ByteArray, dg = ⟨(Lib.decDigits k).toArray⟩ := ⟨_, rfl⟩
              rw [← hdg] at hit
              have hds : dg.size ≤ 2 := by rw [hdg]; simpa [ByteArray.size] using hdl
              have HDG := hide hdg
              clear hdg hdl
              have hw1 : ¬ (9223372036854775807 < (⟨#[112, 97, 105, 114, 45]⟩ : ByteArray).size + dg.size) := by
                have : (⟨#[112, 97, 105, 114, 45]⟩ : ByteArray).size = 5 := rfl
                omega
              have hw2 : ¬ (9223372036854775807 < 5 + dg.size) := by omega
              have hw3 : ¬ (9223372036854775807 < (#[112, 97, 105, 114, 45] : Array UInt8).size + dg.size) := hw1
              have hpd : (⟨#[112, 97, 105, 114, 45]⟩ ++ dg : ByteArray).size = 5 + dg.size := by rw [ByteArray.size_append]; rfl
              have hv1 : ∀ z : ByteArray, z.size = 1 → ¬ (9223372036854775807 < (⟨#[112, 97, 105, 114, 45]⟩ ++ dg : ByteArray).size + z.size) := fun z hz => by rw [hpd, hz]; omega
              have Hv := hide hv1
              clear hpd hv1
              obtain ⟨x0, x1, x2, x3, x4⟩ := hX
              have hgl : pg < wr.heap.size := World.block_lt_of_cell? _ _ x0
              have hcase : j = 0 ∨ j = 1 ∨ j = 2 := by omega
              rcases hcase with rfl | rfl | rfl
              · obtain ⟨nv, hnv⟩ : ∃ nv, nv = nSide b cur l[k] 0 := ⟨_, rfl⟩
                have hget : getB b l[k].a l[k].one cur = nv := by rw [hnv]; rfl
                have HNV := hide hnv
                clear hnv
                have HG := hide hget
                clear hget
                obtain ⟨ab, hab⟩ : ∃ ab, ab = abB.extract 0 (0 + 1) := ⟨_, rfl⟩
                have hsl : ∀ w : World, (Instr.slice 9 (.string ⟨#[97, 98]⟩) (some (.int .i64 0)) (some (.int .i64 1)) none).run Tryz.prog w = .ok (.string ab) w := fun w => by rw [hab]; exact run_slice_string w 9 ⟨#[97, 98]⟩ .i64 .i64 0 1 Tryz.underlying9 (by omega) (by omega) (by decide)
                have hw11 : IntKind.i64.wrap 1 = 1 := by decide
                have hex : (⟨#[97, 98]⟩ : ByteArray).extract 0 1 = ab := hab.symm
                have hab1 : ab.size = 1 := by rw [hab]; rfl
                have hv2 := Hv.out ab hab1
                have hv3 : ¬ (9223372036854775807 < 5 + dg.size + ab.size) := by omega
                have HAB := hide hab
                clear hab hab1
                have hix : ∀ w : World, (Instr.index 154 (.agg #[.int .i64 l[k].a, .string l[k].one, .int .i64 l[k].b, .string l[k].other]) (.int .i64 0)).run Tryz.prog w = .ok (.agg #[.int .i64 l[k].a, .string l[k].one]) w := fun w => idx0 _ _ _ _ w
                by_cases hz : nv = 0
                · have hz1 : (nv == 0) = true := by simpa using hz
                  have HN := hide (cores_no (per := per) hkl (show 0 < 2 by omega) (by rw [← HNV.out]; exact hz))
                  have HFR := hide (far_no hkl (show 0 < 2 by omega) (by rw [← HNV.out]; exact hz))
                  clear hz
                  go_wp2_with fail
                  refine (lget_any b l[k].a l[k].one cur _ _ _ _ hbl (hbk.below ((Below.refl _ _).alloc (Nat.le_refl _) _))).mono ?_
                  rintro e w5 ⟨rfl, hb5⟩
                  rw [HG.out]
                  have y0 : w5.cell? ⟨wr.heap.size, 0, none⟩ = some (.int .i64 l[k].a) := below_cell hb5 (by simp) (by simp)
                  have y1 : w5.cell? ⟨wr.heap.size, 1, none⟩ = some (.string l[k].one) := below_cell hb5 (by simp) (by simp)
                  have hb5 := bof_alloc hb5
                  have hX5 : PrAt w5 pg l[k] := (show PrAt wr pg l[k] from ⟨x0, x1, x2, x3, x4⟩).below hb5
                  have hpk5 := hpk.below hb5
                  have hb5 := bthen hbi (Nat.le_refl _) hb5
                  go_wp2_with fail
                  go_roundw
                  case rel => exact ⟨1, es, by omega, by go_num, by rw [firstE_succ (n := 2 * k) HTo.out]; exact HFR.out, hpk5, by rw [HEs.out]; exact HN.out.symm, hX5, hvp, hb5⟩
                  case measure => simp [intOf]
                · have hz1 : (nv == 0) = false := by simpa using hz
                  cases ham : inB (-1000000000000000) 1000000000000000 nv with
                  | false =>
                    have HX := hide (far_hit HP.out HL.out H3.out HTo.out (by omega) (far_1 hkl (show 0 < 2 by omega) (by rw [← HNV.out]; exact hz) (by rw [← HNV.out]; exact ham)))
                    have HAM := hide ham
                    clear hz ham
                    go_wp2_with fail
                    refine (lget_any b l[k].a l[k].one cur _ _ _ _ hbl (hbk.below ((Below.refl _ _).alloc (Nat.le_refl _) _))).mono ?_
                    rintro e w5 ⟨rfl, hb5⟩
                    rw [HG.out]
                    have y0 : w5.cell? ⟨wr.heap.size, 0, none⟩ = some (.int .i64 l[k].a) := below_cell hb5 (by simp) (by simp)
                    have y1 : w5.cell? ⟨wr.heap.size, 1, none⟩ = some (.string l[k].one) := below_cell hb5 (by simp) (by simp)
                    have hb5 := bof_alloc hb5
                    have hX5 : PrAt w5 pg l[k] := (show PrAt wr pg l[k] from ⟨x0, x1, x2, x3, x4⟩).below hb5
                    have hpk5 := hpk.below hb5
                    have hb5 := bthen hbi (Nat.le_refl _) hb5
                    go_wp2_with fail
                    refine (amount_any _ _).mono ?_
                    rintro e w6 ⟨rfl, rfl⟩
                    rw [HAM.out]
                    go_wp2_with fail
                    go_ret2
                    exact ⟨.inl ⟨by rw [HX.out]; decide, by rw [HX.out]; rfl⟩, hb5⟩
                  | true =>
                    have HN := hide (cores_yes (per := per) hkl (show 0 < 2 by omega) (by rw [← HNV.out]; exact hz))
                    have HFR := hide (far_0 hkl (show 0 < 2 by omega) (by rw [← HNV.out]; exact hz) (by rw [← HNV.out]; exact ham))
                    have HAM := hide ham
                    have hnb : -1000000000000000 ≤ nv ∧ nv ≤ 1000000000000000 := by simpa [inB] using ham
                    obtain ⟨hn1, hn2⟩ := hnb
                    clear hz ham
                    go_wp2_with fail
                    refine (lget_any b l[k].a l[k].one cur _ _ _ _ hbl (hbk.below ((Below.refl _ _).alloc (Nat.le_refl _) _))).mono ?_
                    rintro e w5 ⟨rfl, hb5⟩
                    rw [HG.out]
                    have y0 : w5.cell? ⟨wr.heap.size, 0, none⟩ = some (.int .i64 l[k].a) := below_cell hb5 (by simp) (by simp)
                    have y1 : w5.cell? ⟨wr.heap.size, 1, none⟩ = some (.string l[k].one) := below_cell hb5 (by simp) (by simp)
                    have hb5 := bof_alloc hb5
                    have hX5 : PrAt w5 pg l[k] := (show PrAt wr pg l[k] from ⟨x0, x1, x2, x3, x4⟩).below hb5
                    have hpk5 := hpk.below hb5
                    have hb5 := bthen hbi (Nat.le_refl _) hb5
                    go_wp2_with fail
                    refine (amount_any _ _).mono ?_
                    rintro e w6 ⟨rfl, rfl⟩
                    rw [HAM.out]
                    have hwn : IntKind.i64.wrap (-nv) = -nv := IntWalk.i64_in _ (by omega)
                    have hS := And.intro y0 (And.intro y1 hX5.2.2.2.2)
                    have hd5 : Below w.heap.size w w5.drew := bdrewN hb5 1
                    have hs5 : w.heap.size ≤ w5.heap.size := hb5.size
                    obtain ⟨E, hE⟩ : ∃ E : Ent, E = ⟨⟨#[112, 97, 105, 114, 45]⟩ ++ dg ++ ab, l[k].a, per, some ⟨w5.heap.size, 0, none⟩, 2, 2, [⟨l[k].one, cur, -nv⟩, ⟨l[k].diff, cur, nv⟩]⟩ := ⟨_, rfl⟩
                    have hpk7 : Pack ((w5.alloc (.cells #[.string l[k].one, .string cur, .int .i64 (-nv), .string l[k].diff, .string cur, .int .i64 nv] 35)).alloc (.cells #[.string (⟨#[112, 97, 105, 114, 45]⟩ ++ dg ++ ab), .int .i64 l[k].a, .int .i64 per, .slice (some ⟨w5.heap.size, 0, none⟩) 2 2] 25)).drew w.heap.size (.slice VA es.length vc) es := hpk5.below (((((Below.refl _ _).alloc (Nat.le_refl _) (.cells #[.string l[k].one, .string cur, .int .i64 (-nv), .string l[k].diff, .string cur, .int .i64 nv] 35))).alloc (by simp) (.cells #[.string (⟨#[112, 97, 105, 114, 45]⟩ ++ dg ++ ab), .int .i64 l[k].a, .int .i64 per, .slice (some ⟨w5.heap.size, 0, none⟩) 2 2] 25)).drew)
                    have hR7 : Rd ((w5.alloc (.cells #[.string l[k].one, .string cur, .int .i64 (-nv), .string l[k].diff, .string cur, .int .i64 nv] 35)).alloc (.cells #[.string (⟨#[112, 97, 105, 114, 45]⟩ ++ dg ++ ab), .int .i64 l[k].a, .int .i64 per, .slice (some ⟨w5.heap.size, 0, none⟩) 2 2] 25)).drew 4 Ent.enc (some ⟨(w5.alloc (.cells #[.string l[k].one, .string cur, .int .i64 (-nv), .string l[k].diff, .string cur, .int .i64 nv] 35)).heap.size, 0, none⟩) 1 [E] := Rd.boxed (w5.alloc (.cells #[.string l[k].one, .string cur, .int .i64 (-nv), .string l[k].diff, .string cur, .int .i64 nv] 35)) entEnc_ok E _ _ (by rw [hE]; rfl)
                    have hL7 : Rd ((w5.alloc (.cells #[.string l[k].one, .string cur, .int .i64 (-nv), .string l[k].diff, .string cur, .int .i64 nv] 35)).alloc (.cells #[.string (⟨#[112, 97, 105, 114, 45]⟩ ++ dg ++ ab), .int .i64 l[k].a, .int .i64 per, .slice (some ⟨w5.heap.size, 0, none⟩) 2 2] 25)).drew 3 lineEnc (some ⟨w5.heap.size, 0, none⟩) 2 [⟨l[k].one, cur, -nv⟩, ⟨l[k].diff, cur, nv⟩] := (Rd.lit w5 lineEnc_ok [⟨l[k].one, cur, -nv⟩, ⟨l[k].diff, cur, nv⟩] 2 rfl _ _ rfl).below ((Below.refl _ _).alloc (Nat.le_refl _) (.cells #[.string (⟨#[112, 97, 105, 114, 45]⟩ ++ dg ++ ab), .int .i64 l[k].a, .int .i64 per, .slice (some ⟨w5.heap.size, 0, none⟩) 2 2] 25)).drew
                    have hS7 := keep3 (.cells #[.string (⟨#[112, 97, 105, 114, 45]⟩ ++ dg ++ ab), .int .i64 l[k].a, .int .i64 per, .slice (some ⟨w5.heap.size, 0, none⟩) 2 2] 25) (keep3 (.cells #[.string l[k].one, .string cur, .int .i64 (-nv), .string l[k].diff, .string cur, .int .i64 nv] 35) hS)
                    have hs7 : ((w5.alloc (.cells #[.string l[k].one, .string cur, .int .i64 (-nv), .string l[k].diff, .string cur, .int .i64 nv] 35)).alloc (.cells #[.string (⟨#[112, 97, 105, 114, 45]⟩ ++ dg ++ ab), .int .i64 l[k].a, .int .i64 per, .slice (some ⟨w5.heap.size, 0, none⟩) 2 2] 25)).drew.heap.size = w5.heap.size + 2 := by show ((w5.alloc (.cells #[.string l[k].one, .string cur, .int .i64 (-nv), .string l[k].diff, .string cur, .int .i64 nv] 35)).alloc (.cells #[.string (⟨#[112, 97, 105, 114, 45]⟩ ++ dg ++ ab), .int .i64 l[k].a, .int .i64 per, .slice (some ⟨w5.heap.size, 0, none⟩) 2 2] 25)).heap.size = _; simp
                    have hb7 : Below w.heap.size w ((w5.alloc (.cells #[.string l[k].one, .string cur, .int .i64 (-nv), .string l[k].diff, .string cur, .int .i64 nv] 35)).alloc (.cells #[.string (⟨#[112, 97, 105, 114, 45]⟩ ++ dg ++ ab), .int .i64 l[k].a, .int .i64 per, .slice (some ⟨w5.heap.size, 0, none⟩) 2 2] 25)).drew := ((hb5.alloc hs5 (.cells #[.string l[k].one, .string cur, .int .i64 (-nv), .string l[k].diff, .string cur, .int .i64 nv] 35)).alloc (by simp; omega) (.cells #[.string (⟨#[112, 97, 105, 114, 45]⟩ ++ dg ++ ab), .int .i64 l[k].a, .int .i64 per, .slice (some ⟨w5.heap.size, 0, none⟩) 2 2] 25)).drew
                    have hva := fun q (e : Value.ownBlock (.slice VA es.length vc) = some q) => (hpk.own.block q e).2
                    have HCO : Hid (Ent.core E = (pairRef k 0, sdEnt l[k] 0, per, [⟨sdAcc l[k] 0, cur, -(nSide b cur l[k] 0)⟩, ⟨l[k].diff, cur, nSide b cur l[k] 0⟩])) := by show _ = _; rw [hE, ← HNV.out]; unfold pairRef; rw [← HDG.out, ← HAB.out]; rfl
                    have hX7 : PrAt ((w5.alloc (.cells #[.string l[k].one, .string cur, .int .i64 (-nv), .string l[k].diff, .string cur, .int .i64 nv] 35)).alloc (.cells #[.string (⟨#[112, 97, 105, 114, 45]⟩ ++ dg ++ ab), .int .i64 l[k].a, .int .i64 per, .slice (some ⟨w5.heap.size, 0, none⟩) 2 2] 25)).drew pg l[k] := hX5.below (((((Below.refl _ _).alloc (Nat.le_refl _) (.cells #[.string l[k].one, .string cur, .int .i64 (-nv), .string l[k].diff, .string cur, .int .i64 nv] 35))).alloc (by simp) (.cells #[.string (⟨#[112, 97, 105, 114, 45]⟩ ++ dg ++ ab), .int .i64 l[k].a, .int .i64 per, .slice (some ⟨w5.heap.size, 0, none⟩) 2 2] 25)).drew)
                    have hv5 : wr.heap.size < w5.heap.size := World.block_lt_of_cell? _ _ y0
                    go_wp2_with fail
                    go_region_held3 (fun w' => w'.cell? ⟨wr.heap.size, 0, none⟩ = some (.int .i64 l[k].a) ∧ w'.cell? ⟨wr.heap.size, 1, none⟩ = some (.string l[k].one) ∧ w'.cell? ⟨pg, 4, none⟩ = some (.string l[k].diff)) (first | exact hS | exact keep3 _ hS | exact keep3 _ (keep3 _ hS)) (first | (go_at_call 102; refine (hit _).mono ?_; rintro e w7 ⟨rfl, rfl⟩) | (refine step_pushJ _ rfl _ _ 50 rfl w.heap.size 25 i1 zeroEnt 4 56 Tryz.underlying50 hi1 hy0 hy1 hy2 rfl (by decide) entEnc_ok (.slice VA es.length vc) es (by simp [Act.eval]) hpk7.own _ 1 1 [E] (by simp [Act.eval]) hR7 (by intro h; cases h) (by simp only [maxLen]; omega) (by omega) (by omega) ?_; intro v' w7 hown7 hg7 hat7; have hS : w7.cell? ⟨wr.heap.size, 0, none⟩ = some (.int .i64 l[k].a) ∧ w7.cell? ⟨wr.heap.size, 1, none⟩ = some (.string l[k].one) ∧ w7.cell? ⟨pg, 4, none⟩ = some (.string l[k].diff) := ⟨hg7.cell hS7.1 (fun e => Nat.lt_irrefl _ (hva _ e.symm)), hg7.cell hS7.2.1 (fun e => Nat.lt_irrefl _ (hva _ e.symm)), hg7.cell hS7.2.2 (fun e => hvp e.symm)⟩))
                    all_goals
                      go_wp2_with fail
                      go_roundw
                      case rel => exact ⟨1, es ++ [E], by omega, by go_num, by rw [show 2 * k + 1 = 2 * k + 0 + 1 from rfl, firstE_succ HTo.out]; exact HFR.out, hpk7.push hown7 hg7 hat7 (by rw [hE]; exact hL7) (by rw [hE]; show 2 ≤ 20; omega) (b := w5.heap.size) (off := 0) (by rw [hE]) (by rw [hs7]; omega) (fun e => Nat.lt_irrefl _ (Nat.lt_trans (hva _ e) hv5)), by rw [List.map_append, HEs.out, show 2 * k + 1 = 2 * k + 0 + 1 from rfl, HN.out, List.map_cons, List.map_nil, HCO.out], hX7.grown hg7 hvp, vp_new hvp hat7 (by rw [hs7]; omega), hb7.grown hg7 (by omega) (fun q e => (hpk7.own.block q e).1)⟩
                      case measure => simp [intOf]
              · obtain ⟨nv, hnv⟩ : ∃ nv, nv = nSide b cur l[k] 1 := ⟨_, rfl⟩
                have hget : getB b l[k].b l[k].other cur = nv := by rw [hnv]; rfl
                have HNV := hide hnv
                clear hnv
                have HG := hide hget
                clear hget
                obtain ⟨ab, hab⟩ : ∃ ab, ab = abB.extract 1 (1 + 1) := ⟨_, rfl⟩
                have hsl : ∀ w : World, (Instr.slice 9 (.string ⟨#[97, 98]⟩) (some (.int .i64 1)) (some (.int .i64 2)) none).run Tryz.prog w = .ok (.string ab) w := fun w => by rw [hab]; exact run_slice_string w 9 ⟨#[97, 98]⟩ .i64 .i64 1 2 Tryz.underlying9 (by omega) (by omega) (by decide)
                have hw11 : IntKind.i64.wrap 2 = 2 := by decide
                have hex : (⟨#[97, 98]⟩ : ByteArray).extract 1 2 = ab := hab.symm
                have hab1 : ab.size = 1 := by rw [hab]; rfl
                have hv2 := Hv.out ab hab1
                have hv3 : ¬ (9223372036854775807 < 5 + dg.size + ab.size) := by omega
                have HAB := hide hab
                clear hab hab1
                have hix : ∀ w : World, (Instr.index 154 (.agg #[.int .i64 l[k].a, .string l[k].one, .int .i64 l[k].b, .string l[k].other]) (.int .i64 1)).run Tryz.prog w = .ok (.agg #[.int .i64 l[k].b, .string l[k].other]) w := fun w => idx1 _ _ _ _ w
                by_cases hz : nv = 0
                · have hz1 : (nv == 0) = true := by simpa using hz
                  have HN := hide (cores_no (per := per) hkl (show 1 < 2 by omega) (by rw [← HNV.out]; exact hz))
                  have HFR := hide (far_no hkl (show 1 < 2 by omega) (by rw [← HNV.out]; exact hz))
                  clear hz
                  go_wp2_with fail
                  refine (lget_any b l[k].b l[k].other cur _ _ _ _ hbl (hbk.below ((Below.refl _ _).alloc (Nat.le_refl _) _))).mono ?_
                  rintro e w5 ⟨rfl, hb5⟩
                  rw [HG.out]
                  have y0 : w5.cell? ⟨wr.heap.size, 0, none⟩ = some (.int .i64 l[k].b) := below_cell hb5 (by simp) (by simp)
                  have y1 : w5.cell? ⟨wr.heap.size, 1, none⟩ = some (.string l[k].other) := below_cell hb5 (by simp) (by simp)
                  have hb5 := bof_alloc hb5
                  have hX5 : PrAt w5 pg l[k] := (show PrAt wr pg l[k] from ⟨x0, x1, x2, x3, x4⟩).below hb5
                  have hpk5 := hpk.below hb5
                  have hb5 := bthen hbi (Nat.le_refl _) hb5
                  go_wp2_with fail
                  go_roundw
                  case rel => exact ⟨2, es, by omega, by go_num, by rw [show 2 * k + 2 = 2 * k + 1 + 1 from rfl, firstE_succ HTo.out]; exact HFR.out, hpk5, by rw [show 2 * k + 2 = 2 * k + 1 + 1 from rfl, HN.out]; exact HEs.out, hX5, hvp, hb5⟩
                  case measure => simp [intOf]
                · have hz1 : (nv == 0) = false := by simpa using hz
                  cases ham : inB (-1000000000000000) 1000000000000000 nv with
                  | false =>
                    have HX := hide (far_hit HP.out HL.out H3.out HTo.out (by omega) (far_1 hkl (show 1 < 2 by omega) (by rw [← HNV.out]; exact hz) (by rw [← HNV.out]; exact ham)))
                    have HAM := hide ham
                    clear hz ham
                    go_wp2_with fail
                    refine (lget_any b l[k].b l[k].other cur _ _ _ _ hbl (hbk.below ((Below.refl _ _).alloc (Nat.le_refl _) _))).mono ?_
                    rintro e w5 ⟨rfl, hb5⟩
                    rw [HG.out]
                    have y0 : w5.cell? ⟨wr.heap.size, 0, none⟩ = some (.int .i64 l[k].b) := below_cell hb5 (by simp) (by simp)
                    have y1 : w5.cell? ⟨wr.heap.size, 1, none⟩ = some (.string l[k].other) := below_cell hb5 (by simp) (by simp)
                    have hb5 := bof_alloc hb5
                    have hX5 : PrAt w5 pg l[k] := (show PrAt wr pg l[k] from ⟨x0, x1, x2, x3, x4⟩).below hb5
                    have hpk5 := hpk.below hb5
                    have hb5 := bthen hbi (Nat.le_refl _) hb5
                    go_wp2_with fail
                    refine (amount_any _ _).mono ?_
                    rintro e w6 ⟨rfl, rfl⟩
                    rw [HAM.out]
                    go_wp2_with fail
                    go_ret2
                    exact ⟨.inl ⟨by rw [HX.out]; decide, by rw [HX.out]; rfl⟩, hb5⟩
                  | true =>
                    have HN := hide (cores_yes (per := per) hkl (show 1 < 2 by omega) (by rw [← HNV.out]; exact hz))
                    have HFR := hide (far_0 hkl (show 1 < 2 by omega) (by rw [← HNV.out]; exact hz) (by rw [← HNV.out]; exact ham))
                    have HAM := hide ham
                    have hnb : -1000000000000000 ≤ nv ∧ nv ≤ 1000000000000000 := by simpa [inB] using ham
                    obtain ⟨hn1, hn2⟩ := hnb
                    clear hz ham
                    go_wp2_with fail
                    refine (lget_any b l[k].b l[k].other cur _ _ _ _ hbl (hbk.below ((Below.refl _ _).alloc (Nat.le_refl _) _))).mono ?_
                    rintro e w5 ⟨rfl, hb5⟩
                    rw [HG.out]
                    have y0 : w5.cell? ⟨wr.heap.size, 0, none⟩ = some (.int .i64 l[k].b) := below_cell hb5 (by simp) (by simp)
                    have y1 : w5.cell? ⟨wr.heap.size, 1, none⟩ = some (.string l[k].other) := below_cell hb5 (by simp) (by simp)
                    have hb5 := bof_alloc hb5
                    have hX5 : PrAt w5 pg l[k] := (show PrAt wr pg l[k] from ⟨x0, x1, x2, x3, x4⟩).below hb5
                    have hpk5 := hpk.below hb5
                    have hb5 := bthen hbi (Nat.le_refl _) hb5
                    go_wp2_with fail
                    refine (amount_any _ _).mono ?_
                    rintro e w6 ⟨rfl, rfl⟩
                    rw [HAM.out]
                    have hwn : IntKind.i64.wrap (-nv) = -nv := IntWalk.i64_in _ (by omega)
                    have hS := And.intro y0 (And.intro y1 hX5.2.2.2.2)
                    have hd5 : Below w.heap.size w w5.drew := bdrewN hb5 1
                    have hs5 : w.heap.size ≤ w5.heap.size := hb5.size
                    obtain ⟨E, hE⟩ : ∃ E : Ent, E = ⟨⟨#[112, 97, 105, 114, 45]⟩ ++ dg ++ ab, l[k].b, per, some ⟨w5.heap.size, 0, none⟩, 2, 2, [⟨l[k].other, cur, -nv⟩, ⟨l[k].diff, cur, nv⟩]⟩ := ⟨_, rfl⟩
                    have hpk7 : Pack ((w5.alloc (.cells #[.string l[k].other, .string cur, .int .i64 (-nv), .string l[k].diff, .string cur, .int .i64 nv] 35)).alloc (.cells #[.string (⟨#[112, 97, 105, 114, 45]⟩ ++ dg ++ ab), .int .i64 l[k].b, .int .i64 per, .slice (some ⟨w5.heap.size, 0, none⟩) 2 2] 25)).drew w.heap.size (.slice VA es.length vc) es := hpk5.below (((((Below.refl _ _).alloc (Nat.le_refl _) (.cells #[.string l[k].other, .string cur, .int .i64 (-nv), .string l[k].diff, .string cur, .int .i64 nv] 35))).alloc (by simp) (.cells #[.string (⟨#[112, 97, 105, 114, 45]⟩ ++ dg ++ ab), .int .i64 l[k].b, .int .i64 per, .slice (some ⟨w5.heap.size, 0, none⟩) 2 2] 25)).drew)
                    have hR7 : Rd ((w5.alloc (.cells #[.string l[k].other, .string cur, .int .i64 (-nv), .string l[k].diff, .string cur, .int .i64 nv] 35)).alloc (.cells #[.string (⟨#[112, 97, 105, 114, 45]⟩ ++ dg ++ ab), .int .i64 l[k].b, .int .i64 per, .slice (some ⟨w5.heap.size, 0, none⟩) 2 2] 25)).drew 4 Ent.enc (some ⟨(w5.alloc (.cells #[.string l[k].other, .string cur, .int .i64 (-nv), .string l[k].diff, .string cur, .int .i64 nv] 35)).heap.size, 0, none⟩) 1 [E] := Rd.boxed (w5.alloc (.cells #[.string l[k].other, .string cur, .int .i64 (-nv), .string l[k].diff, .string cur, .int .i64 nv] 35)) entEnc_ok E _ _ (by rw [hE]; rfl)
                    have hL7 : Rd ((w5.alloc (.cells #[.string l[k].other, .string cur, .int .i64 (-nv), .string l[k].diff, .string cur, .int .i64 nv] 35)).alloc (.cells #[.string (⟨#[112, 97, 105, 114, 45]⟩ ++ dg ++ ab), .int .i64 l[k].b, .int .i64 per, .slice (some ⟨w5.heap.size, 0, none⟩) 2 2] 25)).drew 3 lineEnc (some ⟨w5.heap.size, 0, none⟩) 2 [⟨l[k].other, cur, -nv⟩, ⟨l[k].diff, cur, nv⟩] := (Rd.lit w5 lineEnc_ok [⟨l[k].other, cur, -nv⟩, ⟨l[k].diff, cur, nv⟩] 2 rfl _ _ rfl).below ((Below.refl _ _).alloc (Nat.le_refl _) (.cells #[.string (⟨#[112, 97, 105, 114, 45]⟩ ++ dg ++ ab), .int .i64 l[k].b, .int .i64 per, .slice (some ⟨w5.heap.size, 0, none⟩) 2 2] 25)).drew
                    have hS7 := keep3 (.cells #[.string (⟨#[112, 97, 105, 114, 45]⟩ ++ dg ++ ab), .int .i64 l[k].b, .int .i64 per, .slice (some ⟨w5.heap.size, 0, none⟩) 2 2] 25) (keep3 (.cells #[.string l[k].other, .string cur, .int .i64 (-nv), .string l[k].diff, .string cur, .int .i64 nv] 35) hS)
                    have hs7 : ((w5.alloc (.cells #[.string l[k].other, .string cur, .int .i64 (-nv), .string l[k].diff, .string cur, .int .i64 nv] 35)).alloc (.cells #[.string (⟨#[112, 97, 105, 114, 45]⟩ ++ dg ++ ab), .int .i64 l[k].b, .int .i64 per, .slice (some ⟨w5.heap.size, 0, none⟩) 2 2] 25)).drew.heap.size = w5.heap.size + 2 := by show ((w5.alloc (.cells #[.string l[k].other, .string cur, .int .i64 (-nv), .string l[k].diff, .string cur, .int .i64 nv] 35)).alloc (.cells #[.string (⟨#[112, 97, 105, 114, 45]⟩ ++ dg ++ ab), .int .i64 l[k].b, .int .i64 per, .slice (some ⟨w5.heap.size, 0, none⟩) 2 2] 25)).heap.size = _; simp
                    have hb7 : Below w.heap.size w ((w5.alloc (.cells #[.string l[k].other, .string cur, .int .i64 (-nv), .string l[k].diff, .string cur, .int .i64 nv] 35)).alloc (.cells #[.string (⟨#[112, 97, 105, 114, 45]⟩ ++ dg ++ ab), .int .i64 l[k].b, .int .i64 per, .slice (some ⟨w5.heap.size, 0, none⟩) 2 2] 25)).drew := ((hb5.alloc hs5 (.cells #[.string l[k].other, .string cur, .int .i64 (-nv), .string l[k].diff, .string cur, .int .i64 nv] 35)).alloc (by simp; omega) (.cells #[.string (⟨#[112, 97, 105, 114, 45]⟩ ++ dg ++ ab), .int .i64 l[k].b, .int .i64 per, .slice (some ⟨w5.heap.size, 0, none⟩) 2 2] 25)).drew
                    have hva := fun q (e : Value.ownBlock (.slice VA es.length vc) = some q) => (hpk.own.block q e).2
                    have HCO : Hid (Ent.core E = (pairRef k 1, sdEnt l[k] 1, per, [⟨sdAcc l[k] 1, cur, -(nSide b cur l[k] 1)⟩, ⟨l[k].diff, cur, nSide b cur l[k] 1⟩])) := by show _ = _; rw [hE, ← HNV.out]; unfold pairRef; rw [← HDG.out, ← HAB.out]; rfl
                    have hX7 : PrAt ((w5.alloc (.cells #[.string l[k].other, .string cur, .int .i64 (-nv), .string l[k].diff, .string cur, .int .i64 nv] 35)).alloc (.cells #[.string (⟨#[112, 97, 105, 114, 45]⟩ ++ dg ++ ab), .int .i64 l[k].b, .int .i64 per, .slice (some ⟨w5.heap.size, 0, none⟩) 2 2] 25)).drew pg l[k] := hX5.below (((((Below.refl _ _).alloc (Nat.le_refl _) (.cells #[.string l[k].other, .string cur, .int .i64 (-nv), .string l[k].diff, .string cur, .int .i64 nv] 35))).alloc (by simp) (.cells #[.string (⟨#[112, 97, 105, 114, 45]⟩ ++ dg ++ ab), .int .i64 l[k].b, .int .i64 per, .slice (some ⟨w5.heap.size, 0, none⟩) 2 2] 25)).drew)
                    have hv5 : wr.heap.size < w5.heap.size := World.block_lt_of_cell? _ _ y0
                    go_wp2_with fail
                    go_region_held3 (fun w' => w'.cell? ⟨wr.heap.size, 0, none⟩ = some (.int .i64 l[k].b) ∧ w'.cell? ⟨wr.heap.size, 1, none⟩ = some (.string l[k].other) ∧ w'.cell? ⟨pg, 4, none⟩ = some (.string l[k].diff)) (first | exact hS | exact keep3 _ hS | exact keep3 _ (keep3 _ hS)) (first | (go_at_call 102; refine (hit _).mono ?_; rintro e w7 ⟨rfl, rfl⟩) | (refine step_pushJ _ rfl _ _ 50 rfl w.heap.size 25 i1 zeroEnt 4 56 Tryz.underlying50 hi1 hy0 hy1 hy2 rfl (by decide) entEnc_ok (.slice VA es.length vc) es (by simp [Act.eval]) hpk7.own _ 1 1 [E] (by simp [Act.eval]) hR7 (by intro h; cases h) (by simp only [maxLen]; omega) (by omega) (by omega) ?_; intro v' w7 hown7 hg7 hat7; have hS : w7.cell? ⟨wr.heap.size, 0, none⟩ = some (.int .i64 l[k].b) ∧ w7.cell? ⟨wr.heap.size, 1, none⟩ = some (.string l[k].other) ∧ w7.cell? ⟨pg, 4, none⟩ = some (.string l[k].diff) := ⟨hg7.cell hS7.1 (fun e => Nat.lt_irrefl _ (hva _ e.symm)), hg7.cell hS7.2.1 (fun e => Nat.lt_irrefl _ (hva _ e.symm)), hg7.cell hS7.2.2 (fun e => hvp e.symm)⟩))
                    all_goals
                      go_wp2_with fail
                      go_roundw
                      case rel => exact ⟨2, es ++ [E], by omega, by go_num, by rw [show 2 * k + 2 = 2 * k + 1 + 1 from rfl, firstE_succ HTo.out]; exact HFR.out, hpk7.push hown7 hg7 hat7 (by rw [hE]; exact hL7) (by rw [hE]; show 2 ≤ 20; omega) (b := w5.heap.size) (off := 0) (by rw [hE]) (by rw [hs7]; omega) (fun e => Nat.lt_irrefl _ (Nat.lt_trans (hva _ e) hv5)), by rw [List.map_append, HEs.out, show 2 * k + 2 = 2 * k + 1 + 1 from rfl, HN.out, List.map_cons, List.map_nil, HCO.out], hX7.grown hg7 hvp, vp_new hvp hat7 (by rw [hs7]; omega), hb7.grown hg7 (by omega) (fun q e => (hpk7.own.block q e).1)⟩
                      case measure => simp [intOf]
              · go_wp2_with fail
                go_roundw
                case rel => exact ⟨k + 1, es, by omega, by go_num, HTo.out, hpk, HEs.out, hbi⟩
                case measure => simp [intOf]; omega
          · have hkn : k = n := by omega
            subst hkn
            go_wp2_with fail
            go_ret2
            exact ⟨.inr ⟨by rw [HF.out, Hn.out]; exact hto, _, es, rfl, hpk, hes⟩, hbr⟩
    · have HF := hide (elimE_2 (per := per) hp hle)
      have HL := hide hle
      clear hp hn hce h20
      obtain ⟨le, hlee⟩ : ∃ le, le = leftE l b cur := ⟨_, rfl⟩
      have HE := hide hlee
      clear hle hlee
      go_enter Tryz.func46, Tryz.ntmps46
      go_wp2_with fail
      refine (pcheck_any c _ _ _ l _ _ _ _ hcl hcc hc hcok hl ha).mono ?_
      rintro e w1 ⟨rfl, hb1⟩
      rw [errV_0 HP.out]
      go_wp2_with fail
      refine (pleft_any l _ _ _ b _ _ _ cur _ hl (ha.below hb1) hbl (hb.below hb1) hcur).mono ?_
      rintro e w2 ⟨⟨hne, rfl⟩ | ⟨h0, _⟩, hb2⟩
      · have hb2 := bthen hb1 (Nat.le_refl _) hb2
        clear hne
        go_wp2_with fail
        go_ret2
        exact ⟨.inl ⟨by rw [HF.out]; exact HL.out, by rw [HF.out]; rfl⟩, hb2⟩
      · exact absurd h0 HL.out
  · have HF := hide (elimE_1 (b := b) (cur := cur) (per := per) hp)
    have HP := hide hp
    clear hp hn
    go_enter Tryz.func46, Tryz.ntmps46
    go_wp2_with fail
    refine (pcheck_any c _ _ _ l _ _ _ _ hcl hcc hc hcok hl ha).mono ?_
    rintro e w1 ⟨rfl, hb1⟩
    rw [errV_n HP.out]
    go_wp2_with fail
    go_ret2
    exact ⟨.inl ⟨by rw [HF.out]; exact HP.out, by rw [HF.out]; rfl⟩, hb1⟩
end Go.Proofs.YthmjkhlndphldaaGreatDoor
