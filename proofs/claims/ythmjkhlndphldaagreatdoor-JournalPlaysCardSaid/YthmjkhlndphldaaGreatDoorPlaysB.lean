/- daylaw3.JournalPlays returns true: more than sixty entries. -/
import Derived.Test.YthmjkhlndphldaaGreatDoorPlayAll
import Derived.Deep.CutRange
namespace Go.Proofs.YthmjkhlndphldaaGreatDoor
open Go Go.RowKit
set_option linter.unusedVariables false

set_option maxHeartbeats 16000000 in
set_option maxRecDepth 100000 in
theorem plays_b (c : List Acc) (CA : Option Addr) (cn ccap : Nat) (L : List Ent) (LA : Option Addr) (ln lcap : Nat) (ent per : Int) (acc cur : ByteArray) (w : World) (hg : ErrTy w)
    (hcc : cn ≤ ccap) (hcm : ccap ≤ maxLen) (hc : Accs w CA cn c) (hcok : AccOk c) (hlc : ln ≤ lcap) (hlm : lcap ≤ maxLen) (hL : Rd w 4 Ent.enc LA ln L) (hln60 : 60 < ln) (hLok : ∀ e, e ∈ L → EntFits w e) :
    Calls Tryz.prog 7 #[.slice CA cn ccap, .slice LA ln lcap, .int .i64 ent, .int .i64 per, .string acc, .string cur] w
      fun e w' => e = .returned (.bool true) ∧ Below w.heap.size w w' := by
  obtain ⟨i0, hi0, hz0, hz1, hz2⟩ := info_parts ent_info
  obtain ⟨j0, hj0, hy0, hy1, hy2⟩ := info_parts int_info
  have hcn : cn ≤ 9223372036854775807 := by unfold maxLen at hcm; omega
  have hln : ln ≤ 9223372036854775807 := by unfold maxLen at hlm; omega
  have Hn := hide hL.1
  go_enter Tryz.func7, Tryz.ntmps7
  go_wp2_with fail
  refine (jnew_any _).mono ?_
  rintro e w1 ⟨g, m, rfl, hJ1, hb1⟩
  go_wp2_with fail
  go_loopw [14, 15] (fun av iv wr => ∃ (k : Nat) (v : Value) (es al : List Ent), k ≤ 60 ∧ k ≤ ln ∧ iv = .int .i64 k ∧ es.length ≤ k ∧ Rights c es ∧ SameE es al ∧ (∀ e, e ∈ al → EntFits w e) ∧ Jrn wr w.heap.size g m v es ∧ Own wr w.heap.size 25 4 Ent.enc av al ∧ Apart g m v es av.ownBlock ∧ Below w.heap.size w wr) (fun _ iv _ => 60 - (intOf iv).toNat)
  case atStart => exact ⟨0, _, [], [], by omega, by omega, rfl, by simp, (fun x hx => by cases hx), rfl, (fun x hx => by cases hx), hJ1, Own.nil _ _ _ _ _, Apart.none _ _ _ _, hb1⟩
  case round =>
    as_aux_lemma =>
    obtain ⟨k, v, es, al, hk60, hkn, rfl, hes, hri, hsm, hal, hJ, hO, hap, hbr⟩ := hrel
    obtain ⟨wo, hwo⟩ : ∃ wo, wo = wr := ⟨_, rfl⟩
    have hRi := hide hri
    have hSm := hide hsm
    have hAl := hide hal
    have hlen := hsm.len
    have hbrs := hbr.size
    clear hri hsm hal
    obtain ⟨AA, ac, rfl, hac, hacm⟩ := hO.form
    have hrA := hO.rd entEnc_ok
    by_cases hgo : k < ln ∧ k < 60
    · obtain ⟨hlt, hlt60⟩ := hgo
      have hkl : k < L.length := by have := Hn.out; omega
      obtain ⟨b, off, rfl, hcs⟩ := hL.2 (by omega)
      have q0 := hcs k 0 _ hkl rfl
      have q1 := hcs k 1 _ hkl rfl
      have q2 := hcs k 2 _ hkl rfl
      have q3 := hcs k 3 _ hkl rfl
      rw [Nat.add_zero] at q0
      clear hcs
      have hqb : b < w.heap.size := World.block_lt_of_cell? _ _ q1
      have qr0 := below_cell hbr hqb q0
      have qr1 := below_cell hbr hqb q1
      have qr2 := below_cell hbr hqb q2
      have qr3 := below_cell hbr hqb q3
      have hfw := hLok L[k] (List.getElem_mem _)
      have hfit := hfw.below hbr
      have k0 : (0 : Int) ≤ (k : Int) := by omega
      have k1 : (k : Int) < (ln : Int) := by omega
      have k2 : (k : Int) < 60 := by omega
      have hf3 : L[k].n ≤ 9223372036854775807 := by have := hfw.2.1; have := hfw.2.2.1; unfold maxLen at this; omega
      go_wp2_with fail
      refine (refEntry_any c _ _ _ L[k].ref L[k].ent L[k].per L[k].lines L[k].A L[k].n L[k].cap _ hcn hcc (hc.below hbr) hcok hfit.1 hf3 hfit.2.2.2.1 hfit.2.2.2.2.1).mono ?_
      rintro e w2 ⟨rfl, hb2⟩
      have hPS := post_scan (c := c) (ref := L[k].ref) (ent := L[k].ent) (per := L[k].per) (l := L[k].lines) hSm.out (by omega)
      have hR0 := entE_range c L[k].ref L[k].ent L[k].per L[k].lines
      obtain ⟨e0, he0⟩ : ∃ e0, e0 = entE c L[k].ref L[k].ent L[k].per L[k].lines := ⟨_, rfl⟩
      rw [← he0] at hPS hR0 ⊢
      have HPS := hide hPS
      have HR0 := hide hR0
      clear hPS hR0 he0
      go_wp2_with fail
      go_loopw [16, 17] (fun ev kv wq => ∃ z : Nat, z ≤ al.length ∧ kv = .int .i64 z ∧ ev = .int .i64 (scnE e0 (refTo al L[k].ref z)) ∧ Below w2.heap.size w2 wq) (fun _ kv _ => al.length - (intOf kv).toNat)
      case atStart => exact ⟨0, by omega, rfl, by
        show Value.int .i64 e0 = _
        unfold scnE refTo
        by_cases h : e0 = 0
        · subst h; rfl
        · rw [if_pos h], Below.refl _ _⟩
      case round =>
        as_aux_lemma =>
        obtain ⟨z, hz, rfl, rfl, hbq⟩ := hrel
        have hb12 := bthen hb2 (Nat.le_refl _) hbq
        have hb02' := bthen hbr (Nat.le_refl _) hb12
        obtain ⟨s, hs⟩ : ∃ s, s = scnE e0 (refTo al L[k].ref z) := ⟨_, rfl⟩
        by_cases hgz : z < al.length ∧ s = 0
        · obtain ⟨hzl, hs0⟩ := hgz
          have he00 : e0 = 0 := by
            by_cases h : e0 = 0
            · exact h
            · rw [scnE_n h] at hs; omega
          have hrf : refTo al L[k].ref z = false := by
            cases h : refTo al L[k].ref z with
            | false => rfl
            | true => rw [h, he00, scnE_0, if_pos rfl] at hs; omega
          have hst : Hid (scnE e0 (refTo al L[k].ref (z + 1)) = if (al[z].ref.toList == L[k].ref.toList) = true then 8 else 0) := by
            show _ = _
            rw [refTo_succ hzl, hrf, he00, scnE_0, Bool.false_or]
          rw [← hs, hs0]
          obtain ⟨ab, ao, rfl, hca⟩ := ((hrA.below hb12)).2 (by omega)
          have r0 := hca z 0 _ hzl rfl
          rw [Nat.add_zero] at r0
          clear hca
          have z0 : (0 : Int) ≤ (z : Int) := by omega
          have z1 : (z : Int) < (al.length : Int) := by omega
          have p0 := below_cell hb02' hqb q0
          clear hs hs0 he00 hrf
          cases hq : (al[z].ref.toList == L[k].ref.toList) with
          | true =>
            rw [hq] at hst
            go_wp2_with fail
            go_quiet (fail)
            go_wp2_with fail
            go_roundw
            case rel => exact ⟨z + 1, by omega, by go_num, by rw [hst.out]; rfl, bdrewN hbq _⟩
            case measure => simp [intOf]; omega
          | false =>
            rw [hq] at hst
            go_wp2_with fail
            go_quiet (fail)
            go_wp2_with fail
            go_roundw
            case rel => exact ⟨z + 1, by omega, by go_num, by rw [hst.out]; rfl, bdrewN hbq _⟩
            case measure => simp [intOf]; omega
        · have hse : s = scnE e0 (refTo al L[k].ref al.length) := by
            rw [hs]
            exact scan_end (by
              by_cases h : z = al.length
              · exact .inl h
              · exact .inr (by rw [← hs]; intro h2; exact hgz ⟨by omega, h2⟩))
          rw [← hs]
          have hP : Hid (s = postE c es L[k].ref L[k].ent L[k].per L[k].lines) := hse.trans HPS.out.symm
          have hsr : 0 ≤ s ∧ s ≤ 12 := by
            have h1 := HR0.out
            rw [hs]; unfold scnE
            split
            · exact h1
            · split <;> omega
          have hx : ¬ z < al.length ∨ (z < al.length ∧ s ≠ 0) := by omega
          clear hgz hse hs
          have hJ2 := hJ.below hb12
          have hO2 := hO.below hb12
          have hb02 := bthen hbr (Nat.le_refl _) hb12
          have hfit2 := hfw.below hb02
          rcases hx with h1 | ⟨h1, h2⟩
          · have p0 := below_cell hb02 hqb q0
            have p1 := below_cell hb02 hqb q1
            have p2 := below_cell hb02 hqb q2
            have p3 := below_cell hb02 hqb q3
            go_wp2_with fail
            refine (jpost_frame hJ2 (by omega) hb02.size c _ _ _ L[k] hcn hcc (hc.below hb02) hcok hfit2).mono ?_
            rintro e w7 (⟨hp, rfl, hJ7, hb7⟩ | ⟨hp0, rfl, hb7, v7, E7, hr7, he7, hp7, hl7, hJ7, hch, hv7, hE7⟩)
            rotate_left
            · obtain rfl : s = 0 := hP.out.trans hp0
              have hO7 := hch.own hO2 hap.g hap.m (apart_back hap)
              have hap7 := hap.post (fun q hq => (hO2.block q hq).2) hv7 hE7
              have hb7 := hb02.trans hb7
              have hE := error_any 0 0 _ (hg.below hb7) (by decide) (by decide)
              rw [errV_0 rfl] at hE
              have hSm9 : Hid (SameE (es ++ [E7]) (al ++ [L[k]])) := hSm.out.push hr7 he7 hp7 hl7
              have hRi9 := hide (Rights.push hRi.out hp0 hr7 he7 hp7 hl7)
              have hAl9 : Hid (∀ e, e ∈ al ++ [L[k]] → EntFits w e) := fun e he => by
                rcases List.mem_append.1 he with he | he
                · exact hAl.out e he
                · have he : e = L[k] := by simpa using he
                  rw [he]; exact hfw
              have hnl : ((es.length : Int) != (al.length : Int)) = false := by rw [hlen]; simp
              clear hp0 hr7 he7 hp7 hl7 hch hv7 hE7 hP hO2 hJ2
              go_wp2_with fail
              refine hE.mono ?_
              rintro e w8 ⟨rfl, hb8'⟩
              have hJ8 := hJ7.below hb8'
              have hO8 := hO7.below hb8'
              have hb8 := bthen hb7 (Nat.le_refl _) hb8'
              have hsz8 := hb8.size
              have p0 := below_cell hb8 hqb q0
              have p1 := below_cell hb8 hqb q1
              have p2 := below_cell hb8 hqb q2
              have p3 := below_cell hb8 hqb q3
              clear hJ7 hO7 hE
              go_wp2_with (first | (at_builtin; go_loud (refine wpList_push _ rfl _ _ 50 rfl _ 25 i0 zeroEnt 4 56 Tryz.underlying50 hi0 hz0 hz1 hz2 rfl (by decide) entEnc_ok _ al rfl (hO8.alloc _) _ 1 1 [L[k]] rfl (Rd.boxed _ entEnc_ok _ _ _ rfl) (by intro h; cases h) (by simp only [maxLen]; omega) (by omega) (by simp; omega) ?_); intro av9 w9 hown9 hg9 hat9; have hJ9 := (hJ8.alloc _).grown hg9 hap7; have hap9 := Apart.pushed hap7 (hJ8.alloc _) hat9; have hb9 := (hb8.alloc hsz8 _).grown hg9 (by simp; omega) (fun q e => (hO8.block q e).1); obtain ⟨BA, bc, rfl, hbc1, hbc2⟩ := hown9.form; have e0' : ∃ N2, N2 = (al ++ [L[k]]).length := ⟨_, rfl⟩; obtain ⟨N2, e1⟩ := e0'; rw [← e1] at hown9 hap9; have hN2 : N2 = al.length + 1 := (by rw [e1]; simp)))
              --TAIL2<
              have hLN : N2 = (al ++ [L[k]]).length := by first | rfl | exact e1
              have hrT := hown9.rd entEnc_ok
              have hsmT : Hid (SameE (es ++ [E7]) (al ++ [L[k]])) := hSm9
              go_loopw [21, 22] (fun nv kv wq => ∃ z : Nat, z ≤ N2 ∧ kv = .int .i64 z ∧ nv = .bool (refTo (al ++ [L[k]]) L[k].ref z) ∧ Below w9.heap.size w9 wq) (fun _ kv _ => N2 - (intOf kv).toNat)
              case atStart => exact ⟨0, by omega, rfl, rfl, Below.refl _ _⟩
              case round =>
                as_aux_lemma =>
                obtain ⟨z, hz, rfl, rfl, hbz⟩ := hrel
                have hbw := bthen hb9 (Nat.le_refl _) hbz
                have p0 := below_cell hbw hqb q0
                by_cases hzl : z < N2
                · obtain ⟨ab, ao, rfl, hca⟩ := (hrT.below hbz).2 (by omega)
                  have hzl' : z < (al ++ [L[k]]).length := by rw [← hLN]; exact hzl
                  have r0 := hca z 0 _ hzl' rfl
                  rw [Nat.add_zero] at r0
                  clear hca
                  have z0 : (0 : Int) ≤ (z : Int) := by omega
                  have z1 : (z : Int) < (N2 : Int) := by omega
                  have HM := hide (refTo_succ (ref := L[k].ref) hzl')
                  cases hm : refTo (al ++ [L[k]]) L[k].ref z with
                  | true =>
                    have HN : Hid (refTo (al ++ [L[k]]) L[k].ref (z + 1) = true) := by show _ = _; rw [HM.out, hm]; rfl
                    clear hm
                    go_wp2_with fail
                    go_quiet (fail)
                    go_wp2_with fail
                    go_roundw
                    case rel => exact ⟨z + 1, by omega, by go_num, by rw [HN.out], bdrewN hbz _⟩
                    case measure => simp [intOf]; omega
                  | false =>
                    have HN : Hid (refTo (al ++ [L[k]]) L[k].ref (z + 1) = ((al ++ [L[k]])[z].ref.toList == L[k].ref.toList)) := by show _ = _; rw [HM.out, hm]; rfl
                    clear hm
                    go_wp2_with fail
                    go_quiet (fail)
                    go_wp2_with fail
                    go_roundw
                    case rel => exact ⟨z + 1, by omega, by go_num, by rw [HN.out], bdrewN hbz _⟩
                    case measure => simp [intOf]; omega
                · have hze : z = N2 := by omega
                  have hHs : hasS (((es ++ [E7])).map Ent.ref).reverse L[k].ref = refTo (al ++ [L[k]]) L[k].ref z := by rw [hze, hLN]; exact (refTo_all hsmT.out _).symm
                  have HH := hide hHs
                  clear hHs
                  obtain ⟨hb, hbe⟩ : ∃ hb, hb = refTo (al ++ [L[k]]) L[k].ref z := ⟨_, rfl⟩
                  rw [← hbe] at HH ⊢
                  clear hbe
                  go_wp2_with fail
                  refine (jhas_any (hJ9.below hbz) L[k].ref hfw.1).mono ?_
                  rintro e wh ⟨rfl, hbh⟩
                  rw [HH.out]
                  have hbzh := bthen hbz (Nat.le_refl _) hbh
                  cases hb
                  all_goals
                    go_wp2_with fail
                    go_roundw
                    case rel => exact ⟨k + 1, v7, (es ++ [E7]), (al ++ [L[k]]), by omega, by omega, by go_num, by rw [List.length_append]; simp; omega, hRi9.out, hsmT.out, hAl9.out, hJ9.below hbzh, (by rw [← hN2]; exact hown9.below hbzh), (by rw [← hN2]; exact hap9), bthen hb9 (Nat.le_refl _) hbzh⟩
                    case measure => simp [intOf]; omega
              --TAIL2>
            · rw [← hP.out] at hp ⊢
              have hb7 := bthen hb02 (Nat.le_refl _) hb7
              have hE := error_any s s _ (hg.below hb7) hsr.1 hsr.2
              rw [errV_n hp] at hE
              have hs0 : (s == 0) = false := by rw [beq_eq_false_iff_ne]; exact hp
              have hO7 := hO2.below ‹Below _ _ w7›
              clear hJ2
              go_wp2_with fail
              refine hE.mono ?_
              rintro e w8 ⟨rfl, hb8'⟩
              rw [beq_self_eq_true]
              have hJ8 := hJ7.below hb8'
              have hO8 := hO7.below hb8'
              have hb8 := bthen hb7 (Nat.le_refl _) hb8'
              clear hJ7 hO7 hE hO2
              go_wp2_with fail
              --TAIL1<
              have hLN : al.length = al.length := by first | rfl | exact e1
              have hrT := hO8.rd entEnc_ok
              have hsmT : Hid (SameE es al) := hSm
              go_loopw [21, 22] (fun nv kv wq => ∃ z : Nat, z ≤ al.length ∧ kv = .int .i64 z ∧ nv = .bool (refTo al L[k].ref z) ∧ Below w8.heap.size w8 wq) (fun _ kv _ => al.length - (intOf kv).toNat)
              case atStart => exact ⟨0, by omega, rfl, rfl, Below.refl _ _⟩
              case round =>
                as_aux_lemma =>
                obtain ⟨z, hz, rfl, rfl, hbz⟩ := hrel
                have hbw := bthen hb8 (Nat.le_refl _) hbz
                have p0 := below_cell hbw hqb q0
                by_cases hzl : z < al.length
                · obtain ⟨ab, ao, rfl, hca⟩ := (hrT.below hbz).2 (by omega)
                  have hzl' : z < al.length := by rw [← hLN]; exact hzl
                  have r0 := hca z 0 _ hzl' rfl
                  rw [Nat.add_zero] at r0
                  clear hca
                  have z0 : (0 : Int) ≤ (z : Int) := by omega
                  have z1 : (z : Int) < (al.length : Int) := by omega
                  have HM := hide (refTo_succ (ref := L[k].ref) hzl')
                  cases hm : refTo al L[k].ref z with
                  | true =>
                    have HN : Hid (refTo al L[k].ref (z + 1) = true) := by show _ = _; rw [HM.out, hm]; rfl
                    clear hm
                    go_wp2_with fail
                    go_quiet (fail)
                    go_wp2_with fail
                    go_roundw
                    case rel => exact ⟨z + 1, by omega, by go_num, by rw [HN.out], bdrewN hbz _⟩
                    case measure => simp [intOf]; omega
                  | false =>
                    have HN : Hid (refTo al L[k].ref (z + 1) = (al[z].ref.toList == L[k].ref.toList)) := by show _ = _; rw [HM.out, hm]; rfl
                    clear hm
                    go_wp2_with fail
                    go_quiet (fail)
                    go_wp2_with fail
                    go_roundw
                    case rel => exact ⟨z + 1, by omega, by go_num, by rw [HN.out], bdrewN hbz _⟩
                    case measure => simp [intOf]; omega
                · have hze : z = al.length := by omega
                  have hHs : hasS ((es).map Ent.ref).reverse L[k].ref = refTo al L[k].ref z := by rw [hze, hLN]; exact (refTo_all hsmT.out _).symm
                  have HH := hide hHs
                  clear hHs
                  obtain ⟨hb, hbe⟩ : ∃ hb, hb = refTo al L[k].ref z := ⟨_, rfl⟩
                  rw [← hbe] at HH ⊢
                  clear hbe
                  go_wp2_with fail
                  refine (jhas_any (hJ8.below hbz) L[k].ref hfw.1).mono ?_
                  rintro e wh ⟨rfl, hbh⟩
                  rw [HH.out]
                  have hbzh := bthen hbz (Nat.le_refl _) hbh
                  cases hb
                  all_goals
                    go_wp2_with fail
                    go_roundw
                    case rel => exact ⟨k + 1, v, es, al, by omega, by omega, by go_num, by omega, hRi.out, hsmT.out, hAl.out, hJ8.below hbzh, (hO8.below hbzh), (hap), bthen hb8 (Nat.le_refl _) hbzh⟩
                    case measure => simp [intOf]; omega
              --TAIL1>
          · have p0 := below_cell hb02 hqb q0
            have p1 := below_cell hb02 hqb q1
            have p2 := below_cell hb02 hqb q2
            have p3 := below_cell hb02 hqb q3
            go_wp2_with fail
            refine (jpost_frame hJ2 (by omega) hb02.size c _ _ _ L[k] hcn hcc (hc.below hb02) hcok hfit2).mono ?_
            rintro e w7 (⟨hp, rfl, hJ7, hb7⟩ | ⟨hp0, rfl, hb7, v7, E7, hr7, he7, hp7, hl7, hJ7, hch, hv7, hE7⟩)
            · rw [← hP.out] at hp ⊢
              have hb7 := bthen hb02 (Nat.le_refl _) hb7
              have hE := error_any s s _ (hg.below hb7) hsr.1 hsr.2
              rw [errV_n hp] at hE
              have hs0 : (s == 0) = false := by rw [beq_eq_false_iff_ne]; exact hp
              have hO7 := hO2.below ‹Below _ _ w7›
              clear hJ2
              go_wp2_with fail
              refine hE.mono ?_
              rintro e w8 ⟨rfl, hb8'⟩
              rw [beq_self_eq_true]
              have hJ8 := hJ7.below hb8'
              have hO8 := hO7.below hb8'
              have hb8 := bthen hb7 (Nat.le_refl _) hb8'
              clear hJ7 hO7 hE hO2
              go_wp2_with fail
              --TAIL3<
              have hLN : al.length = al.length := by first | rfl | exact e1
              have hrT := hO8.rd entEnc_ok
              have hsmT : Hid (SameE es al) := hSm
              go_loopw [21, 22] (fun nv kv wq => ∃ z : Nat, z ≤ al.length ∧ kv = .int .i64 z ∧ nv = .bool (refTo al L[k].ref z) ∧ Below w8.heap.size w8 wq) (fun _ kv _ => al.length - (intOf kv).toNat)
              case atStart => exact ⟨0, by omega, rfl, rfl, Below.refl _ _⟩
              case round =>
                as_aux_lemma =>
                obtain ⟨z, hz, rfl, rfl, hbz⟩ := hrel
                have hbw := bthen hb8 (Nat.le_refl _) hbz
                have p0 := below_cell hbw hqb q0
                by_cases hzl : z < al.length
                · obtain ⟨ab, ao, rfl, hca⟩ := (hrT.below hbz).2 (by omega)
                  have hzl' : z < al.length := by rw [← hLN]; exact hzl
                  have r0 := hca z 0 _ hzl' rfl
                  rw [Nat.add_zero] at r0
                  clear hca
                  have z0 : (0 : Int) ≤ (z : Int) := by omega
                  have z1 : (z : Int) < (al.length : Int) := by omega
                  have HM := hide (refTo_succ (ref := L[k].ref) hzl')
                  cases hm : refTo al L[k].ref z with
                  | true =>
                    have HN : Hid (refTo al L[k].ref (z + 1) = true) := by show _ = _; rw [HM.out, hm]; rfl
                    clear hm
                    go_wp2_with fail
                    go_quiet (fail)
                    go_wp2_with fail
                    go_roundw
                    case rel => exact ⟨z + 1, by omega, by go_num, by rw [HN.out], bdrewN hbz _⟩
                    case measure => simp [intOf]; omega
                  | false =>
                    have HN : Hid (refTo al L[k].ref (z + 1) = (al[z].ref.toList == L[k].ref.toList)) := by show _ = _; rw [HM.out, hm]; rfl
                    clear hm
                    go_wp2_with fail
                    go_quiet (fail)
                    go_wp2_with fail
                    go_roundw
                    case rel => exact ⟨z + 1, by omega, by go_num, by rw [HN.out], bdrewN hbz _⟩
                    case measure => simp [intOf]; omega
                · have hze : z = al.length := by omega
                  have hHs : hasS ((es).map Ent.ref).reverse L[k].ref = refTo al L[k].ref z := by rw [hze, hLN]; exact (refTo_all hsmT.out _).symm
                  have HH := hide hHs
                  clear hHs
                  obtain ⟨hb, hbe⟩ : ∃ hb, hb = refTo al L[k].ref z := ⟨_, rfl⟩
                  rw [← hbe] at HH ⊢
                  clear hbe
                  go_wp2_with fail
                  refine (jhas_any (hJ8.below hbz) L[k].ref hfw.1).mono ?_
                  rintro e wh ⟨rfl, hbh⟩
                  rw [HH.out]
                  have hbzh := bthen hbz (Nat.le_refl _) hbh
                  cases hb
                  all_goals
                    go_wp2_with fail
                    go_roundw
                    case rel => exact ⟨k + 1, v, es, al, by omega, by omega, by go_num, by omega, hRi.out, hsmT.out, hAl.out, hJ8.below hbzh, (hO8.below hbzh), (hap), bthen hb8 (Nat.le_refl _) hbzh⟩
                    case measure => simp [intOf]; omega
              --TAIL3>
            · exact absurd (hP.out.trans hp0) h2
    · have hx : ¬ k < ln ∨ (k < ln ∧ ¬ k < 60) := by omega
      have hes60 : es.length ≤ 60 := by omega
      have hgr := hg.below hbr
      clear hgo hL hLok hJ1
      have h1 : k < ln := by omega
      have h2 : ¬ k < 60 := by omega
      go_wp2_with fail
      refine (jlen_any hJ).mono ?_
      rintro e w2 ⟨rfl, rfl⟩
      have hnl : ((es.length : Int) != (al.length : Int)) = false := by rw [hlen]; simp
      go_wp2_with fail
      refine (refBig_any 0 _ (by omega) (by omega)).mono ?_
      rintro e w3 ⟨gd, rfl, hD0, hb3⟩
      go_wp2_with fail
      refine (refBig_any 0 _ (by omega) (by omega)).mono ?_
      rintro e w4 ⟨gc, rfl, hC0, hb4⟩
      have hdc : gd ≠ gc := by have := hD0.lt; have := hC0.gB; omega
      have hD4 := hD0.below hb4
      have hC4 := hC0.wider hb3.size
      have hb34 := bthen hb3 (Nat.le_refl _) hb4
      have hJb : Hid (∀ e, e ∈ al → Bnd 1000000000000000 e.lines) := fun e he => by
        obtain ⟨i, hi, rfl⟩ := List.getElem_of_mem he
        have h4 := (hSm.out.at_ i (by omega) hi).2.2.2
        rw [← h4]
        exact hRi.out.bnd _ (List.getElem_mem _)
      have hJ20 : Hid (∀ e, e ∈ al → e.lines.length ≤ 20) := fun e he => by
        obtain ⟨i, hi, rfl⟩ := List.getElem_of_mem he
        have h4 := (hSm.out.at_ i (by omega) hi).2.2.2
        rw [← h4]
        exact (hRi.out _ (List.getElem_mem _)).high
      obtain ⟨wl, hwl⟩ : ∃ wl, wl = wr := ⟨_, rfl⟩
      have hT4 : Two w4 wl.heap.size gd gc (.slice none 0 0) 0 0 := by
        rw [hwl]
        exact ⟨hD4, hC4, hD4.free0 (fun e => by injection e with e; omega), hC4.free0 (fun e => by injection e with e; omega), hD4.free0 (by simp [Value.ownBlock]), hC4.free0 (by simp [Value.ownBlock])⟩
      have hJl : Jrn wl w.heap.size g m v es := by rw [hwl]; exact hJ
      have hOl : Own wl w.heap.size 25 4 Ent.enc (.slice AA al.length ac) al := by rw [hwl]; exact hO
      have hgl : ErrTy wl := by rw [hwl]; exact hgr
      have hbl : Below w.heap.size w wl := by rw [hwl]; exact hbr
      have hb34 : Below wl.heap.size wl w4 := by rw [hwl]; exact hb34
      clear hD0 hC0 hD4 hC4 hJ hO hgr hbr hwl hb3 hb4 hrA hap hbrs
      have hrl := hOl.rd entEnc_ok
      go_wp2_with fail
      go_loopw [23, 26] (fun ov iv wi => ∃ i : Nat, i ≤ al.length ∧ iv = .int .i64 i ∧ Own wi wl.heap.size 3 1 intEnc ov (ofTo al ent per i) ∧ Two wi wl.heap.size gd gc ov (debs acc cur (linesTo al i)).sum (creds acc cur (linesTo al i)).sum ∧ Below wl.heap.size wl wi) (fun _ iv _ => al.length - (intOf iv).toNat)
      case atStart => exact ⟨0, by omega, rfl, Own.nil _ _ _ _ _, hT4, hb34⟩
      case round =>
        as_aux_lemma =>
        obtain ⟨i, hi, rfl, hOf, hT, hbi⟩ := hrel
        obtain ⟨OA, oc, hov, hoc1, hoc2⟩ := hOf.form
        obtain ⟨nO, hnO⟩ : ∃ nO, nO = (ofTo al ent per i).length := ⟨_, rfl⟩
        rw [← hnO] at hov hoc1
        have HnO := hide hnO
        clear hnO
        subst hov
        have hJi := hJl.below hbi
        have hszi := hbi.size
        by_cases hil : i < al.length
        · have hie : i < es.length := by omega
          obtain ⟨t1, t2, t3, t4⟩ := hSm.out.at_ i hie hil
          have hfa := hAl.out _ (List.getElem_mem hil)
          have hln' : al[i].lines.length = al[i].n := hfa.2.2.2.1.1
          have h20 := hJ20.out _ (List.getElem_mem hil)
          obtain ⟨ab, ao, rfl, hca⟩ := hrl.2 (by omega)
          have a0 := hca i 0 _ hil rfl
          have a1 := hca i 1 _ hil rfl
          have a2 := hca i 2 _ hil rfl
          have a3 := hca i 3 _ hil rfl
          rw [Nat.add_zero] at a0
          clear hca
          have hab : ab < wl.heap.size := World.block_lt_of_cell? _ _ a0
          have i0' : (0 : Int) ≤ (i : Int) := by omega
          have i1' : (i : Int) < (al.length : Int) := by omega
          go_wp2_with fail
          refine (jat_own hJi i hie).mono ?_
          rintro e wb ⟨VA, vc, rfl, hownV, hbb⟩
          rw [t4, hln'] at hownV
          rw [t1, t2, t3, t4, hln']
          have hbib := bthen hbi (Nat.le_refl _) hbb
          have hbic := hbib.alloc hbib.size (.cells #[.string al[i].ref, .int .i64 al[i].ent, .int .i64 al[i].per, .slice VA al[i].n vc] 25)
          have hOfc := (hOf.below hbb).alloc (.cells #[.string al[i].ref, .int .i64 al[i].ent, .int .i64 al[i].per, .slice VA al[i].n vc] 25)
          have hTc := (hT.below hbb).below ((Below.refl _ _).alloc (Nat.le_refl _) (.cells #[.string al[i].ref, .int .i64 al[i].ent, .int .i64 al[i].per, .slice VA al[i].n vc] 25))
          have hVc := hownV.alloc (.cells #[.string al[i].ref, .int .i64 al[i].ent, .int .i64 al[i].per, .slice VA al[i].n vc] 25)
          obtain ⟨p0, p1, p2, p3⟩ := EntAt.neu wb al[i].ref al[i].ent al[i].per (.slice VA al[i].n vc)
          clear hownV hbb hOf hT hbib t1 t2 t3 t4
          generalize hwc : wb.alloc (.cells #[.string al[i].ref, .int .i64 al[i].ent, .int .i64 al[i].per, .slice VA al[i].n vc] 25) = wc at hbic hOfc hTc hVc p0 p1 p2 p3
          have c0 := below_cell hbic hab a0
          have c1 := below_cell hbic hab a1
          have c2 := below_cell hbic hab a2
          have c3 := below_cell hbic hab a3
          go_wp2_with fail
          refine wp_region_still_tail 5 (by kernel_rfl) (by kernel_rfl) ?_
          simp only [List.take_succ_cons, List.take_zero, List.drop_succ_cons, List.drop_zero]
          change wpStill _ _ wc.drew _ _ _
          repeat still_step
          refine wpStill_nil ?_
          change wpList _ _ _ _ _ wc.drew
          go_wp2_with fail
          have hLw : Rd wc.drew 3 lineEnc al[i].A al[i].n al[i].lines := (hfa.2.2.2.1.below (bthen hbl (Nat.le_refl _) hbic)).below (bdrewN (Below.refl _ wc) 1)
          refine (entry_same al[i].ref al[i].ent al[i].per al[i].lines _ _ _ _ _ _ ((hVc.rd lineEnc_ok).below (bdrewN (Below.refl _ wc) 1)) hLw (by omega)).mono ?_
          rintro e wd ⟨rfl, hbd⟩
          have hbcd : Below wc.heap.size wc wd := (bdrewN (Below.refl _ wc) 1).trans hbd
          have hOfd := hOfc.below hbcd
          have hTd := hTc.below hbcd
          have hbid := bthen hbic (Nat.le_refl _) hbcd
          have d0 := below_cell hbid hab a0
          have d1 := below_cell hbid hab a1
          have d2 := below_cell hbid hab a2
          have d3 := below_cell hbid hab a3
          have hszd := hbid.size
          have hlof := ofTo_len al ent per i
          clear hVc hLw hbd hbcd hOfc hTc c0 c1 c2 c3 p0 p1 p2 p3 hbic
          --T5<
          have hc1 : (ent == 0) = true ∨ ((ent == 0) = false ∧ (al[i].ent == ent) = true) ∨ ((ent == 0) = false ∧ (al[i].ent == ent) = false) := by cases (ent == 0) <;> cases (al[i].ent == ent) <;> simp
          have hc2 : (per == 0) = true ∨ ((per == 0) = false ∧ (al[i].per == per) = true) ∨ ((per == 0) = false ∧ (al[i].per == per) = false) := by cases (per == 0) <;> cases (al[i].per == per) <;> simp
          rcases hc1 with h1 | ⟨h1, h2⟩ | ⟨h1, h2⟩
          · rcases hc2 with h3 | ⟨h3, h4⟩ | ⟨h3, h4⟩
            · as_aux_lemma =>
              have hB : ofB ent per al[i] = true := by simp [ofB, h1, h3]
              have HB : Hid (ofTo al ent per (i + 1) = ofTo al ent per i ++ [(i : Int)]) := by show _ = _; rw [ofTo_any hil, if_pos hB]
              clear hB
              go_wp2_with (first | (at_builtin; go_loud (refine wpList_push _ rfl _ _ 42 rfl _ 3 j0 (.int .i64 0) 1 8 Tryz.underlying42 hj0 hy0 hy1 hy2 rfl (by decide) intEnc_ok _ (ofTo al ent per i) rfl (hOfd.alloc _) _ 1 1 [(i : Int)] rfl (Rd.boxed _ intEnc_ok _ _ _ rfl) (by intro h; cases h) (by simp only [maxLen]; omega) (by omega) (by simp; omega) ?_); intro ov6 w6 hown6 hg6 hat6; rw [← HB.out] at hown6; have hT6 := (hTd.below ((Below.refl _ _).alloc (Nat.le_refl _) _)).pushed hg6 hat6; have hb6 := (hbid.alloc hszd _).grown hg6 (by simp; omega) (fun q e => (hOfd.block q e).1)))
              go_loopw [30] (fun zv wi => ∃ z : Nat, z ≤ al[i].n ∧ zv = .int .i64 z ∧ Own wi wl.heap.size 3 1 intEnc ov6 (ofTo al ent per (i + 1)) ∧ Two wi wl.heap.size gd gc ov6 (debs acc cur (linesAt al i z)).sum (creds acc cur (linesAt al i z)).sum ∧ Below wl.heap.size wl wi) (fun zv _ => al[i].n - (intOf zv).toNat)
              case atStart => exact ⟨0, by omega, rfl, hown6, by rw [linesAt_zero al i]; exact hT6, hb6⟩
              case round =>
                as_aux_lemma =>
                obtain ⟨z, hz, rfl, hOz, hTz, hbz⟩ := hrel
                have b3 := below_cell hbz hab a3
                have hszz := hbz.size
                by_cases hzl : z < al[i].n
                · have hzl' : z < al[i].lines.length := by omega
                  obtain ⟨x, hx⟩ : ∃ x, x = al[i].lines[z] := ⟨_, rfl⟩
                  obtain ⟨lb, lo, hA, hlc⟩ := (hfa.2.2.2.1.below (bthen hbl (Nat.le_refl _) hbz)).2 (by omega)
                  have r0 := hlc z 0 _ hzl' rfl
                  have r1 := hlc z 1 _ hzl' rfl
                  have r2 := hlc z 2 _ hzl' rfl
                  rw [Nat.add_zero] at r0
                  rw [← hx] at r0 r1 r2
                  rw [hA] at b3
                  have HA := hide hA
                  clear hlc hA
                  have z0 : (0 : Int) ≤ (z : Int) := by omega
                  have z1 : (z : Int) < (al[i].n : Int) := by omega
                  have hbx := hJb.out _ (List.getElem_mem hil) x (by rw [hx]; exact List.getElem_mem hzl')
                  obtain ⟨x1, x2⟩ := hbx
                  have HS : Hid (linesAt al i (z + 1) = linesAt al i z ++ [x]) := by show _ = _; rw [linesAt_succ hil hzl', hx]
                  have hLL := linesAt_len hJ20.out hil (j := z) (by omega)
                  have hrD := hide (debs_range acc cur (linesAt_bnd hJb.out i z))
                  have hrC := hide (creds_range acc cur (linesAt_bnd hJb.out i z))
                  have hof := hide (ofAC_eq acc cur x)
                  have hbzc := hbz.alloc hszz (.cells #[.string x.acc, .string x.cur, .int .i64 x.amt] 35)
                  have hOzc := hOz.alloc (.cells #[.string x.acc, .string x.cur, .int .i64 x.amt] 35)
                  have hTzc := hTz.below ((Below.refl _ _).alloc (Nat.le_refl _) (.cells #[.string x.acc, .string x.cur, .int .i64 x.amt] 35))
                  obtain ⟨y0, y1, y2⟩ := LineAt.neu wr x.acc x.cur x.amt
                  clear hOz hTz hx
                  generalize hwz : wr.alloc (.cells #[.string x.acc, .string x.cur, .int .i64 x.amt] 35) = wz at hbzc hOzc hTzc y0 y1 y2
                  cases h1 : (x.acc.toList == acc.toList) with
                  | false =>
                    have HO : Hid (ofAC acc cur x = false) := by show _ = _; rw [hof.out, h1]; rfl
                    go_wp2_with fail
                    go_roundw
                    case rel => exact ⟨z + 1, by omega, by go_num, hOzc, by rw [HS.out, debs_no HO.out, creds_no HO.out]; exact hTzc, hbzc⟩
                    case measure => simp [intOf]; omega
                  | true =>
                    cases h2 : (x.cur.toList == cur.toList) with
                    | false =>
                      have HO : Hid (ofAC acc cur x = false) := by show _ = _; rw [hof.out, h1, h2]; rfl
                      go_wp2_with fail
                      go_roundw
                      case rel => exact ⟨z + 1, by omega, by go_num, hOzc, by rw [HS.out, debs_no HO.out, creds_no HO.out]; exact hTzc, hbzc⟩
                      case measure => simp [intOf]; omega
                    | true =>
                      have HO : Hid (ofAC acc cur x = true) := by show _ = _; rw [hof.out, h1, h2]; rfl
                      by_cases hp : 0 < x.amt
                      · go_wp2_with fail
                        refine (refBig_any x.amt _ (by omega) (by omega)).mono ?_
                        rintro e wy ⟨gy, rfl, hY, hby⟩
                        have hTy := hTzc.below hby
                        have hOy := hOzc.below hby
                        have hbzy := bthen hbzc (Nat.le_refl _) hby
                        have hszy := hbzy.size
                        have hn1 : Hid ((debs acc cur (linesAt al i z)).sum.natAbs < 79228162514264337593543950336) := by show _ < _; have := hrD.out; omega
                        have hn2 : Hid (x.amt.natAbs < 79228162514264337593543950336) := by show _ < _; omega
                        clear hTzc hOzc
                        go_wp2_with fail
                        refine (qAdd_frame hTy.d hY hszy hn1.out hn2.out).mono ?_
                        rintro e wx ⟨rfl, hQ, hbx, hgx, hF⟩
                        have hTx := hTy.added (fun q e => (hOy.block q e).2) hQ hgx hF
                        have hOx := hOy.grown hgx (.inr hTy.od.1)
                        go_wp2_with fail
                        go_roundw
                        case rel => exact ⟨z + 1, by omega, by go_num, hOx, by rw [HS.out, debs_yes HO.out hp, creds_pos HO.out hp, sum_push]; exact hTx, hbzy.trans hbx⟩
                        case measure => simp [intOf]; omega
                      · have HPn := hide hp
                        go_wp2_with fail
                        refine (refBig_any x.amt _ (by omega) (by omega)).mono ?_
                        rintro e wy ⟨gy, rfl, hY, hby⟩
                        have hTy := hTzc.below hby
                        have hOy := hOzc.below hby
                        have hbzy := bthen hbzc (Nat.le_refl _) hby
                        have hszy := hbzy.size
                        have hn1 : Hid ((creds acc cur (linesAt al i z)).sum.natAbs < 79228162514264337593543950336) := by show _ < _; have := hrC.out; omega
                        have hn2 : Hid (x.amt.natAbs < 79228162514264337593543950336) := by show _ < _; omega
                        clear hTzc hOzc
                        go_wp2_with fail
                        refine (qSub_frame hTy.c hY hszy hn1.out hn2.out).mono ?_
                        rintro e wx ⟨rfl, hQ, hbx, hgx, hF⟩
                        rw [Int.sub_eq_add_neg] at hQ
                        have hTx := (hTy.swap.added (fun q e => (hOy.block q e).2) hQ hgx hF).swap
                        have hOx := hOy.grown hgx (.inr hTy.oc.1)
                        go_wp2_with fail
                        go_roundw
                        case rel => exact ⟨z + 1, by omega, by go_num, hOx, by rw [HS.out, debs_neg HO.out (by have := HPn.out; omega), creds_yes HO.out (by have := HPn.out; omega), sum_push]; exact hTx, hbzy.trans hbx⟩
                        case measure => simp [intOf]; omega
                · go_wp2_with fail
                  go_roundw
                  case rel => exact ⟨i + 1, by omega, by go_num, hOz, by have e : z = al[i].lines.length := (by omega); rw [← linesAt_all (es := al) hil, ← e]; exact hTz, hbz⟩
                  case measure => simp [intOf]; omega
            · as_aux_lemma =>
              have hB : ofB ent per al[i] = true := by simp [ofB, h1, h3, h4]
              have HB : Hid (ofTo al ent per (i + 1) = ofTo al ent per i ++ [(i : Int)]) := by show _ = _; rw [ofTo_any hil, if_pos hB]
              clear hB
              go_wp2_with (first | (at_builtin; go_loud (refine wpList_push _ rfl _ _ 42 rfl _ 3 j0 (.int .i64 0) 1 8 Tryz.underlying42 hj0 hy0 hy1 hy2 rfl (by decide) intEnc_ok _ (ofTo al ent per i) rfl (hOfd.alloc _) _ 1 1 [(i : Int)] rfl (Rd.boxed _ intEnc_ok _ _ _ rfl) (by intro h; cases h) (by simp only [maxLen]; omega) (by omega) (by simp; omega) ?_); intro ov6 w6 hown6 hg6 hat6; rw [← HB.out] at hown6; have hT6 := (hTd.below ((Below.refl _ _).alloc (Nat.le_refl _) _)).pushed hg6 hat6; have hb6 := (hbid.alloc hszd _).grown hg6 (by simp; omega) (fun q e => (hOfd.block q e).1)))
              go_loopw [30] (fun zv wi => ∃ z : Nat, z ≤ al[i].n ∧ zv = .int .i64 z ∧ Own wi wl.heap.size 3 1 intEnc ov6 (ofTo al ent per (i + 1)) ∧ Two wi wl.heap.size gd gc ov6 (debs acc cur (linesAt al i z)).sum (creds acc cur (linesAt al i z)).sum ∧ Below wl.heap.size wl wi) (fun zv _ => al[i].n - (intOf zv).toNat)
              case atStart => exact ⟨0, by omega, rfl, hown6, by rw [linesAt_zero al i]; exact hT6, hb6⟩
              case round =>
                as_aux_lemma =>
                obtain ⟨z, hz, rfl, hOz, hTz, hbz⟩ := hrel
                have b3 := below_cell hbz hab a3
                have hszz := hbz.size
                by_cases hzl : z < al[i].n
                · have hzl' : z < al[i].lines.length := by omega
                  obtain ⟨x, hx⟩ : ∃ x, x = al[i].lines[z] := ⟨_, rfl⟩
                  obtain ⟨lb, lo, hA, hlc⟩ := (hfa.2.2.2.1.below (bthen hbl (Nat.le_refl _) hbz)).2 (by omega)
                  have r0 := hlc z 0 _ hzl' rfl
                  have r1 := hlc z 1 _ hzl' rfl
                  have r2 := hlc z 2 _ hzl' rfl
                  rw [Nat.add_zero] at r0
                  rw [← hx] at r0 r1 r2
                  rw [hA] at b3
                  have HA := hide hA
                  clear hlc hA
                  have z0 : (0 : Int) ≤ (z : Int) := by omega
                  have z1 : (z : Int) < (al[i].n : Int) := by omega
                  have hbx := hJb.out _ (List.getElem_mem hil) x (by rw [hx]; exact List.getElem_mem hzl')
                  obtain ⟨x1, x2⟩ := hbx
                  have HS : Hid (linesAt al i (z + 1) = linesAt al i z ++ [x]) := by show _ = _; rw [linesAt_succ hil hzl', hx]
                  have hLL := linesAt_len hJ20.out hil (j := z) (by omega)
                  have hrD := hide (debs_range acc cur (linesAt_bnd hJb.out i z))
                  have hrC := hide (creds_range acc cur (linesAt_bnd hJb.out i z))
                  have hof := hide (ofAC_eq acc cur x)
                  have hbzc := hbz.alloc hszz (.cells #[.string x.acc, .string x.cur, .int .i64 x.amt] 35)
                  have hOzc := hOz.alloc (.cells #[.string x.acc, .string x.cur, .int .i64 x.amt] 35)
                  have hTzc := hTz.below ((Below.refl _ _).alloc (Nat.le_refl _) (.cells #[.string x.acc, .string x.cur, .int .i64 x.amt] 35))
                  obtain ⟨y0, y1, y2⟩ := LineAt.neu wr x.acc x.cur x.amt
                  clear hOz hTz hx
                  generalize hwz : wr.alloc (.cells #[.string x.acc, .string x.cur, .int .i64 x.amt] 35) = wz at hbzc hOzc hTzc y0 y1 y2
                  cases h1 : (x.acc.toList == acc.toList) with
                  | false =>
                    have HO : Hid (ofAC acc cur x = false) := by show _ = _; rw [hof.out, h1]; rfl
                    go_wp2_with fail
                    go_roundw
                    case rel => exact ⟨z + 1, by omega, by go_num, hOzc, by rw [HS.out, debs_no HO.out, creds_no HO.out]; exact hTzc, hbzc⟩
                    case measure => simp [intOf]; omega
                  | true =>
                    cases h2 : (x.cur.toList == cur.toList) with
                    | false =>
                      have HO : Hid (ofAC acc cur x = false) := by show _ = _; rw [hof.out, h1, h2]; rfl
                      go_wp2_with fail
                      go_roundw
                      case rel => exact ⟨z + 1, by omega, by go_num, hOzc, by rw [HS.out, debs_no HO.out, creds_no HO.out]; exact hTzc, hbzc⟩
                      case measure => simp [intOf]; omega
                    | true =>
                      have HO : Hid (ofAC acc cur x = true) := by show _ = _; rw [hof.out, h1, h2]; rfl
                      by_cases hp : 0 < x.amt
                      · go_wp2_with fail
                        refine (refBig_any x.amt _ (by omega) (by omega)).mono ?_
                        rintro e wy ⟨gy, rfl, hY, hby⟩
                        have hTy := hTzc.below hby
                        have hOy := hOzc.below hby
                        have hbzy := bthen hbzc (Nat.le_refl _) hby
                        have hszy := hbzy.size
                        have hn1 : Hid ((debs acc cur (linesAt al i z)).sum.natAbs < 79228162514264337593543950336) := by show _ < _; have := hrD.out; omega
                        have hn2 : Hid (x.amt.natAbs < 79228162514264337593543950336) := by show _ < _; omega
                        clear hTzc hOzc
                        go_wp2_with fail
                        refine (qAdd_frame hTy.d hY hszy hn1.out hn2.out).mono ?_
                        rintro e wx ⟨rfl, hQ, hbx, hgx, hF⟩
                        have hTx := hTy.added (fun q e => (hOy.block q e).2) hQ hgx hF
                        have hOx := hOy.grown hgx (.inr hTy.od.1)
                        go_wp2_with fail
                        go_roundw
                        case rel => exact ⟨z + 1, by omega, by go_num, hOx, by rw [HS.out, debs_yes HO.out hp, creds_pos HO.out hp, sum_push]; exact hTx, hbzy.trans hbx⟩
                        case measure => simp [intOf]; omega
                      · have HPn := hide hp
                        go_wp2_with fail
                        refine (refBig_any x.amt _ (by omega) (by omega)).mono ?_
                        rintro e wy ⟨gy, rfl, hY, hby⟩
                        have hTy := hTzc.below hby
                        have hOy := hOzc.below hby
                        have hbzy := bthen hbzc (Nat.le_refl _) hby
                        have hszy := hbzy.size
                        have hn1 : Hid ((creds acc cur (linesAt al i z)).sum.natAbs < 79228162514264337593543950336) := by show _ < _; have := hrC.out; omega
                        have hn2 : Hid (x.amt.natAbs < 79228162514264337593543950336) := by show _ < _; omega
                        clear hTzc hOzc
                        go_wp2_with fail
                        refine (qSub_frame hTy.c hY hszy hn1.out hn2.out).mono ?_
                        rintro e wx ⟨rfl, hQ, hbx, hgx, hF⟩
                        rw [Int.sub_eq_add_neg] at hQ
                        have hTx := (hTy.swap.added (fun q e => (hOy.block q e).2) hQ hgx hF).swap
                        have hOx := hOy.grown hgx (.inr hTy.oc.1)
                        go_wp2_with fail
                        go_roundw
                        case rel => exact ⟨z + 1, by omega, by go_num, hOx, by rw [HS.out, debs_neg HO.out (by have := HPn.out; omega), creds_yes HO.out (by have := HPn.out; omega), sum_push]; exact hTx, hbzy.trans hbx⟩
                        case measure => simp [intOf]; omega
                · go_wp2_with fail
                  go_roundw
                  case rel => exact ⟨i + 1, by omega, by go_num, hOz, by have e : z = al[i].lines.length := (by omega); rw [← linesAt_all (es := al) hil, ← e]; exact hTz, hbz⟩
                  case measure => simp [intOf]; omega
            · have hB : ¬ ofB ent per al[i] = true := by simp [ofB, h1, h3, h4]
              have HB : Hid (ofTo al ent per (i + 1) = ofTo al ent per i) := by show _ = _; rw [ofTo_any hil, if_neg hB]
              clear hB
              have hOfe : Own wd wl.heap.size 3 1 intEnc (.slice OA nO oc) (ofTo al ent per (i + 1)) := by rw [HB.out]; exact hOfd
              go_wp2_with fail
              go_loopw [30] (fun zv wi => ∃ z : Nat, z ≤ al[i].n ∧ zv = .int .i64 z ∧ Own wi wl.heap.size 3 1 intEnc (.slice OA nO oc) (ofTo al ent per (i + 1)) ∧ Two wi wl.heap.size gd gc (.slice OA nO oc) (debs acc cur (linesAt al i z)).sum (creds acc cur (linesAt al i z)).sum ∧ Below wl.heap.size wl wi) (fun zv _ => al[i].n - (intOf zv).toNat)
              case atStart => exact ⟨0, by omega, rfl, hOfe, by rw [linesAt_zero al i]; exact hTd, hbid⟩
              case round =>
                as_aux_lemma =>
                obtain ⟨z, hz, rfl, hOz, hTz, hbz⟩ := hrel
                have b3 := below_cell hbz hab a3
                have hszz := hbz.size
                by_cases hzl : z < al[i].n
                · have hzl' : z < al[i].lines.length := by omega
                  obtain ⟨x, hx⟩ : ∃ x, x = al[i].lines[z] := ⟨_, rfl⟩
                  obtain ⟨lb, lo, hA, hlc⟩ := (hfa.2.2.2.1.below (bthen hbl (Nat.le_refl _) hbz)).2 (by omega)
                  have r0 := hlc z 0 _ hzl' rfl
                  have r1 := hlc z 1 _ hzl' rfl
                  have r2 := hlc z 2 _ hzl' rfl
                  rw [Nat.add_zero] at r0
                  rw [← hx] at r0 r1 r2
                  rw [hA] at b3
                  have HA := hide hA
                  clear hlc hA
                  have z0 : (0 : Int) ≤ (z : Int) := by omega
                  have z1 : (z : Int) < (al[i].n : Int) := by omega
                  have hbx := hJb.out _ (List.getElem_mem hil) x (by rw [hx]; exact List.getElem_mem hzl')
                  obtain ⟨x1, x2⟩ := hbx
                  have HS : Hid (linesAt al i (z + 1) = linesAt al i z ++ [x]) := by show _ = _; rw [linesAt_succ hil hzl', hx]
                  have hLL := linesAt_len hJ20.out hil (j := z) (by omega)
                  have hrD := hide (debs_range acc cur (linesAt_bnd hJb.out i z))
                  have hrC := hide (creds_range acc cur (linesAt_bnd hJb.out i z))
                  have hof := hide (ofAC_eq acc cur x)
                  have hbzc := hbz.alloc hszz (.cells #[.string x.acc, .string x.cur, .int .i64 x.amt] 35)
                  have hOzc := hOz.alloc (.cells #[.string x.acc, .string x.cur, .int .i64 x.amt] 35)
                  have hTzc := hTz.below ((Below.refl _ _).alloc (Nat.le_refl _) (.cells #[.string x.acc, .string x.cur, .int .i64 x.amt] 35))
                  obtain ⟨y0, y1, y2⟩ := LineAt.neu wr x.acc x.cur x.amt
                  clear hOz hTz hx
                  generalize hwz : wr.alloc (.cells #[.string x.acc, .string x.cur, .int .i64 x.amt] 35) = wz at hbzc hOzc hTzc y0 y1 y2
                  cases h1 : (x.acc.toList == acc.toList) with
                  | false =>
                    have HO : Hid (ofAC acc cur x = false) := by show _ = _; rw [hof.out, h1]; rfl
                    go_wp2_with fail
                    go_roundw
                    case rel => exact ⟨z + 1, by omega, by go_num, hOzc, by rw [HS.out, debs_no HO.out, creds_no HO.out]; exact hTzc, hbzc⟩
                    case measure => simp [intOf]; omega
                  | true =>
                    cases h2 : (x.cur.toList == cur.toList) with
                    | false =>
                      have HO : Hid (ofAC acc cur x = false) := by show _ = _; rw [hof.out, h1, h2]; rfl
                      go_wp2_with fail
                      go_roundw
                      case rel => exact ⟨z + 1, by omega, by go_num, hOzc, by rw [HS.out, debs_no HO.out, creds_no HO.out]; exact hTzc, hbzc⟩
                      case measure => simp [intOf]; omega
                    | true =>
                      have HO : Hid (ofAC acc cur x = true) := by show _ = _; rw [hof.out, h1, h2]; rfl
                      by_cases hp : 0 < x.amt
                      · go_wp2_with fail
                        refine (refBig_any x.amt _ (by omega) (by omega)).mono ?_
                        rintro e wy ⟨gy, rfl, hY, hby⟩
                        have hTy := hTzc.below hby
                        have hOy := hOzc.below hby
                        have hbzy := bthen hbzc (Nat.le_refl _) hby
                        have hszy := hbzy.size
                        have hn1 : Hid ((debs acc cur (linesAt al i z)).sum.natAbs < 79228162514264337593543950336) := by show _ < _; have := hrD.out; omega
                        have hn2 : Hid (x.amt.natAbs < 79228162514264337593543950336) := by show _ < _; omega
                        clear hTzc hOzc
                        go_wp2_with fail
                        refine (qAdd_frame hTy.d hY hszy hn1.out hn2.out).mono ?_
                        rintro e wx ⟨rfl, hQ, hbx, hgx, hF⟩
                        have hTx := hTy.added (fun q e => (hOy.block q e).2) hQ hgx hF
                        have hOx := hOy.grown hgx (.inr hTy.od.1)
                        go_wp2_with fail
                        go_roundw
                        case rel => exact ⟨z + 1, by omega, by go_num, hOx, by rw [HS.out, debs_yes HO.out hp, creds_pos HO.out hp, sum_push]; exact hTx, hbzy.trans hbx⟩
                        case measure => simp [intOf]; omega
                      · have HPn := hide hp
                        go_wp2_with fail
                        refine (refBig_any x.amt _ (by omega) (by omega)).mono ?_
                        rintro e wy ⟨gy, rfl, hY, hby⟩
                        have hTy := hTzc.below hby
                        have hOy := hOzc.below hby
                        have hbzy := bthen hbzc (Nat.le_refl _) hby
                        have hszy := hbzy.size
                        have hn1 : Hid ((creds acc cur (linesAt al i z)).sum.natAbs < 79228162514264337593543950336) := by show _ < _; have := hrC.out; omega
                        have hn2 : Hid (x.amt.natAbs < 79228162514264337593543950336) := by show _ < _; omega
                        clear hTzc hOzc
                        go_wp2_with fail
                        refine (qSub_frame hTy.c hY hszy hn1.out hn2.out).mono ?_
                        rintro e wx ⟨rfl, hQ, hbx, hgx, hF⟩
                        rw [Int.sub_eq_add_neg] at hQ
                        have hTx := (hTy.swap.added (fun q e => (hOy.block q e).2) hQ hgx hF).swap
                        have hOx := hOy.grown hgx (.inr hTy.oc.1)
                        go_wp2_with fail
                        go_roundw
                        case rel => exact ⟨z + 1, by omega, by go_num, hOx, by rw [HS.out, debs_neg HO.out (by have := HPn.out; omega), creds_yes HO.out (by have := HPn.out; omega), sum_push]; exact hTx, hbzy.trans hbx⟩
                        case measure => simp [intOf]; omega
                · go_wp2_with fail
                  go_roundw
                  case rel => exact ⟨i + 1, by omega, by go_num, hOz, by have e : z = al[i].lines.length := (by omega); rw [← linesAt_all (es := al) hil, ← e]; exact hTz, hbz⟩
                  case measure => simp [intOf]; omega
          · rcases hc2 with h3 | ⟨h3, h4⟩ | ⟨h3, h4⟩
            · as_aux_lemma =>
              have hB : ofB ent per al[i] = true := by simp [ofB, h1, h2, h3]
              have HB : Hid (ofTo al ent per (i + 1) = ofTo al ent per i ++ [(i : Int)]) := by show _ = _; rw [ofTo_any hil, if_pos hB]
              clear hB
              go_wp2_with (first | (at_builtin; go_loud (refine wpList_push _ rfl _ _ 42 rfl _ 3 j0 (.int .i64 0) 1 8 Tryz.underlying42 hj0 hy0 hy1 hy2 rfl (by decide) intEnc_ok _ (ofTo al ent per i) rfl (hOfd.alloc _) _ 1 1 [(i : Int)] rfl (Rd.boxed _ intEnc_ok _ _ _ rfl) (by intro h; cases h) (by simp only [maxLen]; omega) (by omega) (by simp; omega) ?_); intro ov6 w6 hown6 hg6 hat6; rw [← HB.out] at hown6; have hT6 := (hTd.below ((Below.refl _ _).alloc (Nat.le_refl _) _)).pushed hg6 hat6; have hb6 := (hbid.alloc hszd _).grown hg6 (by simp; omega) (fun q e => (hOfd.block q e).1)))
              go_loopw [30] (fun zv wi => ∃ z : Nat, z ≤ al[i].n ∧ zv = .int .i64 z ∧ Own wi wl.heap.size 3 1 intEnc ov6 (ofTo al ent per (i + 1)) ∧ Two wi wl.heap.size gd gc ov6 (debs acc cur (linesAt al i z)).sum (creds acc cur (linesAt al i z)).sum ∧ Below wl.heap.size wl wi) (fun zv _ => al[i].n - (intOf zv).toNat)
              case atStart => exact ⟨0, by omega, rfl, hown6, by rw [linesAt_zero al i]; exact hT6, hb6⟩
              case round =>
                as_aux_lemma =>
                obtain ⟨z, hz, rfl, hOz, hTz, hbz⟩ := hrel
                have b3 := below_cell hbz hab a3
                have hszz := hbz.size
                by_cases hzl : z < al[i].n
                · have hzl' : z < al[i].lines.length := by omega
                  obtain ⟨x, hx⟩ : ∃ x, x = al[i].lines[z] := ⟨_, rfl⟩
                  obtain ⟨lb, lo, hA, hlc⟩ := (hfa.2.2.2.1.below (bthen hbl (Nat.le_refl _) hbz)).2 (by omega)
                  have r0 := hlc z 0 _ hzl' rfl
                  have r1 := hlc z 1 _ hzl' rfl
                  have r2 := hlc z 2 _ hzl' rfl
                  rw [Nat.add_zero] at r0
                  rw [← hx] at r0 r1 r2
                  rw [hA] at b3
                  have HA := hide hA
                  clear hlc hA
                  have z0 : (0 : Int) ≤ (z : Int) := by omega
                  have z1 : (z : Int) < (al[i].n : Int) := by omega
                  have hbx := hJb.out _ (List.getElem_mem hil) x (by rw [hx]; exact List.getElem_mem hzl')
                  obtain ⟨x1, x2⟩ := hbx
                  have HS : Hid (linesAt al i (z + 1) = linesAt al i z ++ [x]) := by show _ = _; rw [linesAt_succ hil hzl', hx]
                  have hLL := linesAt_len hJ20.out hil (j := z) (by omega)
                  have hrD := hide (debs_range acc cur (linesAt_bnd hJb.out i z))
                  have hrC := hide (creds_range acc cur (linesAt_bnd hJb.out i z))
                  have hof := hide (ofAC_eq acc cur x)
                  have hbzc := hbz.alloc hszz (.cells #[.string x.acc, .string x.cur, .int .i64 x.amt] 35)
                  have hOzc := hOz.alloc (.cells #[.string x.acc, .string x.cur, .int .i64 x.amt] 35)
                  have hTzc := hTz.below ((Below.refl _ _).alloc (Nat.le_refl _) (.cells #[.string x.acc, .string x.cur, .int .i64 x.amt] 35))
                  obtain ⟨y0, y1, y2⟩ := LineAt.neu wr x.acc x.cur x.amt
                  clear hOz hTz hx
                  generalize hwz : wr.alloc (.cells #[.string x.acc, .string x.cur, .int .i64 x.amt] 35) = wz at hbzc hOzc hTzc y0 y1 y2
                  cases h1 : (x.acc.toList == acc.toList) with
                  | false =>
                    have HO : Hid (ofAC acc cur x = false) := by show _ = _; rw [hof.out, h1]; rfl
                    go_wp2_with fail
                    go_roundw
                    case rel => exact ⟨z + 1, by omega, by go_num, hOzc, by rw [HS.out, debs_no HO.out, creds_no HO.out]; exact hTzc, hbzc⟩
                    case measure => simp [intOf]; omega
                  | true =>
                    cases h2 : (x.cur.toList == cur.toList) with
                    | false =>
                      have HO : Hid (ofAC acc cur x = false) := by show _ = _; rw [hof.out, h1, h2]; rfl
                      go_wp2_with fail
                      go_roundw
                      case rel => exact ⟨z + 1, by omega, by go_num, hOzc, by rw [HS.out, debs_no HO.out, creds_no HO.out]; exact hTzc, hbzc⟩
                      case measure => simp [intOf]; omega
                    | true =>
                      have HO : Hid (ofAC acc cur x = true) := by show _ = _; rw [hof.out, h1, h2]; rfl
                      by_cases hp : 0 < x.amt
                      · go_wp2_with fail
                        refine (refBig_any x.amt _ (by omega) (by omega)).mono ?_
                        rintro e wy ⟨gy, rfl, hY, hby⟩
                        have hTy := hTzc.below hby
                        have hOy := hOzc.below hby
                        have hbzy := bthen hbzc (Nat.le_refl _) hby
                        have hszy := hbzy.size
                        have hn1 : Hid ((debs acc cur (linesAt al i z)).sum.natAbs < 79228162514264337593543950336) := by show _ < _; have := hrD.out; omega
                        have hn2 : Hid (x.amt.natAbs < 79228162514264337593543950336) := by show _ < _; omega
                        clear hTzc hOzc
                        go_wp2_with fail
                        refine (qAdd_frame hTy.d hY hszy hn1.out hn2.out).mono ?_
                        rintro e wx ⟨rfl, hQ, hbx, hgx, hF⟩
                        have hTx := hTy.added (fun q e => (hOy.block q e).2) hQ hgx hF
                        have hOx := hOy.grown hgx (.inr hTy.od.1)
                        go_wp2_with fail
                        go_roundw
                        case rel => exact ⟨z + 1, by omega, by go_num, hOx, by rw [HS.out, debs_yes HO.out hp, creds_pos HO.out hp, sum_push]; exact hTx, hbzy.trans hbx⟩
                        case measure => simp [intOf]; omega
                      · have HPn := hide hp
                        go_wp2_with fail
                        refine (refBig_any x.amt _ (by omega) (by omega)).mono ?_
                        rintro e wy ⟨gy, rfl, hY, hby⟩
                        have hTy := hTzc.below hby
                        have hOy := hOzc.below hby
                        have hbzy := bthen hbzc (Nat.le_refl _) hby
                        have hszy := hbzy.size
                        have hn1 : Hid ((creds acc cur (linesAt al i z)).sum.natAbs < 79228162514264337593543950336) := by show _ < _; have := hrC.out; omega
                        have hn2 : Hid (x.amt.natAbs < 79228162514264337593543950336) := by show _ < _; omega
                        clear hTzc hOzc
                        go_wp2_with fail
                        refine (qSub_frame hTy.c hY hszy hn1.out hn2.out).mono ?_
                        rintro e wx ⟨rfl, hQ, hbx, hgx, hF⟩
                        rw [Int.sub_eq_add_neg] at hQ
                        have hTx := (hTy.swap.added (fun q e => (hOy.block q e).2) hQ hgx hF).swap
                        have hOx := hOy.grown hgx (.inr hTy.oc.1)
                        go_wp2_with fail
                        go_roundw
                        case rel => exact ⟨z + 1, by omega, by go_num, hOx, by rw [HS.out, debs_neg HO.out (by have := HPn.out; omega), creds_yes HO.out (by have := HPn.out; omega), sum_push]; exact hTx, hbzy.trans hbx⟩
                        case measure => simp [intOf]; omega
                · go_wp2_with fail
                  go_roundw
                  case rel => exact ⟨i + 1, by omega, by go_num, hOz, by have e : z = al[i].lines.length := (by omega); rw [← linesAt_all (es := al) hil, ← e]; exact hTz, hbz⟩
                  case measure => simp [intOf]; omega
            · as_aux_lemma =>
              have hB : ofB ent per al[i] = true := by simp [ofB, h1, h2, h3, h4]
              have HB : Hid (ofTo al ent per (i + 1) = ofTo al ent per i ++ [(i : Int)]) := by show _ = _; rw [ofTo_any hil, if_pos hB]
              clear hB
              go_wp2_with (first | (at_builtin; go_loud (refine wpList_push _ rfl _ _ 42 rfl _ 3 j0 (.int .i64 0) 1 8 Tryz.underlying42 hj0 hy0 hy1 hy2 rfl (by decide) intEnc_ok _ (ofTo al ent per i) rfl (hOfd.alloc _) _ 1 1 [(i : Int)] rfl (Rd.boxed _ intEnc_ok _ _ _ rfl) (by intro h; cases h) (by simp only [maxLen]; omega) (by omega) (by simp; omega) ?_); intro ov6 w6 hown6 hg6 hat6; rw [← HB.out] at hown6; have hT6 := (hTd.below ((Below.refl _ _).alloc (Nat.le_refl _) _)).pushed hg6 hat6; have hb6 := (hbid.alloc hszd _).grown hg6 (by simp; omega) (fun q e => (hOfd.block q e).1)))
              go_loopw [30] (fun zv wi => ∃ z : Nat, z ≤ al[i].n ∧ zv = .int .i64 z ∧ Own wi wl.heap.size 3 1 intEnc ov6 (ofTo al ent per (i + 1)) ∧ Two wi wl.heap.size gd gc ov6 (debs acc cur (linesAt al i z)).sum (creds acc cur (linesAt al i z)).sum ∧ Below wl.heap.size wl wi) (fun zv _ => al[i].n - (intOf zv).toNat)
              case atStart => exact ⟨0, by omega, rfl, hown6, by rw [linesAt_zero al i]; exact hT6, hb6⟩
              case round =>
                as_aux_lemma =>
                obtain ⟨z, hz, rfl, hOz, hTz, hbz⟩ := hrel
                have b3 := below_cell hbz hab a3
                have hszz := hbz.size
                by_cases hzl : z < al[i].n
                · have hzl' : z < al[i].lines.length := by omega
                  obtain ⟨x, hx⟩ : ∃ x, x = al[i].lines[z] := ⟨_, rfl⟩
                  obtain ⟨lb, lo, hA, hlc⟩ := (hfa.2.2.2.1.below (bthen hbl (Nat.le_refl _) hbz)).2 (by omega)
                  have r0 := hlc z 0 _ hzl' rfl
                  have r1 := hlc z 1 _ hzl' rfl
                  have r2 := hlc z 2 _ hzl' rfl
                  rw [Nat.add_zero] at r0
                  rw [← hx] at r0 r1 r2
                  rw [hA] at b3
                  have HA := hide hA
                  clear hlc hA
                  have z0 : (0 : Int) ≤ (z : Int) := by omega
                  have z1 : (z : Int) < (al[i].n : Int) := by omega
                  have hbx := hJb.out _ (List.getElem_mem hil) x (by rw [hx]; exact List.getElem_mem hzl')
                  obtain ⟨x1, x2⟩ := hbx
                  have HS : Hid (linesAt al i (z + 1) = linesAt al i z ++ [x]) := by show _ = _; rw [linesAt_succ hil hzl', hx]
                  have hLL := linesAt_len hJ20.out hil (j := z) (by omega)
                  have hrD := hide (debs_range acc cur (linesAt_bnd hJb.out i z))
                  have hrC := hide (creds_range acc cur (linesAt_bnd hJb.out i z))
                  have hof := hide (ofAC_eq acc cur x)
                  have hbzc := hbz.alloc hszz (.cells #[.string x.acc, .string x.cur, .int .i64 x.amt] 35)
                  have hOzc := hOz.alloc (.cells #[.string x.acc, .string x.cur, .int .i64 x.amt] 35)
                  have hTzc := hTz.below ((Below.refl _ _).alloc (Nat.le_refl _) (.cells #[.string x.acc, .string x.cur, .int .i64 x.amt] 35))
                  obtain ⟨y0, y1, y2⟩ := LineAt.neu wr x.acc x.cur x.amt
                  clear hOz hTz hx
                  generalize hwz : wr.alloc (.cells #[.string x.acc, .string x.cur, .int .i64 x.amt] 35) = wz at hbzc hOzc hTzc y0 y1 y2
                  cases h1 : (x.acc.toList == acc.toList) with
                  | false =>
                    have HO : Hid (ofAC acc cur x = false) := by show _ = _; rw [hof.out, h1]; rfl
                    go_wp2_with fail
                    go_roundw
                    case rel => exact ⟨z + 1, by omega, by go_num, hOzc, by rw [HS.out, debs_no HO.out, creds_no HO.out]; exact hTzc, hbzc⟩
                    case measure => simp [intOf]; omega
                  | true =>
                    cases h2 : (x.cur.toList == cur.toList) with
                    | false =>
                      have HO : Hid (ofAC acc cur x = false) := by show _ = _; rw [hof.out, h1, h2]; rfl
                      go_wp2_with fail
                      go_roundw
                      case rel => exact ⟨z + 1, by omega, by go_num, hOzc, by rw [HS.out, debs_no HO.out, creds_no HO.out]; exact hTzc, hbzc⟩
                      case measure => simp [intOf]; omega
                    | true =>
                      have HO : Hid (ofAC acc cur x = true) := by show _ = _; rw [hof.out, h1, h2]; rfl
                      by_cases hp : 0 < x.amt
                      · go_wp2_with fail
                        refine (refBig_any x.amt _ (by omega) (by omega)).mono ?_
                        rintro e wy ⟨gy, rfl, hY, hby⟩
                        have hTy := hTzc.below hby
                        have hOy := hOzc.below hby
                        have hbzy := bthen hbzc (Nat.le_refl _) hby
                        have hszy := hbzy.size
                        have hn1 : Hid ((debs acc cur (linesAt al i z)).sum.natAbs < 79228162514264337593543950336) := by show _ < _; have := hrD.out; omega
                        have hn2 : Hid (x.amt.natAbs < 79228162514264337593543950336) := by show _ < _; omega
                        clear hTzc hOzc
                        go_wp2_with fail
                        refine (qAdd_frame hTy.d hY hszy hn1.out hn2.out).mono ?_
                        rintro e wx ⟨rfl, hQ, hbx, hgx, hF⟩
                        have hTx := hTy.added (fun q e => (hOy.block q e).2) hQ hgx hF
                        have hOx := hOy.grown hgx (.inr hTy.od.1)
                        go_wp2_with fail
                        go_roundw
                        case rel => exact ⟨z + 1, by omega, by go_num, hOx, by rw [HS.out, debs_yes HO.out hp, creds_pos HO.out hp, sum_push]; exact hTx, hbzy.trans hbx⟩
                        case measure => simp [intOf]; omega
                      · have HPn := hide hp
                        go_wp2_with fail
                        refine (refBig_any x.amt _ (by omega) (by omega)).mono ?_
                        rintro e wy ⟨gy, rfl, hY, hby⟩
                        have hTy := hTzc.below hby
                        have hOy := hOzc.below hby
                        have hbzy := bthen hbzc (Nat.le_refl _) hby
                        have hszy := hbzy.size
                        have hn1 : Hid ((creds acc cur (linesAt al i z)).sum.natAbs < 79228162514264337593543950336) := by show _ < _; have := hrC.out; omega
                        have hn2 : Hid (x.amt.natAbs < 79228162514264337593543950336) := by show _ < _; omega
                        clear hTzc hOzc
                        go_wp2_with fail
                        refine (qSub_frame hTy.c hY hszy hn1.out hn2.out).mono ?_
                        rintro e wx ⟨rfl, hQ, hbx, hgx, hF⟩
                        rw [Int.sub_eq_add_neg] at hQ
                        have hTx := (hTy.swap.added (fun q e => (hOy.block q e).2) hQ hgx hF).swap
                        have hOx := hOy.grown hgx (.inr hTy.oc.1)
                        go_wp2_with fail
                        go_roundw
                        case rel => exact ⟨z + 1, by omega, by go_num, hOx, by rw [HS.out, debs_neg HO.out (by have := HPn.out; omega), creds_yes HO.out (by have := HPn.out; omega), sum_push]; exact hTx, hbzy.trans hbx⟩
                        case measure => simp [intOf]; omega
                · go_wp2_with fail
                  go_roundw
                  case rel => exact ⟨i + 1, by omega, by go_num, hOz, by have e : z = al[i].lines.length := (by omega); rw [← linesAt_all (es := al) hil, ← e]; exact hTz, hbz⟩
                  case measure => simp [intOf]; omega
            · have hB : ¬ ofB ent per al[i] = true := by simp [ofB, h1, h2, h3, h4]
              have HB : Hid (ofTo al ent per (i + 1) = ofTo al ent per i) := by show _ = _; rw [ofTo_any hil, if_neg hB]
              clear hB
              have hOfe : Own wd wl.heap.size 3 1 intEnc (.slice OA nO oc) (ofTo al ent per (i + 1)) := by rw [HB.out]; exact hOfd
              go_wp2_with fail
              go_loopw [30] (fun zv wi => ∃ z : Nat, z ≤ al[i].n ∧ zv = .int .i64 z ∧ Own wi wl.heap.size 3 1 intEnc (.slice OA nO oc) (ofTo al ent per (i + 1)) ∧ Two wi wl.heap.size gd gc (.slice OA nO oc) (debs acc cur (linesAt al i z)).sum (creds acc cur (linesAt al i z)).sum ∧ Below wl.heap.size wl wi) (fun zv _ => al[i].n - (intOf zv).toNat)
              case atStart => exact ⟨0, by omega, rfl, hOfe, by rw [linesAt_zero al i]; exact hTd, hbid⟩
              case round =>
                as_aux_lemma =>
                obtain ⟨z, hz, rfl, hOz, hTz, hbz⟩ := hrel
                have b3 := below_cell hbz hab a3
                have hszz := hbz.size
                by_cases hzl : z < al[i].n
                · have hzl' : z < al[i].lines.length := by omega
                  obtain ⟨x, hx⟩ : ∃ x, x = al[i].lines[z] := ⟨_, rfl⟩
                  obtain ⟨lb, lo, hA, hlc⟩ := (hfa.2.2.2.1.below (bthen hbl (Nat.le_refl _) hbz)).2 (by omega)
                  have r0 := hlc z 0 _ hzl' rfl
                  have r1 := hlc z 1 _ hzl' rfl
                  have r2 := hlc z 2 _ hzl' rfl
                  rw [Nat.add_zero] at r0
                  rw [← hx] at r0 r1 r2
                  rw [hA] at b3
                  have HA := hide hA
                  clear hlc hA
                  have z0 : (0 : Int) ≤ (z : Int) := by omega
                  have z1 : (z : Int) < (al[i].n : Int) := by omega
                  have hbx := hJb.out _ (List.getElem_mem hil) x (by rw [hx]; exact List.getElem_mem hzl')
                  obtain ⟨x1, x2⟩ := hbx
                  have HS : Hid (linesAt al i (z + 1) = linesAt al i z ++ [x]) := by show _ = _; rw [linesAt_succ hil hzl', hx]
                  have hLL := linesAt_len hJ20.out hil (j := z) (by omega)
                  have hrD := hide (debs_range acc cur (linesAt_bnd hJb.out i z))
                  have hrC := hide (creds_range acc cur (linesAt_bnd hJb.out i z))
                  have hof := hide (ofAC_eq acc cur x)
                  have hbzc := hbz.alloc hszz (.cells #[.string x.acc, .string x.cur, .int .i64 x.amt] 35)
                  have hOzc := hOz.alloc (.cells #[.string x.acc, .string x.cur, .int .i64 x.amt] 35)
                  have hTzc := hTz.below ((Below.refl _ _).alloc (Nat.le_refl _) (.cells #[.string x.acc, .string x.cur, .int .i64 x.amt] 35))
                  obtain ⟨y0, y1, y2⟩ := LineAt.neu wr x.acc x.cur x.amt
                  clear hOz hTz hx
                  generalize hwz : wr.alloc (.cells #[.string x.acc, .string x.cur, .int .i64 x.amt] 35) = wz at hbzc hOzc hTzc y0 y1 y2
                  cases h1 : (x.acc.toList == acc.toList) with
                  | false =>
                    have HO : Hid (ofAC acc cur x = false) := by show _ = _; rw [hof.out, h1]; rfl
                    go_wp2_with fail
                    go_roundw
                    case rel => exact ⟨z + 1, by omega, by go_num, hOzc, by rw [HS.out, debs_no HO.out, creds_no HO.out]; exact hTzc, hbzc⟩
                    case measure => simp [intOf]; omega
                  | true =>
                    cases h2 : (x.cur.toList == cur.toList) with
                    | false =>
                      have HO : Hid (ofAC acc cur x = false) := by show _ = _; rw [hof.out, h1, h2]; rfl
                      go_wp2_with fail
                      go_roundw
                      case rel => exact ⟨z + 1, by omega, by go_num, hOzc, by rw [HS.out, debs_no HO.out, creds_no HO.out]; exact hTzc, hbzc⟩
                      case measure => simp [intOf]; omega
                    | true =>
                      have HO : Hid (ofAC acc cur x = true) := by show _ = _; rw [hof.out, h1, h2]; rfl
                      by_cases hp : 0 < x.amt
                      · go_wp2_with fail
                        refine (refBig_any x.amt _ (by omega) (by omega)).mono ?_
                        rintro e wy ⟨gy, rfl, hY, hby⟩
                        have hTy := hTzc.below hby
                        have hOy := hOzc.below hby
                        have hbzy := bthen hbzc (Nat.le_refl _) hby
                        have hszy := hbzy.size
                        have hn1 : Hid ((debs acc cur (linesAt al i z)).sum.natAbs < 79228162514264337593543950336) := by show _ < _; have := hrD.out; omega
                        have hn2 : Hid (x.amt.natAbs < 79228162514264337593543950336) := by show _ < _; omega
                        clear hTzc hOzc
                        go_wp2_with fail
                        refine (qAdd_frame hTy.d hY hszy hn1.out hn2.out).mono ?_
                        rintro e wx ⟨rfl, hQ, hbx, hgx, hF⟩
                        have hTx := hTy.added (fun q e => (hOy.block q e).2) hQ hgx hF
                        have hOx := hOy.grown hgx (.inr hTy.od.1)
                        go_wp2_with fail
                        go_roundw
                        case rel => exact ⟨z + 1, by omega, by go_num, hOx, by rw [HS.out, debs_yes HO.out hp, creds_pos HO.out hp, sum_push]; exact hTx, hbzy.trans hbx⟩
                        case measure => simp [intOf]; omega
                      · have HPn := hide hp
                        go_wp2_with fail
                        refine (refBig_any x.amt _ (by omega) (by omega)).mono ?_
                        rintro e wy ⟨gy, rfl, hY, hby⟩
                        have hTy := hTzc.below hby
                        have hOy := hOzc.below hby
                        have hbzy := bthen hbzc (Nat.le_refl _) hby
                        have hszy := hbzy.size
                        have hn1 : Hid ((creds acc cur (linesAt al i z)).sum.natAbs < 79228162514264337593543950336) := by show _ < _; have := hrC.out; omega
                        have hn2 : Hid (x.amt.natAbs < 79228162514264337593543950336) := by show _ < _; omega
                        clear hTzc hOzc
                        go_wp2_with fail
                        refine (qSub_frame hTy.c hY hszy hn1.out hn2.out).mono ?_
                        rintro e wx ⟨rfl, hQ, hbx, hgx, hF⟩
                        rw [Int.sub_eq_add_neg] at hQ
                        have hTx := (hTy.swap.added (fun q e => (hOy.block q e).2) hQ hgx hF).swap
                        have hOx := hOy.grown hgx (.inr hTy.oc.1)
                        go_wp2_with fail
                        go_roundw
                        case rel => exact ⟨z + 1, by omega, by go_num, hOx, by rw [HS.out, debs_neg HO.out (by have := HPn.out; omega), creds_yes HO.out (by have := HPn.out; omega), sum_push]; exact hTx, hbzy.trans hbx⟩
                        case measure => simp [intOf]; omega
                · go_wp2_with fail
                  go_roundw
                  case rel => exact ⟨i + 1, by omega, by go_num, hOz, by have e : z = al[i].lines.length := (by omega); rw [← linesAt_all (es := al) hil, ← e]; exact hTz, hbz⟩
                  case measure => simp [intOf]; omega
          · have hB : ¬ ofB ent per al[i] = true := by simp [ofB, h1, h2]
            have HB : Hid (ofTo al ent per (i + 1) = ofTo al ent per i) := by show _ = _; rw [ofTo_any hil, if_neg hB]
            clear hB
            have hOfe : Own wd wl.heap.size 3 1 intEnc (.slice OA nO oc) (ofTo al ent per (i + 1)) := by rw [HB.out]; exact hOfd
            go_wp2_with fail
            go_loopw [30] (fun zv wi => ∃ z : Nat, z ≤ al[i].n ∧ zv = .int .i64 z ∧ Own wi wl.heap.size 3 1 intEnc (.slice OA nO oc) (ofTo al ent per (i + 1)) ∧ Two wi wl.heap.size gd gc (.slice OA nO oc) (debs acc cur (linesAt al i z)).sum (creds acc cur (linesAt al i z)).sum ∧ Below wl.heap.size wl wi) (fun zv _ => al[i].n - (intOf zv).toNat)
            case atStart => exact ⟨0, by omega, rfl, hOfe, by rw [linesAt_zero al i]; exact hTd, hbid⟩
            case round =>
              as_aux_lemma =>
              obtain ⟨z, hz, rfl, hOz, hTz, hbz⟩ := hrel
              have b3 := below_cell hbz hab a3
              have hszz := hbz.size
              by_cases hzl : z < al[i].n
              · have hzl' : z < al[i].lines.length := by omega
                obtain ⟨x, hx⟩ : ∃ x, x = al[i].lines[z] := ⟨_, rfl⟩
                obtain ⟨lb, lo, hA, hlc⟩ := (hfa.2.2.2.1.below (bthen hbl (Nat.le_refl _) hbz)).2 (by omega)
                have r0 := hlc z 0 _ hzl' rfl
                have r1 := hlc z 1 _ hzl' rfl
                have r2 := hlc z 2 _ hzl' rfl
                rw [Nat.add_zero] at r0
                rw [← hx] at r0 r1 r2
                rw [hA] at b3
                have HA := hide hA
                clear hlc hA
                have z0 : (0 : Int) ≤ (z : Int) := by omega
                have z1 : (z : Int) < (al[i].n : Int) := by omega
                have hbx := hJb.out _ (List.getElem_mem hil) x (by rw [hx]; exact List.getElem_mem hzl')
                obtain ⟨x1, x2⟩ := hbx
                have HS : Hid (linesAt al i (z + 1) = linesAt al i z ++ [x]) := by show _ = _; rw [linesAt_succ hil hzl', hx]
                have hLL := linesAt_len hJ20.out hil (j := z) (by omega)
                have hrD := hide (debs_range acc cur (linesAt_bnd hJb.out i z))
                have hrC := hide (creds_range acc cur (linesAt_bnd hJb.out i z))
                have hof := hide (ofAC_eq acc cur x)
                have hbzc := hbz.alloc hszz (.cells #[.string x.acc, .string x.cur, .int .i64 x.amt] 35)
                have hOzc := hOz.alloc (.cells #[.string x.acc, .string x.cur, .int .i64 x.amt] 35)
                have hTzc := hTz.below ((Below.refl _ _).alloc (Nat.le_refl _) (.cells #[.string x.acc, .string x.cur, .int .i64 x.amt] 35))
                obtain ⟨y0, y1, y2⟩ := LineAt.neu wr x.acc x.cur x.amt
                clear hOz hTz hx
                generalize hwz : wr.alloc (.cells #[.string x.acc, .string x.cur, .int .i64 x.amt] 35) = wz at hbzc hOzc hTzc y0 y1 y2
                cases h1 : (x.acc.toList == acc.toList) with
                | false =>
                  have HO : Hid (ofAC acc cur x = false) := by show _ = _; rw [hof.out, h1]; rfl
                  go_wp2_with fail
                  go_roundw
                  case rel => exact ⟨z + 1, by omega, by go_num, hOzc, by rw [HS.out, debs_no HO.out, creds_no HO.out]; exact hTzc, hbzc⟩
                  case measure => simp [intOf]; omega
                | true =>
                  cases h2 : (x.cur.toList == cur.toList) with
                  | false =>
                    have HO : Hid (ofAC acc cur x = false) := by show _ = _; rw [hof.out, h1, h2]; rfl
                    go_wp2_with fail
                    go_roundw
                    case rel => exact ⟨z + 1, by omega, by go_num, hOzc, by rw [HS.out, debs_no HO.out, creds_no HO.out]; exact hTzc, hbzc⟩
                    case measure => simp [intOf]; omega
                  | true =>
                    have HO : Hid (ofAC acc cur x = true) := by show _ = _; rw [hof.out, h1, h2]; rfl
                    by_cases hp : 0 < x.amt
                    · go_wp2_with fail
                      refine (refBig_any x.amt _ (by omega) (by omega)).mono ?_
                      rintro e wy ⟨gy, rfl, hY, hby⟩
                      have hTy := hTzc.below hby
                      have hOy := hOzc.below hby
                      have hbzy := bthen hbzc (Nat.le_refl _) hby
                      have hszy := hbzy.size
                      have hn1 : Hid ((debs acc cur (linesAt al i z)).sum.natAbs < 79228162514264337593543950336) := by show _ < _; have := hrD.out; omega
                      have hn2 : Hid (x.amt.natAbs < 79228162514264337593543950336) := by show _ < _; omega
                      clear hTzc hOzc
                      go_wp2_with fail
                      refine (qAdd_frame hTy.d hY hszy hn1.out hn2.out).mono ?_
                      rintro e wx ⟨rfl, hQ, hbx, hgx, hF⟩
                      have hTx := hTy.added (fun q e => (hOy.block q e).2) hQ hgx hF
                      have hOx := hOy.grown hgx (.inr hTy.od.1)
                      go_wp2_with fail
                      go_roundw
                      case rel => exact ⟨z + 1, by omega, by go_num, hOx, by rw [HS.out, debs_yes HO.out hp, creds_pos HO.out hp, sum_push]; exact hTx, hbzy.trans hbx⟩
                      case measure => simp [intOf]; omega
                    · have HPn := hide hp
                      go_wp2_with fail
                      refine (refBig_any x.amt _ (by omega) (by omega)).mono ?_
                      rintro e wy ⟨gy, rfl, hY, hby⟩
                      have hTy := hTzc.below hby
                      have hOy := hOzc.below hby
                      have hbzy := bthen hbzc (Nat.le_refl _) hby
                      have hszy := hbzy.size
                      have hn1 : Hid ((creds acc cur (linesAt al i z)).sum.natAbs < 79228162514264337593543950336) := by show _ < _; have := hrC.out; omega
                      have hn2 : Hid (x.amt.natAbs < 79228162514264337593543950336) := by show _ < _; omega
                      clear hTzc hOzc
                      go_wp2_with fail
                      refine (qSub_frame hTy.c hY hszy hn1.out hn2.out).mono ?_
                      rintro e wx ⟨rfl, hQ, hbx, hgx, hF⟩
                      rw [Int.sub_eq_add_neg] at hQ
                      have hTx := (hTy.swap.added (fun q e => (hOy.block q e).2) hQ hgx hF).swap
                      have hOx := hOy.grown hgx (.inr hTy.oc.1)
                      go_wp2_with fail
                      go_roundw
                      case rel => exact ⟨z + 1, by omega, by go_num, hOx, by rw [HS.out, debs_neg HO.out (by have := HPn.out; omega), creds_yes HO.out (by have := HPn.out; omega), sum_push]; exact hTx, hbzy.trans hbx⟩
                      case measure => simp [intOf]; omega
              · go_wp2_with fail
                go_roundw
                case rel => exact ⟨i + 1, by omega, by go_num, hOz, by have e : z = al[i].lines.length := (by omega); rw [← linesAt_all (es := al) hil, ← e]; exact hTz, hbz⟩
                case measure => simp [intOf]; omega
          --T5>
        · have hie : i = es.length := by omega
          have hTl : linesTo al i = linesTo es es.length := by rw [hie, hSm.out.linesTo]
          have hOl' : ofTo al ent per i = ofTo es ent per es.length := by rw [hie, hSm.out.ofTo]
          rw [hTl] at hT
          rw [hOl'] at hOf
          have hBL := linesTo_bnd hRi.out.bnd es.length
          have hLn := linesTo_len (fun e he => (hRi.out e he).high) (es := es) es.length
          have hrD := debs_range acc cur hBL
          have hrC := creds_range acc cur hBL
          obtain ⟨sd, hsd⟩ : ∃ sd, sd = (debs acc cur (linesTo es es.length)).sum := ⟨_, rfl⟩
          obtain ⟨sc, hsc⟩ : ∃ sc, sc = (creds acc cur (linesTo es es.length)).sum := ⟨_, rfl⟩
          rw [← hsd] at hT hrD
          rw [← hsc] at hT hrC
          have HSD := hide hsd
          have HSC := hide hsc
          have hd1 : Hid (-9223372036854775808 ≤ sd ∧ sd ≤ 9223372036854775807) := by show _ ∧ _; omega
          have hd2 : Hid (-9223372036854775808 ≤ sc ∧ sc ≤ 9223372036854775807) := by show _ ∧ _; omega
          have hd3 : Hid (sd.natAbs < 79228162514264337593543950336) := by show _ < _; omega
          have hd4 : Hid (sc.natAbs < 79228162514264337593543950336) := by show _ < _; omega
          have hAt := jat_none hJi
          rw [hlen] at hAt
          have HAt := hide hAt
          have hlofe := ofTo_len es ent per es.length
          have hil' : ¬ (i : Int) < (al.length : Int) := by omega
          clear hTl hOl' hrD hrC hsd hsc hBL hLn hAt
          go_wp2_with fail
          refine HAt.out.mono ?_
          rintro e wa ⟨rfl, hba'⟩
          have hba := bthen hbi (Nat.le_refl _) hba'
          have hbn : Below wa.heap.size wa (wa.alloc (.cells #[.string ⟨#[]⟩, .int .i64 0, .int .i64 0, .slice none 0 0] 25)) := (Below.refl _ _).alloc (Nat.le_refl _) (.cells #[.string ⟨#[]⟩, .int .i64 0, .int .i64 0, .slice none 0 0] 25)
          have hbb := bthen hba (Nat.le_refl _) hbn
          have hTb := (hT.below hba').below hbn
          have hOb := (hOf.below hba').below hbn
          have hJb := (hJi.below hba').below hbn
          clear hT hOf hJi hbn hba' HAt
          go_wp2_with fail
          generalize wa.alloc (.cells #[.string ⟨#[]⟩, .int .i64 0, .int .i64 0, .slice none 0 0] 25) = wx at hbb hTb hOb hJb ⊢
          have hE := error_any 6 6 _ (hgl.below hbb) (by decide) (by decide)
          rw [errV_n (by decide)] at hE
          refine hE.mono ?_
          rintro e wc ⟨rfl, hbc'⟩
          have hbc := bthen hbb (Nat.le_refl _) hbc'
          have hTc := hTb.below hbc'
          have hOc := hOb.below hbc'
          have hJc := hJb.below hbc'
          clear hE hTb hOb hJb
          go_wp2_with fail
          refine (jof_any hJc (by omega) ent per).mono ?_
          rintro e wd ⟨r, rfl, hOr, hbd'⟩
          have hbd := bthen hbc (Nat.le_refl _) hbd'
          have hTd := hTc.below hbd'
          have hOd := hOc.below hbd'
          have hJd := hJc.below hbd'
          obtain ⟨RA, rc, hr, hr1, hr2⟩ := hOr.form
          have hrd2 := hOd.rd intEnc_ok
          have hnn : (ofTo es ent per es.length).length = nO := hrd2.1
          rw [hnn] at hr hr1
          subst hr
          have hrd1 := hOr.rd intEnc_ok
          have hRd1 := hide hrd1
          have hRd2 := hide hrd2
          have hnO : nO ≤ 9223372036854775807 := by omega
          clear hnn hrd1 hrd2 hTc hOc hJc hOr
          go_wp2_with fail
          refine (ints_same (ofTo es ent per es.length) _ _ nO _ _ _ (show Rd _ 1 intEnc2 _ _ _ from hRd1.out) (show Rd _ 1 intEnc2 _ _ _ from hRd2.out) hnO).mono ?_
          rintro e we ⟨rfl, hbe'⟩
          have hbe := bthen hbd (Nat.le_refl _) hbe'
          have hTe := hTd.below hbe'
          have hOe := hOd.below hbe'
          have hJe := hJd.below hbe'
          clear hTd hOd hJd
          go_wp2_with fail
          refine (jturns_any hJe (by omega) hRi.out.bnd acc cur).mono ?_
          rintro e wf ⟨rfl, hbf'⟩
          rw [← HSD.out, ← HSC.out]
          have hbf := bthen hbe (Nat.le_refl _) hbf'
          have hTf := hTe.below hbf'
          have hOf := hOe.below hbf'
          have hJf := hJe.below hbf'
          clear hTe hOe hJe
          go_wp2_with fail
          refine (refBig_any sd _ hd1.out.1 hd1.out.2).mono ?_
          rintro e w6 ⟨g1, rfl, hQ1, hbg'⟩
          have hbg := bthen hbf (Nat.le_refl _) hbg'
          have hTg := hTf.below hbg'
          go_wp2_with fail
          refine (qCmp_same hQ1 hTg.d hd3.out).mono ?_
          rintro e w7 ⟨rfl, hbh'⟩
          have hbh := bthen hbg (Nat.le_refl _) hbh'
          have hTh := hTg.below hbh'
          go_wp2_with fail
          refine (refBig_any sc _ hd2.out.1 hd2.out.2).mono ?_
          rintro e w8 ⟨g2, rfl, hQ2, hbk'⟩
          have hbk := bthen hbh (Nat.le_refl _) hbk'
          have hTk := hTh.below hbk'
          go_wp2_with fail
          refine (qCmp_same hQ2 hTk.c hd4.out).mono ?_
          rintro e w9 ⟨rfl, hbm'⟩
          have hbm := bthen hbk (Nat.le_refl _) hbm'
          go_wp2_with fail
          go_ret
          exact ⟨by first | rfl | simp, bthen hbl (Nat.le_refl _) hbm⟩
end Go.Proofs.YthmjkhlndphldaaGreatDoor
