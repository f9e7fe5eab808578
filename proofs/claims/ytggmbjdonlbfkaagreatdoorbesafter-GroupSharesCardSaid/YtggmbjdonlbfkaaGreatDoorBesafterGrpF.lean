/- group.Whole without holdings, of balances of one currency: what it returns. -/
import Derived.Test.YtggmbjdonlbfkaaGreatDoorBesafterGrpY
import Derived.Test.YtggmbjdonlbfkaaGreatDoorBesafterGrpC
import Derived.Test.YtggmbjdonlbfkaaGreatDoorBesafterGrpD
import Derived.Test.YtggmbjdonlbfkaaGreatDoorBesafterLedZ
import Derived.Test.YtggmbjdonlbfkaaGreatDoorBesafterRatW
import Derived.Deep.RegionLaw
import Derived.Deep.RegionHeld3
namespace Go.Proofs.YtggmbjdonlbfkaaGreatDoorBesafter
open Go Go.RowKit
set_option linter.unusedVariables false

def wholeY (c : List Acc) (S : List Bal) (top : Int) : List Int := if stE c S top eur = 0 then List.replicate c.length 0 else []
theorem ints_infoG : (Tryz.prog.info? 25).map (fun i => (i.zero, i.size, i.bytes)) = some (some (.slice none 0 0), 1, 24) := by kernel_rfl
theorem parts_nil (top : Int) (ht : 1 ≤ top ∧ top ≤ 12) : (partsF [] top).length = 12 ∧ ∀ (k : Nat) (hk : k < (partsF [] top).length), (partsF [] top)[k] = if k = (top - 1).toNat then 1000 else 0 := by
  obtain ⟨h0, _, h2⟩ := parts_none top ht
  obtain ⟨h3, _, h5⟩ := parts_law h0 ht
  refine ⟨h3, fun k hk => ?_⟩
  rw [← getD_at hk]
  by_cases e : k = (top - 1).toNat
  · rw [if_pos e, e]; exact h5
  · rw [if_neg e]; exact h2 k e
theorem am_bnd {c : List Acc} {l : List Bal} {ent : Int} {cur : ByteArray} (h : balsE l = 0) (k : Nat) : ∀ y ∈ amtTo c l ent cur k, -1000000000000000000 ≤ y ∧ y ≤ 1000000000000000000 := by
  intro y hy
  rcases amtTo_mem k y hy with rfl | ⟨x, hx, rfl⟩
  · omega
  · exact may_le (bals_may h x hx)

/-- two rows of nothing, laid just now -/
theorem two_rows (W : World) (n : Nat) : (VRow ((W.alloc (.cells (Array.replicate n (.slice none 0 0)) 25)).alloc (.cells (Array.replicate n (.slice none 0 0)) 25)).drew W.heap.size 25 n fun _ => .slice none 0 0) ∧
    (VRow ((W.alloc (.cells (Array.replicate n (.slice none 0 0)) 25)).alloc (.cells (Array.replicate n (.slice none 0 0)) 25)).drew (W.heap.size + 1) 25 n fun _ => .slice none 0 0) ∧
    Below W.heap.size W ((W.alloc (.cells (Array.replicate n (.slice none 0 0)) 25)).alloc (.cells (Array.replicate n (.slice none 0 0)) 25)).drew := by
  have h1 := VRow.made W 25 n (.slice none 0 0)
  have h2 := VRow.made (W.alloc (.cells (Array.replicate n (.slice none 0 0)) 25)) 25 n (.slice none 0 0)
  rw [show (W.alloc (.cells (Array.replicate n (.slice none 0 0)) 25)).heap.size = W.heap.size + 1 by simp] at h2
  exact ⟨h1.below (bdrewN ((Below.refl _ _).alloc (Nat.le_refl _) _) 1), h2, bdrewN (((Below.refl _ _).alloc (Nat.le_refl _) _).alloc (by simp) _) 1⟩

theorem keepM {w : World} {g q i : Nat} {u v : Value} (o : Obj) (h : w.cell? ⟨g, i, none⟩ = some u ∧ w.cell? ⟨q, i, none⟩ = some v) : (w.alloc o).cell? ⟨g, i, none⟩ = some u ∧ (w.alloc o).cell? ⟨q, i, none⟩ = some v := ⟨cell_keepG h.1, cell_keepG h.2⟩

theorem keepMD {w : World} {g q i : Nat} {u v : Value} (o : Obj) (h : w.drew.cell? ⟨g, i, none⟩ = some u ∧ w.drew.cell? ⟨q, i, none⟩ = some v) : (w.alloc o).drew.cell? ⟨g, i, none⟩ = some u ∧ (w.alloc o).drew.cell? ⟨q, i, none⟩ = some v := keepM (w := w) o h
theorem belowDA {B : Nat} {a w : World} (h : Below B a w.drew) (hB : B ≤ w.heap.size) (o : Obj) : Below B a (w.alloc o).drew := Below.alloc (w := w.drew) h hB o

set_option maxHeartbeats 4000000 in
set_option maxRecDepth 100000 in
theorem whole_eur (c : List Acc) (CA : Option Addr) (cn ccap : Nat) (S : List Bal) (A : Option Addr) (n cap : Nat) (top : Int) (w : World) (hcl : cn ≤ 9223372036854775807) (hcc : cn ≤ ccap) (hc : Accs w CA cn c) (hcok : AccOk c) (ht : 1 ≤ top ∧ top ≤ 12)
    (hl : n ≤ 9223372036854775807) (ha : Rd w 4 balEnc A n S) (hE : Eurs S) (hok : BalsOk S) :
    Calls Tryz.prog 5 #[.slice CA cn ccap, .slice none 0 0, .string eur, .slice none 0 0, .int .i64 top, .slice A n cap, .int .i64 1] w fun e w' =>
      ∃ v y, e = .returned (.tuple #[v, y, errV (stE c S top eur)]) ∧ Own w' w.heap.size 3 1 intEnc2 v (stL c S top eur) ∧ Own w' w.heap.size 3 1 intEnc2 y (wholeY c S top) ∧ Below w.heap.size w w' := by
  obtain ⟨i0, hi0, hz0, hz1, hz2⟩ := info_parts int_info2
  obtain ⟨j0, hj0, hx0, hx1, hx2⟩ := info_parts ints_infoG
  have Hn := hide ha.1
  have Hc := hide hc.1
  obtain ⟨ev, hev⟩ : ∃ ev, ev = errV (stE c S top eur) := ⟨_, rfl⟩
  obtain ⟨LL, hLL⟩ : ∃ LL, LL = stL c S top eur := ⟨_, rfl⟩
  obtain ⟨YY, hYY⟩ : ∃ YY, YY = wholeY c S top := ⟨_, rfl⟩
  rw [← hev, ← hLL, ← hYY]
  have HEV := hide hev
  have HLL := hide hLL
  have HYY := hide hYY
  have HBAD : Hid (∀ z, z ≠ 0 → stE c S top eur = z → LL = [] ∧ YY = [] ∧ ev = errV z) := by
    intro z hz h
    refine ⟨by rw [hLL]; exact stL_0 (by rw [h]; exact hz), by rw [hYY]; exact if_neg (by rw [h]; exact hz), by rw [hev, h]⟩
  clear hev hLL hYY
  have hbox : Below w.heap.size w (w.alloc (.cells #[.slice CA cn ccap] 22)) := (Below.refl _ _).alloc (Nat.le_refl _) _
  have hcell : (w.alloc (.cells #[.slice CA cn ccap] 22)).cell? ⟨w.heap.size, 0, none⟩ = some (.slice CA cn ccap) := by simp
  by_cases h1 : chartE c = 0
  case neg =>
    have HE := hide (stE_1 (l := S) (ent := top) (cur := eur) h1)
    have HN := hide h1
    clear h1
    go_enter Tryz.func5, Tryz.ntmps5
    go_wp2_with fail
    refine (check_bad c _ _ _ _ hcl hcc (hc.below hbox) hcok HN.out).mono ?_
    rintro e w1 ⟨rfl, hb1⟩
    go_wp2_with fail
    go_ret3
    obtain ⟨e1, e2, e3⟩ := HBAD.out _ HN.out HE.out
    exact ⟨_, _, by rw [e3, errV_n HN.out]; rfl, by rw [e1]; exact Own.nil _ _ _ _ _, by rw [e2]; exact Own.nil _ _ _ _ _, bthen hbox (Nat.le_refl _) hb1⟩
  case pos =>
  have H1 := hide h1
  have h60 : cn ≤ 60 := by have := chartE_len h1; have := Hc.out; omega
  clear h1
  obtain ⟨hp12, hpk⟩ := parts_nil top ht
  have HPK := hide hpk
  have HH0 := hide (parts_none top ht).1
  have HT := hide ht
  by_cases h2 : balsE S = 0
  case neg =>
    have HE := hide (stE_2 (ent := top) (cur := eur) H1.out h2)
    have HN := hide h2
    clear h2 hp12 hpk ht
    go_enter Tryz.func5, Tryz.ntmps5
    go_wp2_with fail
    refine (check_ok c _ _ _ _ hcl hcc (hc.below hbox) hcok H1.out).mono ?_
    rintro e w1 ⟨rfl, hb1⟩
    have hb1 := bthen hbox (Nat.le_refl _) hb1
    go_wp2_with fail
    refine (gparts_any [] none 0 0 top _ (by omega) (by unfold maxLen; omega) (Rd.nil _ _ _ _)).mono ?_
    rintro e w2 ⟨hb2, ⟨_, _, g, rfl, hown⟩ | ⟨hno, _⟩⟩
    case inr => exact absurd ⟨HH0.out, HT.out⟩ hno
    have hb2 := bthen hb1 (Nat.le_refl _) hb2
    clear hown hb1
    go_wp2_with fail
    refine (translate_eur S _ _ _ _ hl (Rd.below ha hb2) hE hok).mono ?_
    rintro e w3 ⟨hb3, ⟨hz, _⟩ | ⟨_, rfl⟩⟩
    · exact absurd hz HN.out
    · go_wp2_with fail
      go_ret3
      obtain ⟨e1, e2, e3⟩ := HBAD.out _ HN.out HE.out
      exact ⟨_, _, by rw [e3, errV_n HN.out]; rfl, by rw [e1]; exact Own.nil _ _ _ _ _, by rw [e2]; exact Own.nil _ _ _ _ _, bthen hb2 (Nat.le_refl _) hb3⟩
  case pos =>
  have H2 := hide h2
  have h200 : n ≤ 200 := by have := (balsE_0 h2).1; have := Hn.out; omega
  clear h2 hpk ht
  have hmk : ∀ W : World, (Instr.makeSlice 47 (.int .i64 (cn : Int)) (.int .i64 (cn : Int))).run Tryz.prog W = .ok (.slice (some ⟨W.heap.size, 0, none⟩) cn cn) (W.alloc (.cells (Array.replicate cn (.slice none 0 0)) 25)) := fun W => by
    have h := run_mk 47 25 j0 (.slice none 0 0) Tryz.underlying47 hj0 hx0 cn (by rw [hx2]; omega) (by omega) W
    simp only [hx1, Nat.mul_one, show (Value.slice none 0 0).cells = #[.slice none 0 0] from rfl, madeCells_one] at h
    exact h
  go_enter Tryz.func5, Tryz.ntmps5
  go_wp2_with fail
  refine (check_ok c _ _ _ _ hcl hcc (hc.below hbox) hcok H1.out).mono ?_
  rintro e w1 ⟨rfl, hb1⟩
  have hcell := below_cell hb1 (by simp) hcell
  have hb1 := bthen hbox (Nat.le_refl _) hb1
  go_wp2_with fail
  refine (gparts_any [] none 0 0 top _ (by omega) (by unfold maxLen; omega) (Rd.nil _ _ _ _)).mono ?_
  rintro e w2 ⟨hb2, ⟨_, _, gp, rfl, hownP⟩ | ⟨hno, _⟩⟩
  case inr => exact absurd ⟨HH0.out, HT.out⟩ hno
  have hcell := below_cell hb2 (World.block_lt_of_cell? _ _ hcell) hcell
  have hb2 := bthen hb1 (Nat.le_refl _) hb2
  go_wp2_with fail
  refine (translate_eur S _ _ _ _ hl (Rd.below ha hb2) hE hok).mono ?_
  rintro e w3 ⟨hb3, ⟨_, vt, rfl, hownT⟩ | ⟨hz, _⟩⟩
  case inr => exact absurd H2.out hz
  obtain ⟨TA, tc, rfl, htc, htm⟩ := hownT.form
  have hcell := below_cell hb3 (World.block_lt_of_cell? _ _ hcell) hcell
  have hrdP := (hownP.rd intEnc2_ok).below hb3
  have hrdT := hownT.rd balEnc_ok
  have hb3 := bthen hb2 (Nat.le_refl _) hb3
  clear hownP hownT hb1 hb2
  rw [Hn.out] at hrdT ⊢
  have hgc := World.block_lt_of_cell? _ _ hcell
  have hs3 := hb3.size
  go_upto_region 10 with fail
  go_cut [21, 22] from 59 to 64 (fun va vb wx => ∃ ga gb, va = .slice (some ⟨ga, 0, none⟩) cn cn ∧ vb = .slice (some ⟨gb, 0, none⟩) cn cn ∧ Mat wx ga gb cn (amtTo c S top eur n) 0 ∧ w3.heap.size ≤ ga ∧ w3.heap.size ≤ gb ∧ Below w3.heap.size w3 wx)
  case first =>
    obtain ⟨v1, v2, v3⟩ := two_rows w3 cn
    have hn1 : w3.heap.size ≠ w3.heap.size + 1 := by omega
    have hn2 : w3.heap.size + 1 ≠ w3.heap.size := by omega
    have HV1 := hide v1
    have HV2 := hide v2
    have HV3 := hide v3
    clear v1 v2 v3
    go_region
    · go_wp2_with fail
      go_meet
      exact ⟨_, _, rfl, rfl, Mat.new hn1 HV1.out HV2.out, by omega, by omega, HV3.out⟩
    · go_wp2_with fail
      go_meet
      exact ⟨_, _, rfl, rfl, Mat.new hn2 HV2.out HV1.out, by omega, by omega, HV3.out⟩
  case rest =>
  obtain ⟨ga, gb, rfl, rfl, hM, hga, hgb, hbc⟩ := hcut
  clear hmk
  obtain ⟨T, hT⟩ : ∃ T : Nat, top = (T : Int) + 1 := ⟨(top - 1).toNat, by have := HT.out; omega⟩
  subst hT
  have hT12 : T < 12 := by have := HT.out; omega
  have hTn : ((T : Int) + 1 - 1).toNat = T := by omega
  rw [hTn] at HPK
  obtain ⟨P, hP⟩ : ∃ P, P = partsF [] ((T : Int) + 1) := ⟨_, rfl⟩
  rw [← hP] at hp12 HPK hrdP
  clear hP hTn
  obtain ⟨am, ham⟩ : ∃ am, am = amtTo c S ((T : Int) + 1) eur n := ⟨_, rfl⟩
  have haml : am.length = cn := by rw [ham, amtTo_len]; exact Hc.out
  have ham64 : Ints64 am := by rw [ham]; exact amt_ints H2.out n
  have hambd := am_bnd (c := c) (ent := (T : Int) + 1) (cur := eur) H2.out n
  rw [← ham] at hM hambd
  have HAM := hide ham
  have HAML := hide haml
  have HA64 := hide ham64
  have HABD := hide hambd
  have HRDP := hide hrdP
  have HRDT := hide hrdT
  have HCELL := hide hcell
  clear ham haml ham64 hambd hrdP hrdT hcell
  go_wp2_with fail
  go_loopw [67] (fun iv wr => ∃ (k i : Nat), k ≤ 12 ∧ iv = .int .i64 k ∧ Mat wr ga gb cn am i ∧ Hid ((k ≤ T → i = 0) ∧ (T < k → i = cn ∧ amtE c S ((T : Int) + 1) eur = 0)) ∧ Below w3.heap.size w3 wr) (fun iv _ => 12 - (intOf iv).toNat)
  case atStart => exact ⟨0, 0, by omega, rfl, hM, ⟨fun _ => rfl, fun h => absurd h (by omega)⟩, hbc⟩
  case round =>
    clear hM hbc
    obtain ⟨k, i, hk, rfl, hM, HKI, hbr⟩ := hrel
    obtain ⟨wo, hwo⟩ : ∃ wo, wo = wr := ⟨_, rfl⟩
    subst hwo
    have hbw : Below w.heap.size w wo := hb3.trans (hbr.mono hs3)
    by_cases hlt : k < 12
    · have hkl : k < P.length := by omega
      obtain ⟨pb, po, hPA, hcs⟩ := (Rd.below HRDP.out hbr).2 (by omega)
      injection hPA with hPA
      injection hPA with hp1 hp2
      subst hp1 hp2
      have q0 := hcs k 0 _ hkl rfl
      simp only [Nat.mul_one, Nat.zero_add, Nat.add_zero] at q0
      rw [HPK.out k hkl] at q0
      clear hcs
      have k0 : (0 : Int) ≤ (k : Int) := by omega
      have k1 : (k : Int) < 12 := by omega
      by_cases hkT : k = T
      case neg =>
        rw [if_neg hkT] at q0
        go_wp2_with fail
        go_roundw
        case rel => exact ⟨k + 1, i, by omega, by go_num, hM, ⟨fun h => HKI.out.1 (by omega), fun h => HKI.out.2 (by omega)⟩, hbr⟩
        case measure => simp [intOf]; omega
      case pos =>
      subst hkT
      rw [if_pos rfl] at q0
      obtain rfl : i = 0 := HKI.out.1 (Nat.le_refl _)
      have hcg := below_cell hbr hgc HCELL.out
      have hcr := hc.below hbw
      go_wp2_with fail
      refine (amounts_any c CA cn ccap S TA n tc ((k : Int) + 1) eur _ (by omega) hcr (by omega) (Rd.below HRDT.out hbr)).mono ?_
      rintro e w4 ⟨v4, rfl, hown4, hb4⟩
      have hcg4 := below_cell hb4 (World.block_lt_of_cell? _ _ hcg) hcg
      have hM4 := hM.below hb4
      obtain ⟨hla, hlb⟩ := hM.lts
      have hbr4 := bthen hbr (Nat.le_refl _) hb4
      have hbw4 := bthen hbw (Nat.le_refl _) hb4
      by_cases h3 : amtE c S ((k : Int) + 1) eur = 0
      case neg =>
        have HE := hide (stE_3 (ent := (k : Int) + 1) (cur := eur) H1.out H2.out h3)
        have HN := hide h3
        rw [errV_n HN.out]
        clear h3 hown4
        go_wp2_with fail
        go_ret3
        obtain ⟨e1, e2, e3⟩ := HBAD.out _ HN.out HE.out
        exact ⟨_, _, by rw [e3, errV_n HN.out]; rfl, by rw [e1]; exact Own.nil _ _ _ _ _, by rw [e2]; exact Own.nil _ _ _ _ _, hbw4⟩
      case pos =>
      rw [if_pos h3, ← HAM.out] at hown4
      have H3 := hide h3
      rw [errV_0 h3]
      obtain ⟨VA, vc, rfl, hvc, hvm⟩ := hown4.form
      rw [HAML.out] at hown4 hvc ⊢
      have HVN : Hid (∀ q, (Value.slice VA cn vc).ownBlock = some q → q ≠ ga ∧ q ≠ gb) := fun q e => by
        have := (hown4.block q e).1
        omega
      clear h3 hM hcg hvc hvm
      go_wp2_with fail
      go_loopw [88] (fun jv wi => ∃ i : Nat, i ≤ cn ∧ jv = .int .i64 i ∧ Mat wi ga gb cn am i ∧ Own wi wo.heap.size 3 1 intEnc2 (.slice VA cn vc) am ∧ Below w3.heap.size w3 wi) (fun jv _ => cn - (intOf jv).toNat)
      case atStart => exact ⟨0, by omega, rfl, hM4, hown4, hbr4⟩
      case round =>
        clear hM4 hown4 hbr4 hbw4 hcg4
        obtain ⟨i, hi, rfl, hM, hown, hbi⟩ := hrel
        obtain ⟨wi, hwi⟩ : ∃ wi, wi = wr := ⟨_, rfl⟩
        subst hwi
        by_cases hic : i < cn
        · have hil : i < am.length := by have := HAML.out; omega
          obtain ⟨vb, vo, rfl, hcs⟩ := (hown.rd intEnc2_ok).2 (by omega)
          have p0 := hcs i 0 _ hil rfl
          simp only [Nat.mul_one, Nat.add_zero] at p0
          clear hcs
          have i0' : (0 : Int) ≤ (i : Int) := by omega
          have i1' : (i : Int) < (cn : Int) := by omega
          have hxb := HA64.out _ (List.getElem_mem hil)
          have hgd := getD_at hil
          obtain ⟨x, hx⟩ : ∃ x, x = am[i] := ⟨_, rfl⟩
          rw [← hx] at p0 hxb hgd
          clear hx
          have HGD := hide hgd
          have hxb2 : -1000000000000000000 ≤ x ∧ x ≤ 1000000000000000000 := by
            rw [← hgd, getD_at hil]
            exact HABD.out _ (List.getElem_mem hil)
          clear hgd
          go_wp2_with fail
          refine Calls.mono (ratio_pp x 1000 _ hxb.1 hxb.2 (by decide) (by decide)) ?_
          rintro e w6 ⟨rfl, hb6⟩
          have hM6 := (hM.below hb6).below (W' := w6.drew) (bdrewN (Below.refl _ _) 1)
          have hbi6 : Below w3.heap.size w3 w6.drew := bdrewN (bthen hbi (Nat.le_refl _) hb6) 1
          have hown6 := (hown.below hb6).below (w' := w6.drew) (bdrewN (Below.refl _ _) 1)
          have HK : Hid (∀ W, Below w6.drew.heap.size w6.drew W → (W.cell? ⟨ga, i, none⟩ = some (.slice none 0 0) ∧ W.cell? ⟨gb, i, none⟩ = some (.slice none 0 0)) ∧ W.frozen? ⟨ga, i, none⟩ = false ∧ W.frozen? ⟨gb, i, none⟩ = false) := fun W hW => by
            obtain ⟨s1, s2, s3, s4⟩ := (hM6.below hW).spot hic
            exact ⟨⟨s1, s3⟩, s2, s4⟩
          have hS := (HK.out w6.drew (Below.refl _ _)).1
          have hF := (HK.out w6.drew (Below.refl _ _)).2
          have hF1 := hF.1
          have hF2 := hF.2
          have hnab := hM6.ne
          have HM6 := hide hM6
          have HBI := hide hbi6
          have HOW := hide hown6
          have hw1 : IntKind.i64.wrap (-x) = -x := IntWalk.i64_in _ (by omega)
          have hw2 : wrap64 (-x) = -x := by simp only [wrap64]; omega
          clear hM hM6 hbi hbi6 hown hown6 hb6 p0
          (try clear hi0' ); (try clear hc); (try clear ha); (try clear hcok); (try clear hok); (try clear hcl); (try clear hcc); (try clear hl); (try clear hxb); (try clear hxb2); (try clear hcr); (try clear hbr); (try clear hbw); (try clear hb3)
          have HW1 : Hid (Below w6.drew.heap.size w6.drew (w6.alloc (.cells #[.int .i64 x] 3)).drew) := by show Below w6.drew.heap.size w6.drew _; exact belowDA (Below.refl _ w6.drew) (Nat.le_refl _) _
          have HW2 : Hid (Below w6.drew.heap.size w6.drew (w6.alloc (.cells #[.int .i64 x, .int .i64 (-x)] 3)).drew) := by show Below w6.drew.heap.size w6.drew _; exact belowDA (Below.refl _ w6.drew) (Nat.le_refl _) _
          have HW12 : Hid (Below w6.drew.heap.size w6.drew ((w6.alloc (.cells #[.int .i64 x] 3)).alloc (.cells #[.int .i64 x, .int .i64 (-x)] 3)).drew) := by show Below w6.drew.heap.size w6.drew _; exact belowDA (belowDA (Below.refl _ w6.drew) (Nat.le_refl _) _) (by simp) _
          have HW21 : Hid (Below w6.drew.heap.size w6.drew ((w6.alloc (.cells #[.int .i64 x, .int .i64 (-x)] 3)).alloc (.cells #[.int .i64 x] 3)).drew) := by show Below w6.drew.heap.size w6.drew _; exact belowDA (belowDA (Below.refl _ w6.drew) (Nat.le_refl _) _) (by simp) _
          have HC1_1 : Hid (((w6.alloc (.cells #[.int .i64 x] 3)).drew).cell? ⟨w6.heap.size, 0, none⟩ = some (.int .i64 x)) := by show _ = _; simp
          have HC1_12 : Hid ((((w6.alloc (.cells #[.int .i64 x] 3)).alloc (.cells #[.int .i64 x, .int .i64 (-x)] 3)).drew).cell? ⟨w6.heap.size, 0, none⟩ = some (.int .i64 x)) := by show _ = _; simp
          have HC1_21 : Hid ((((w6.alloc (.cells #[.int .i64 x, .int .i64 (-x)] 3)).alloc (.cells #[.int .i64 x] 3)).drew).cell? ⟨w6.heap.size + 1, 0, none⟩ = some (.int .i64 x)) := by show _ = _; simp
          have HC2_2 : Hid (((w6.alloc (.cells #[.int .i64 x, .int .i64 (-x)] 3)).drew).cell? ⟨w6.heap.size, 0, none⟩ = some (.int .i64 x) ∧ ((w6.alloc (.cells #[.int .i64 x, .int .i64 (-x)] 3)).drew).cell? ⟨w6.heap.size, 1, none⟩ = some (.int .i64 (-x))) := by show _ ∧ _; simp
          have HC2_12 : Hid ((((w6.alloc (.cells #[.int .i64 x] 3)).alloc (.cells #[.int .i64 x, .int .i64 (-x)] 3)).drew).cell? ⟨w6.heap.size + 1, 0, none⟩ = some (.int .i64 x) ∧ (((w6.alloc (.cells #[.int .i64 x] 3)).alloc (.cells #[.int .i64 x, .int .i64 (-x)] 3)).drew).cell? ⟨w6.heap.size + 1, 1, none⟩ = some (.int .i64 (-x))) := by show _ ∧ _; simp
          have HC2_21 : Hid ((((w6.alloc (.cells #[.int .i64 x, .int .i64 (-x)] 3)).alloc (.cells #[.int .i64 x] 3)).drew).cell? ⟨w6.heap.size, 0, none⟩ = some (.int .i64 x) ∧ (((w6.alloc (.cells #[.int .i64 x, .int .i64 (-x)] 3)).alloc (.cells #[.int .i64 x] 3)).drew).cell? ⟨w6.heap.size, 1, none⟩ = some (.int .i64 (-x))) := by show _ ∧ _; simp
          have HN1 : Hid (∀ W : World, (W.alloc (.cells #[.int .i64 x] 3)).cell? ⟨W.heap.size, 0, none⟩ = some (.int .i64 x)) := fun W => by simp
          have HN2 : Hid (∀ W : World, (W.alloc (.cells #[.int .i64 x, .int .i64 (-x)] 3)).cell? ⟨W.heap.size, 0, none⟩ = some (.int .i64 x) ∧ (W.alloc (.cells #[.int .i64 x, .int .i64 (-x)] 3)).cell? ⟨W.heap.size, 1, none⟩ = some (.int .i64 (-x))) := fun W => by simp
          have hla6 : ga < w6.heap.size := HM6.out.lts.1
          have hlb6 : gb < w6.heap.size := HM6.out.lts.2
          have HLA : Hid (ga < w6.drew.heap.size) := hla6
          have HLB : Hid (gb < w6.drew.heap.size) := hlb6
          have c6a : w6.cell? ⟨ga, i, none⟩ = some (.slice none 0 0) := hS.1
          have c6b : w6.cell? ⟨gb, i, none⟩ = some (.slice none 0 0) := hS.2
          have f6a : w6.frozen? ⟨ga, i, none⟩ = false := hF1
          have f6b : w6.frozen? ⟨gb, i, none⟩ = false := hF2
          have hnba : gb ≠ ga := fun e => hnab e.symm
          clear hS hF hF1 hF2
          have HFIN : Hid (∀ (w9 : World) (V1 V2 : Value), Below w6.drew.heap.size w6.drew w9 → Own w9 w6.drew.heap.size 3 1 intEnc2 V1 [x] → Own w9 w6.drew.heap.size 3 1 intEnc2 V2 [x, -x] → Mat ((w9.setCell ⟨ga, i, none⟩ V1).setCell ⟨gb, i, none⟩ V2) ga gb cn am (i + 1) ∧ Own ((w9.setCell ⟨ga, i, none⟩ V1).setCell ⟨gb, i, none⟩ V2) wo.heap.size 3 1 intEnc2 (.slice (some ⟨vb, vo, none⟩) cn vc) am ∧ Below w3.heap.size w3 ((w9.setCell ⟨ga, i, none⟩ V1).setCell ⟨gb, i, none⟩ V2)) := by
            intro w9 V1 V2 hB9 hO1 hO2
            have hMn := HM6.out.step hic hB9 (by rw [HGD.out]; exact hO1) (by rw [HGD.out]; exact hO2) (Nat.le_refl _) (Nat.le_refl _)
            have hown9 := ((HOW.out.below hB9).grown (only_setCell (only_refl w9 (some ga)) i V1) (.inr (fun e => (HVN.out _ e).1 rfl))).grown (only_setCell (only_refl _ (some gb)) i V2) (.inr (fun e => (HVN.out _ e).2 rfl))
            exact ⟨hMn, hown9, ((bthen HBI.out (Nat.le_refl _) hB9).setCell hga _).setCell hgb _⟩
          (try clear hE); (try clear hj0); (try clear hx0); (try clear hx1); (try clear hx2); (try clear Hn); (try clear Hc); (try clear HEV); (try clear HLL); (try clear HYY); (try clear HBAD); (try clear hbox); (try clear H1); (try clear HH0); (try clear H2); (try clear h200); (try clear hb1); (try clear hb2); (try clear hb3); (try clear htc); (try clear htm); (try clear hgc); (try clear hs3); (try clear hp12); (try clear HAML); (try clear HA64); (try clear HABD); (try clear HRDP); (try clear HRDT); (try clear HCELL); (try clear HT); (try clear hT12); (try clear HPK); (try clear HAM); (try clear q0); (try clear HKI); (try clear hb4); (try clear hla); (try clear hlb); (try clear H3); (try clear HVN); (try clear HGD); (try clear HBI); (try clear HOW); (try clear hk); (try clear hlt); (try clear hkl); (try clear k0); (try clear k1); (try clear hi); (try clear hil); (try clear hga); (try clear hgb); (try clear HM6);
          go_upto_region 24 with fail
          go_region_law (first | (refine step_freshG ((w6.alloc (.cells #[.int .i64 x] 3)).drew) rfl _ _ 25 rfl 3 i0 (.int .i64 0) 1 8 Tryz.underlying25 hi0 hz0 hz1 hz2 rfl (by decide) intEnc2_ok (by simp [Act.eval]) _ 1 1 [x] rfl (rd1 HC1_1.out) (by intro h; cases h) (by unfold maxLen; omega) (by omega) ?_; intro va wa hown hb8; have hown := own_lower hown HW1.out.size; have HB := hide (bthen HW1.out (Nat.le_refl _) hb8); have hS := (HK.out wa HB.out).1; have t0 := hS.1; have t1 := hS.2; have hF := (HK.out wa HB.out).2; have hF1 := hF.1; have hF2 := hF.2; have hla7 := Nat.lt_of_lt_of_le HLA.out HB.out.size; have hlb7 := Nat.lt_of_lt_of_le HLB.out HB.out.size; obtain ⟨b1, d1, rfl, _, _⟩ := own1 hown; have HO1 := hide hown; clear hown; clear hb8) | (refine step_freshG (((w6.alloc (.cells #[.int .i64 x] 3)).alloc (.cells #[.int .i64 x, .int .i64 (-x)] 3)).drew) rfl _ _ 25 rfl 3 i0 (.int .i64 0) 1 8 Tryz.underlying25 hi0 hz0 hz1 hz2 rfl (by decide) intEnc2_ok (by simp [Act.eval]) _ 1 1 [x] rfl (rd1 HC1_12.out) (by intro h; cases h) (by unfold maxLen; omega) (by omega) ?_; intro va wa hown hb8; have hown := own_lower hown HW12.out.size; have HY := hide (And.intro (below_cell hb8 (by simp <;> omega) HC2_12.out.1) (below_cell hb8 (by simp <;> omega) HC2_12.out.2)); have HB := hide (bthen HW12.out (Nat.le_refl _) hb8); have hS := (HK.out wa HB.out).1; have t0 := hS.1; have t1 := hS.2; have hF := (HK.out wa HB.out).2; have hF1 := hF.1; have hF2 := hF.2; have hla7 := Nat.lt_of_lt_of_le HLA.out HB.out.size; have hlb7 := Nat.lt_of_lt_of_le HLB.out HB.out.size; obtain ⟨b1, d1, rfl, _, _⟩ := own1 hown; have HO1 := hide hown; clear hown; clear hb8) | (refine step_freshG (((w6.alloc (.cells #[.int .i64 x, .int .i64 (-x)] 3)).alloc (.cells #[.int .i64 x] 3)).drew) rfl _ _ 25 rfl 3 i0 (.int .i64 0) 1 8 Tryz.underlying25 hi0 hz0 hz1 hz2 rfl (by decide) intEnc2_ok (by simp [Act.eval]) _ 1 1 [x] rfl (rd1 HC1_21.out) (by intro h; cases h) (by unfold maxLen; omega) (by omega) ?_; intro va wa hown hb8; have hown := own_lower hown HW21.out.size; have HY := hide (And.intro (below_cell hb8 (by simp <;> omega) HC2_21.out.1) (below_cell hb8 (by simp <;> omega) HC2_21.out.2)); have HB := hide (bthen HW21.out (Nat.le_refl _) hb8); have hS := (HK.out wa HB.out).1; have t0 := hS.1; have t1 := hS.2; have hF := (HK.out wa HB.out).2; have hF1 := hF.1; have hF2 := hF.2; have hla7 := Nat.lt_of_lt_of_le HLA.out HB.out.size; have hlb7 := Nat.lt_of_lt_of_le HLB.out HB.out.size; obtain ⟨b1, d1, rfl, _, _⟩ := own1 hown; have HO1 := hide hown; clear hown; clear hb8) | (refine step_freshG (wa.alloc (.cells #[.int .i64 x, .int .i64 (-x)] 3)) rfl _ _ 25 rfl 3 i0 (.int .i64 0) 1 8 Tryz.underlying25 hi0 hz0 hz1 hz2 rfl (by decide) intEnc2_ok (by simp [Act.eval]) _ 2 2 [x, -x] rfl (rd2 (HN2.out wa).1 (HN2.out wa).2) (by intro h; cases h) (by unfold maxLen; omega) (by omega) ?_; intro vb wb hown hb8; have hA := HB.out.alloc HB.out.size (.cells #[.int .i64 x, .int .i64 (-x)] 3); have HO1 := hide ((HO1.out.alloc _).below hb8); have hown := own_lower hown hA.size; have HB := hide (bthen hA (Nat.le_refl _) hb8); have hS := (HK.out wb HB.out).1; have t0 := hS.1; have t1 := hS.2; have hF := (HK.out wb HB.out).2; have hF1 := hF.1; have hF2 := hF.2; have hla7 := Nat.lt_of_lt_of_le HLA.out HB.out.size; have hlb7 := Nat.lt_of_lt_of_le HLB.out HB.out.size; obtain ⟨b2, d2, rfl, _, _⟩ := own2 hown; have HO2 := hide hown; clear hown; clear hb8; clear hA) | (refine step_freshG (wa) rfl _ _ 25 rfl 3 i0 (.int .i64 0) 1 8 Tryz.underlying25 hi0 hz0 hz1 hz2 rfl (by decide) intEnc2_ok (by simp [Act.eval]) _ 2 2 [x, -x] rfl (rd2 HY.out.1 HY.out.2) (by intro h; cases h) (by unfold maxLen; omega) (by omega) ?_; intro vb wb hown hb8; have HO1 := hide ((HO1.out).below hb8); have hown := own_lower hown HB.out.size; have HB := hide (bthen HB.out (Nat.le_refl _) hb8); have hS := (HK.out wb HB.out).1; have t0 := hS.1; have t1 := hS.2; have hF := (HK.out wb HB.out).2; have hF1 := hF.1; have hF2 := hF.2; have hla7 := Nat.lt_of_lt_of_le HLA.out HB.out.size; have hlb7 := Nat.lt_of_lt_of_le HLB.out HB.out.size; obtain ⟨b2, d2, rfl, _, _⟩ := own2 hown; have HO2 := hide hown; clear hown; clear hb8))
          all_goals
            go_wp2_with fail
          all_goals
            go_roundw
            case rel =>
              obtain ⟨f1, f2, f3⟩ := HFIN.out _ _ _ HB.out HO1.out HO2.out
              exact ⟨i + 1, by omega, by go_num, f1, f2, f3⟩
            case measure => simp [intOf]; omega
          -- region 24, behind it
        · have hicn : i = cn := by omega
          subst hicn
          go_wp2_with fail
          go_roundw
          case rel => exact ⟨k + 1, i, by omega, by go_num, hM, ⟨fun h => absurd h (by omega), fun _ => ⟨rfl, H3.out⟩⟩, hbi⟩
          case measure => simp [intOf]; omega
    · have hk12 : k = 12 := by omega
      have hin : i = cn := (HKI.out.2 (by omega)).1
      have H3 := hide (HKI.out.2 (by omega)).2
      subst hk12 hin
      obtain ⟨ra, hra, hoa, hsa⟩ := hM.rowsA HAML.out HA64.out
      obtain ⟨rb, hrb, hob, hsb⟩ := hM.rowsB HAML.out HABD.out
      have hcg := below_cell hbr hgc HCELL.out
      have hcr := hc.below hbw
      go_wp2_with fail
      refine (wsum_any c CA i ccap w.heap.size ra (some ⟨ga, 0, none⟩) i _ h60 hcc hcr hcok H1.out hcg hra hoa).mono ?_
      rw [hsa]
      rintro e w5 ⟨hb5, ⟨hfit, v5, rfl, hown5⟩ | ⟨hfit, rfl⟩⟩
      case inr =>
        have HE := hide (stE_5 (ent := (T : Int) + 1) (cur := eur) H1.out H2.out H3.out (show ¬ Fit64 c (amtTo c S ((T : Int) + 1) eur S.length) c.length by rw [Hn.out, ← HAM.out]; exact hfit))
        clear hfit
        go_wp2_with fail
        go_ret3
        obtain ⟨e1, e2, e3⟩ := HBAD.out _ (by decide) HE.out
        exact ⟨_, _, by rw [e3]; rfl, by rw [e1]; exact Own.nil _ _ _ _ _, by rw [e2]; exact Own.nil _ _ _ _ _, bthen hbw (Nat.le_refl _) hb5⟩
      case inl =>
      have hcr5 := hc.below (bthen hbw (Nat.le_refl _) hb5)
      have hcg5 := below_cell hb5 (World.block_lt_of_cell? _ _ hcg) hcg
      have hrb5 := Rd.below hrb hb5
      have hob5 := fun x hx => (hob x hx).below hb5
      have HFIT := hide hfit
      clear hfit
      go_wp2_with fail
      refine (wsum_any c CA i ccap w.heap.size rb (some ⟨gb, 0, none⟩) i _ h60 hcc hcr5 hcok H1.out hcg5 hrb5 hob5).mono ?_
      rw [hsb]
      rintro e w6 ⟨hb6, ⟨hfit, v6, rfl, hown6⟩ | ⟨hfit, rfl⟩⟩
      case inr => exact absurd (fit_zeros c i c.length) hfit
      clear hfit
      go_wp2_with fail
      go_ret3
      have HST : stE c S ((T : Int) + 1) eur = 0 := stE_4 H1.out H2.out H3.out (by rw [Hn.out, ← HAM.out]; exact HFIT.out)
      refine ⟨_, _, by rw [HEV.out, HST]; rfl, ?_, ?_, bthen (bthen hbw (Nat.le_refl _) hb5) (Nat.le_refl _) hb6⟩
      · rw [HLL.out, stL_1 HST, Hn.out, ← HAM.out]
        exact Own.wider (hown5.below hb6) hbw.size
      · rw [HYY.out, wholeY, if_pos HST]
        rw [roll_zeros] at hown6
        exact Own.wider hown6 (bthen hbw (Nat.le_refl _) hb5).size
end Go.Proofs.YtggmbjdonlbfkaaGreatDoorBesafter
