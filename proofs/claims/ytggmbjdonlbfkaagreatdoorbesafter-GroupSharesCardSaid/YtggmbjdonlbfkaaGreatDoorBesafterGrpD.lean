/- group.Translate at no rates, all balances of the base: what it returns. -/
import Derived.Test.YtggmbjdonlbfkaaGreatDoorBesafterGrpX
import Derived.Test.YtggmbjdonlbfkaaGreatDoorBesafterRevY
import Derived.BigQuiet
import Derived.Deep.QuietTactic
import Derived.Deep.CutRange
namespace Go.Proofs.YtggmbjdonlbfkaaGreatDoorBesafter
open Go Go.RowKit
set_option linter.unusedVariables false

def zeroBalG : Value := .agg #[.int .i64 0, .string ⟨#[]⟩, .string ⟨#[]⟩, .int .i64 0]
theorem bal_infoG : (Tryz.prog.info? 33).map (fun i => (i.zero, i.size, i.bytes)) = some (some zeroBalG, 4, 48) := by kernel_rfl
def isZB (x : Bal) : Bool := x.amt == 0
theorem zeroClo (x : Bal) (w : World) : Calls Tryz.prog 28 #[.agg #[.int .i64 x.ent, .string x.acc, .string x.cur, .int .i64 x.amt]] w fun e w' => e = .returned (.bool (isZB x)) ∧ Below w.heap.size w w' := by
  unfold isZB
  go_enter Tryz.func28, Tryz.ntmps28
  go_wp2_with fail
  go_ret
  exact ⟨rfl, (Below.refl _ _).alloc (Nat.le_refl _) _⟩
set_option maxRecDepth 100000 in
theorem index_zeroB (l : List Bal) (A : Option Addr) (n cap : Nat) (w : World) (hl : n ≤ 9223372036854775807) (ha : Rd w 4 balEnc A n l) :
    Calls Tryz.prog 53 #[.slice A n cap, .func (.func 28) #[] #[]] w fun e w' => e = .returned (.int .i64 (idxA l isZB)) ∧ Below w.heap.size w w' := by
  have Hn := hide ha.1
  go_enter Tryz.func53, Tryz.ntmps53
  go_wp2_with fail
  go_loopw [8] (fun i wr => ∃ k : Nat, k ≤ n ∧ i = .int .i64 k ∧ Hid (NoTo isZB l k) ∧ Below w.heap.size w wr) (fun i _ => n - (intOf i).toNat)
  case atStart => exact ⟨0, by omega, rfl, NoTo.zero _ _, Below.refl _ _⟩
  case round =>
    obtain ⟨k, hk, rfl, HNo, hb⟩ := hrel
    by_cases hlt : k < n
    · obtain ⟨b, off, rfl, hcs⟩ := (Rd.below ha hb).2 (by omega)
      have hkl : k < l.length := by have := Hn.out; omega
      have h0 := hcs k 0 _ hkl rfl
      have h1 := hcs k 1 _ hkl rfl
      have h2 := hcs k 2 _ hkl rfl
      have h3 := hcs k 3 _ hkl rfl
      rw [Nat.add_zero] at h0
      clear hcs
      have k0 : (0 : Int) ≤ (k : Int) := by omega
      have k1 : (k : Int) < (n : Int) := by omega
      have HC := hide (zeroClo l[k] wr)
      cases hp : isZB l[k] with
      | true =>
        have HP := hide hp
        clear hp
        go_wp2_with (go_at_call 28; refine HC.out.mono ?_; rintro e w1 ⟨rfl, hb1⟩; rw [HP.out])
        go_ret
        exact ⟨ret_int (HNo.out.hitA hkl HP.out).symm, bthen hb (Nat.le_refl _) hb1⟩
      | false =>
        have HP := hide hp
        clear hp
        go_wp2_with (go_at_call 28; refine HC.out.mono ?_; rintro e w1 ⟨rfl, hb1⟩; rw [HP.out])
        go_roundw
        case rel => exact ⟨k + 1, by omega, by go_num, HNo.out.succ hkl HP.out, bthen hb (Nat.le_refl _) hb1⟩
        case measure => simp [intOf]; omega
    · go_wp2_with fail
      go_ret
      exact ⟨ret_int (HNo.out.missA (by have := Hn.out; omega)).symm, hb⟩
theorem noZ {l : List Bal} (h : ∀ (k : Nat) (hk : k < l.length), l[k].amt ≠ 0) : idxA l isZB = -1 :=
  NoTo.missA (k := l.length) (fun j hj _ => by unfold isZB; rw [beq_eq_false_iff_ne]; exact h j hj) (Nat.le_refl _)
theorem delete_none (l : List Bal) (A : Option Addr) (n cap : Nat) (w : World) (hl : n ≤ 9223372036854775807) (ha : Rd w 4 balEnc A n l) (h : ∀ (k : Nat) (hk : k < l.length), l[k].amt ≠ 0) :
    Calls Tryz.prog 27 #[.slice A n cap, .func (.func 28) #[] #[]] w fun e w' => e = .returned (.slice A n cap) ∧ Below w.heap.size w w' := by
  have HI := hide (noZ h)
  clear h
  go_enter Tryz.func27, Tryz.ntmps27
  go_wp2_with fail
  refine (index_zeroB l _ _ _ _ hl ha).mono ?_
  rintro e w1 ⟨rfl, hb1⟩
  rw [HI.out]
  go_wp2_with fail
  go_ret
  exact ⟨rfl, hb1⟩

theorem lessB_self (a : ByteArray) : lessB a a = false := by
  have h := cmpB_lt a a
  rw [cmpB_0.2 rfl] at h
  rw [← h]; rfl
/-- two balances of one currency, one behind the other: of other places -/
theorem next_other {S : List Bal} (hE : Eurs S) {j : Nat} (hj : j + 1 < S.length) (ho : ordB S (j + 1) = true) : ¬ (S[j].ent = S[j + 1].ent ∧ S[j].acc = S[j + 1].acc) := by
  rintro ⟨h1, h2⟩
  rw [ordB_s hj] at ho
  unfold aheadB at ho
  rw [if_pos h1, if_pos h2, hE j (by omega), hE (j + 1) hj, lessB_self] at ho
  cases ho
theorem worthE_nil : worthE [] 1 1 = 0 := by decide +kernel

set_option maxHeartbeats 4000000 in
set_option maxRecDepth 100000 in
theorem translate_eur (S : List Bal) (A : Option Addr) (n cap : Nat) (w : World) (hl : n ≤ 9223372036854775807) (ha : Rd w 4 balEnc A n S) (hE : Eurs S) (hok : BalsOk S) :
    Calls Tryz.prog 12 #[.slice none 0 0, .string eur, .slice A n cap, .int .i64 1] w fun e w' => Below w.heap.size w w' ∧
      ((balsE S = 0 ∧ ∃ v, e = .returned (.tuple #[v, .nilIface]) ∧ Own w' w.heap.size 33 4 balEnc v S) ∨
        (balsE S ≠ 0 ∧ e = .returned (.tuple #[.slice none 0 0, .iface 41 (.int .i64 (balsE S))]))) := by
  obtain ⟨i0, hi0, hz0, hz1, hz2⟩ := info_parts bal_infoG
  have Hn := hide ha.1
  by_cases hb : balsE S = 0
  case neg =>
    have HB := hide hb
    have HV := hide (errV_n hb)
    clear hb
    go_enter Tryz.func12, Tryz.ntmps12
    go_wp2_with fail
    refine (lcheck_any S _ _ _ _ hl ha).mono ?_
    rintro e w1 ⟨rfl, hb1⟩
    rw [HV.out]
    go_wp2_with fail
    go_ret2
    exact ⟨hb1, .inr ⟨HB.out, rfl⟩⟩
  case pos =>
  have HB := hide hb
  have HV := hide (errV_0 hb)
  have hn200 : n ≤ 200 := by have := (balsE_0 hb).1; have := Hn.out; omega
  have HO : Hid (∀ (k : Nat) (hk : k < S.length), ordB S k = true ∧ mayB S[k].amt = true ∧ S[k].amt ≠ 0) := (balsE_0 hb).2
  have HEU := hide hE
  clear hb hE
  have hper : inB 1 120 1 = true := rfl
  go_enter Tryz.func12, Tryz.ntmps12
  go_wp2_with fail
  refine (lcheck_any S _ _ _ _ hl ha).mono ?_
  rintro e w1 ⟨rfl, hb1⟩
  rw [HV.out]
  go_wp2_with fail
  refine (worth_any [] none 0 0 1 1 _ (by omega) (Rd.nil _ _ _ _) (fun k hk => absurd hk (by simp)) (fun x hx => by cases hx)).mono ?_
  rintro e w2 ⟨hb2, ⟨_, v2, rfl, hown2⟩ | ⟨z, hz, hz0, _⟩⟩
  case inr => exact absurd (hz.symm.trans worthE_nil) hz0
  have hb2 := bthen hb1 (Nat.le_refl _) hb2
  clear hown2 hb1
  go_wp2_with fail
  go_loopw [13, 36] (fun ov iv wr => ∃ k : Nat, k ≤ n ∧ iv = .int .i64 k ∧ Own wr w.heap.size 33 4 balEnc ov (S.take k) ∧ Below w.heap.size w wr) (fun _ iv _ => n - (intOf iv).toNat)
  case atStart => exact ⟨0, by omega, rfl, Own.nil _ _ _ _ _, hb2⟩
  case round =>
    clear hb2
    obtain ⟨k, hk, rfl, hown, hbr⟩ := hrel
    obtain ⟨wo, hwo⟩ : ∃ wo, wo = wr := ⟨_, rfl⟩
    subst hwo
    have hlen : (S.take k).length = k := by rw [List.length_take]; have := Hn.out; omega
    obtain ⟨OA, oc, rfl, hoc, hom⟩ := hown.form
    have HLEN := hide hlen
    rw [hlen] at hown hoc ⊢
    by_cases hlt : k < n
    · have hkl : k < S.length := by have := Hn.out; omega
      obtain ⟨b, off, rfl, hcs⟩ := (Rd.below ha hbr).2 (by omega)
      have q0 := hcs k 0 _ hkl rfl
      have q1 := hcs k 1 _ hkl rfl
      have q2 := hcs k 2 _ hkl rfl
      have q3 := hcs k 3 _ hkl rfl
      rw [Nat.add_zero] at q0
      rw [HEU.out k hkl] at q2
      clear hcs
      have k0 : (0 : Int) ≤ (k : Int) := by omega
      have k1 : (k : Int) < (n : Int) := by omega
      have hamt := (hok _ (List.getElem_mem hkl)).2.2.2
      have HTK : Hid (S.take (k + 1) = S.take k ++ [S[k]]) := List.take_succ_eq_append_getElem hkl
      have HXE : Hid (S[k] = ⟨S[k].ent, S[k].acc, eur, S[k].amt⟩) := by
        show _ = _
        have h := HEU.out k hkl
        cases hx : S[k] with
        | mk a1 a2 a3 a4 => rw [hx] at h; simp only at h; rw [h]
      have hbx : Below wo.heap.size wo (wo.alloc (.cells #[.int .i64 S[k].ent, .string S[k].acc, .string eur, .int .i64 S[k].amt] 33)) := (Below.refl _ _).alloc (Nat.le_refl _) _
      go_wp2_with fail
      refine (convert_same 1 S[k].amt hper hamt.1 hamt.2 _).mono ?_
      rintro e w3 ⟨rfl, hb3⟩
      have hd := bcell hb3
      obtain ⟨gx, hgx⟩ : ∃ gx, gx = wo.heap.size := ⟨_, rfl⟩
      have hgl : gx < (wo.alloc (.cells #[.int .i64 S[k].ent, .string S[k].acc, .string eur, .int .i64 S[k].amt] 33)).heap.size := by rw [hgx]; simp
      have d0 : w3.cell? ⟨gx, 0, none⟩ = some (.int .i64 S[k].ent) := (hd.1 gx 0 hgl).trans (by rw [hgx]; simp)
      have d1 : w3.cell? ⟨gx, 1, none⟩ = some (.string S[k].acc) := (hd.1 gx 1 hgl).trans (by rw [hgx]; simp)
      have hb3 := hbx.trans (hb3.mono hbx.size)
      have hown3 := hown.below hb3
      have hw3 := bthen hbr (Nat.le_refl _) hb3
      have hs3 := hw3.size
      rw [← hgx]
      clear hd hgl hgx q0 q1 q2 q3 hbx hb3 hown hbr
      obtain ⟨xe, hxe⟩ : ∃ xe, xe = S[k].ent := ⟨_, rfl⟩
      obtain ⟨xa, hxa⟩ : ∃ xa, xa = S[k].acc := ⟨_, rfl⟩
      obtain ⟨xm, hxm⟩ : ∃ xm, xm = S[k].amt := ⟨_, rfl⟩
      have HXN : Hid (S[k].ent = xe ∧ S[k].acc = xa ∧ S[k].amt = xm) := ⟨hxe.symm, hxa.symm, hxm.symm⟩
      rw [← hxe] at d0
      rw [← hxa] at d1
      rw [← hxe, ← hxa, ← hxm]
      clear hxe hxa hxm hamt
      cases k with
      | zero =>
        go_upto_region 15 with fail
        go_quiet (fail)
        go_wp2_with (first | (at_builtin; go_loud (refine wpList_push _ rfl _ _ 24 rfl w.heap.size 33 i0 zeroBalG 4 48 Tryz.underlying24 hi0 hz0 hz1 hz2 rfl (by decide) balEnc_ok _ (S.take 0) rfl ((hown3.below (bdrewN (Below.refl _ _) nq)).alloc _) _ 1 1 [⟨xe, xa, eur, xm⟩] rfl (Rd.boxedR _ balEnc_ok (⟨xe, xa, eur, xm⟩ : Bal) _ _ rfl _ (by simp)) (by intro h; cases h) (by unfold maxLen; omega) (by omega) (by simp; omega) ?_); intro v4 w4 hown4 hg4 hat4; have hb4 : Below w.heap.size w w4 := ((bdrewN hw3 nq).alloc (by simp; omega) _).grown hg4 (by simp; omega) (fun q e => (hown3.block q e).1)))
        go_roundw
        case rel => exact ⟨0 + 1, by omega, by go_num, by rw [HTK.out, HXE.out, HXN.out.1, HXN.out.2.1, HXN.out.2.2]; exact hown4, hb4⟩
        case measure => simp [intOf]; omega
      | succ j =>
        have HNO := hide (next_other HEU.out hkl (HO.out (j + 1) hkl).1)
        obtain ⟨ob, oo, rfl, hcs⟩ := (hown3.rd balEnc_ok).2 (by omega)
        have hjt : j < (S.take (j + 1)).length := by rw [HLEN.out]; omega
        have p0 := hcs j 0 _ hjt rfl
        have p1 := hcs j 1 _ hjt rfl
        rw [Nat.add_zero] at p0
        rw [List.getElem_take] at p0 p1
        clear hcs
        have j0 : (0 : Int) ≤ (j : Int) := by omega
        have j1 : (j : Int) < (j : Int) + 1 := by omega
        obtain ⟨pe, hpe⟩ : ∃ pe, pe = S[j].ent := ⟨_, rfl⟩
        obtain ⟨pa, hpa⟩ : ∃ pa, pa = S[j].acc := ⟨_, rfl⟩
        have HPN : Hid (S[j].ent = pe ∧ S[j].acc = pa) := ⟨hpe.symm, hpa.symm⟩
        rw [← hpe] at p0
        rw [← hpa] at p1
        clear hpe hpa
        cases e1 : (pe == xe) with
        | false =>
          go_upto_region 15 with fail
          go_quiet (fail)
          go_wp2_with (first | (at_builtin; go_loud (refine wpList_push _ rfl _ _ 24 rfl w.heap.size 33 i0 zeroBalG 4 48 Tryz.underlying24 hi0 hz0 hz1 hz2 rfl (by decide) balEnc_ok _ (S.take (j + 1)) rfl ((hown3.below (bdrewN (Below.refl _ _) nq)).alloc _) _ 1 1 [⟨xe, xa, eur, xm⟩] rfl (Rd.boxedR _ balEnc_ok (⟨xe, xa, eur, xm⟩ : Bal) _ _ rfl _ (by simp)) (by intro h; cases h) (by unfold maxLen; omega) (by omega) (by simp; omega) ?_); intro v4 w4 hown4 hg4 hat4; have hb4 : Below w.heap.size w w4 := ((bdrewN hw3 nq).alloc (by simp; omega) _).grown hg4 (by simp; omega) (fun q e => (hown3.block q e).1)))
          go_roundw
          case rel => exact ⟨j + 1 + 1, by omega, by go_num, by rw [HTK.out, HXE.out, HXN.out.1, HXN.out.2.1, HXN.out.2.2]; exact hown4, hb4⟩
          case measure => simp [intOf]; omega
        | true =>
          cases e2 : (pa.toList == xa.toList) with
          | true =>
            exfalso
            refine HNO.out ⟨?_, ?_⟩
            · rw [HPN.out.1, HXN.out.1]; simpa using e1
            · rw [HPN.out.2, HXN.out.2.1]; rw [beq_toList] at e2; simpa using e2
          | false =>
            go_upto_region 15 with fail
            go_quiet (fail)
            go_wp2_with (first | (at_builtin; go_loud (refine wpList_push _ rfl _ _ 24 rfl w.heap.size 33 i0 zeroBalG 4 48 Tryz.underlying24 hi0 hz0 hz1 hz2 rfl (by decide) balEnc_ok _ (S.take (j + 1)) rfl ((hown3.below (bdrewN (Below.refl _ _) nq)).alloc _) _ 1 1 [⟨xe, xa, eur, xm⟩] rfl (Rd.boxedR _ balEnc_ok (⟨xe, xa, eur, xm⟩ : Bal) _ _ rfl _ (by simp)) (by intro h; cases h) (by unfold maxLen; omega) (by omega) (by simp; omega) ?_); intro v4 w4 hown4 hg4 hat4; have hb4 : Below w.heap.size w w4 := ((bdrewN hw3 nq).alloc (by simp; omega) _).grown hg4 (by simp; omega) (fun q e => (hown3.block q e).1)))
            go_roundw
            case rel => exact ⟨j + 1 + 1, by omega, by go_num, by rw [HTK.out, HXE.out, HXN.out.1, HXN.out.2.1, HXN.out.2.2]; exact hown4, hb4⟩
            case measure => simp [intOf]; omega
    · have hkn : k = n := by omega
      subst hkn
      have hST : S.take k = S := List.take_of_length_le (by have := Hn.out; omega)
      rw [hST] at hown
      have hrd := hown.rd balEnc_ok
      have HNZ := hide (fun (j : Nat) (hj : j < S.length) => (HO.out j hj).2.2)
      clear hST
      go_wp2_with fail
      refine (delete_none S _ _ _ _ (by omega) hrd HNZ.out).mono ?_
      rintro e w5 ⟨rfl, hb5⟩
      go_wp2_with fail
      go_ret2
      exact ⟨bthen hbr (Nat.le_refl _) hb5, .inl ⟨HB.out, _, rfl, hown.below hb5⟩⟩
end Go.Proofs.YtggmbjdonlbfkaaGreatDoorBesafter
