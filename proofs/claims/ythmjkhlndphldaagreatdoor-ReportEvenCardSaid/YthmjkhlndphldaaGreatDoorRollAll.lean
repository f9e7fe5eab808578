/- chart.Roll: what it returns. -/
import Derived.Test.YthmjkhlndphldaaGreatDoorBigAll
import Derived.Test.YthmjkhlndphldaaGreatDoorChartX
import Derived.Test.YthmjkhlndphldaaGreatDoorChartP
import Derived.Test.YthmjkhlndphldaaGreatDoorEntAll
import Derived.Test.YthmjkhlndphldaaGreatDoorQbAll
import Derived.Test.YthmjkhlndphldaaGreatDoorRefD
import Derived.Test.YthmjkhlndphldaaGreatDoorRefC
namespace Go.Proofs.YthmjkhlndphldaaGreatDoor
open Go Go.RowKit
set_option linter.unusedVariables false

/-- the amounts of those under i, among the first k -/
def someTo (l : List Acc) (am : List Int) (i k : Nat) : List Int := ((List.range k).filter fun j => bel l i j).map fun j => am.getD j 0
theorem someTo_yes {l : List Acc} {am : List Int} {i k : Nat} (hk : k < am.length) (h : bel l i k = true) : someTo l am i (k + 1) = someTo l am i k ++ [am[k]] := by
  unfold someTo
  rw [List.range_succ, List.filter_append, List.map_append]
  simp [h, List.getD_eq_getElem?_getD, List.getElem?_eq_getElem hk]
theorem someTo_no {l : List Acc} {am : List Int} {i k : Nat} (h : bel l i k = false) : someTo l am i (k + 1) = someTo l am i k := by
  unfold someTo
  rw [List.range_succ, List.filter_append, List.map_append]
  simp [h]
theorem someTo_len (l : List Acc) (am : List Int) (i k : Nat) : (someTo l am i k).length ≤ k := by
  unfold someTo
  rw [List.length_map]
  exact Nat.le_trans (List.length_filter_le _ _) (by simp)
theorem someTo_64 {l : List Acc} {am : List Int} (h : Ints64 am) (i k : Nat) (hk : k ≤ am.length) : Ints64 (someTo l am i k) := by
  intro x hx
  unfold someTo at hx
  obtain ⟨j, hj, rfl⟩ := List.mem_map.1 hx
  have hjk : j < k := List.mem_range.1 (List.mem_filter.1 hj).1
  rw [List.getD_eq_getElem?_getD, List.getElem?_eq_getElem (by omega)]
  exact h _ (List.getElem_mem _)
/-- what is under account i, rolled up -/
def rollOf (l : List Acc) (am : List Int) (i : Nat) : Int := (someTo l am i l.length).sum
def rollTo (l : List Acc) (am : List Int) (k : Nat) : List Int := (List.range k).map (rollOf l am)
theorem rollTo_succ (l : List Acc) (am : List Int) (k : Nat) : rollTo l am (k + 1) = rollTo l am k ++ [rollOf l am k] := by
  unfold rollTo
  rw [List.range_succ, List.map_append]; rfl
theorem rollTo_len (l : List Acc) (am : List Int) (k : Nat) : (rollTo l am k).length = k := by unfold rollTo; simp
/-- does each fit? -/
def Fit64 (l : List Acc) (am : List Int) (k : Nat) : Prop := ∀ i, i < k → in64 (rollOf l am i) = true

theorem int_info2 : (Tryz.prog.info? 3).map (fun i => (i.zero, i.size, i.bytes)) = some (some (.int .i64 0), 1, 8) := by kernel_rfl

theorem roll_bad (l : List Acc) (am : List Int) (A M : Option Addr) (n cap mn mc : Nat) (w : World) (hl : n ≤ 9223372036854775807) (hcap : n ≤ cap) (ha : Accs w A n l) (hok : AccOk l) (he : chartE l ≠ 0) :
    Calls Tryz.prog 21 #[.slice A n cap, .slice M mn mc] w fun e w' => e = .returned (.tuple #[.slice none 0 0, .iface 108 (.int .i64 (chartE l))]) ∧ Below w.heap.size w w' := by
  have HE := hide he
  clear he
  go_enter Tryz.func21, Tryz.ntmps21
  go_wp2_with fail
  refine (check_bad l _ _ _ _ hl hcap ha hok HE.out).mono ?_
  rintro e w1 ⟨rfl, hb1⟩
  go_wp2_with fail
  go_ret2
  exact ⟨rfl, hb1⟩
theorem roll_shape (l : List Acc) (am : List Int) (A M : Option Addr) (n cap mn mc : Nat) (w : World) (hl : n ≤ 60) (hcap : n ≤ cap) (ha : Accs w A n l) (hok : AccOk l) (he : chartE l = 0) (hm : mn ≠ n) :
    Calls Tryz.prog 21 #[.slice A n cap, .slice M mn mc] w fun e w' => e = .returned (.tuple #[.slice none 0 0, .iface 108 (.int .i64 3)]) ∧ Below w.heap.size w w' := by
  have HE := hide he
  have hm1 : ((mn : Int) == (n : Int)) = false := by rw [beq_eq_false_iff_ne]; omega
  have hm2 : ((mn : Int) != (n : Int)) = true := by rw [bne_iff_ne]; omega
  clear he
  go_enter Tryz.func21, Tryz.ntmps21
  go_wp2_with fail
  refine (check_ok l _ _ _ _ (by omega) hcap ha hok HE.out).mono ?_
  rintro e w1 ⟨rfl, hb1⟩
  go_wp2_with fail
  go_ret2
  exact ⟨rfl, hb1⟩

set_option maxHeartbeats 1000000 in
set_option maxRecDepth 100000 in
theorem roll_any (l : List Acc) (am : List Int) (A M : Option Addr) (n cap mc : Nat) (w : World) (hl : n ≤ 60) (hcap : n ≤ cap) (ha : Accs w A n l) (hok : AccOk l) (he : chartE l = 0) (hM : Rd w 1 intEnc2 M n am) (h64 : Ints64 am) :
    Calls Tryz.prog 21 #[.slice A n cap, .slice M n mc] w
      fun e w' => Below w.heap.size w w' ∧ ((Fit64 l am l.length ∧ ∃ v, e = .returned (.tuple #[v, .nilIface]) ∧ Own w' w.heap.size 3 1 intEnc2 v (rollTo l am l.length)) ∨
        (¬ Fit64 l am l.length ∧ e = .returned (.tuple #[.slice none 0 0, .iface 108 (.int .i64 10)]))) := by
  obtain ⟨i0, hi0, hz0, hz1, hz2⟩ := info_parts int_info2
  have HE := hide he
  have Hn := hide ha.1
  have Hm := hide hM.1
  clear he
  go_enter Tryz.func21, Tryz.ntmps21
  go_wp2_with fail
  refine (check_ok l _ _ _ _ (by omega) hcap ha hok HE.out).mono ?_
  rintro e w1 ⟨rfl, hb1⟩
  go_wp2_with fail
  go_loopw [7, 27] (fun ov iv wr => ∃ k : Nat, k ≤ n ∧ iv = .int .i64 k ∧ Own wr w1.heap.size 3 1 intEnc2 ov (rollTo l am k) ∧ Fit64 l am k ∧ Below w1.heap.size w1 wr) (fun _ iv _ => n - (intOf iv).toNat)
  case atStart => exact ⟨0, by omega, rfl, Own.nil _ _ _ _ _, (fun i hi => absurd hi (by omega)), Below.refl _ _⟩
  case round =>
    obtain ⟨k, hk, rfl, hown, hfit, hbr'⟩ := hrel
    have hbr := bthen hb1 (Nat.le_refl _) hbr'
    have hHfit := hide hfit
    clear hfit
    by_cases hlt : k < n
    · go_wp2_with fail
      refine (below_any l A n cap k _ hl hcap (ha.below hbr) hlt).mono ?_
      rintro e w2 ⟨rfl, hrow, hb2⟩
      have hbel : belTo l k (n - k - 1) = bel l k := by unfold bel; rw [Hn.out]
      rw [hbel] at hrow
      have hb02 := bthen hbr (Nat.le_refl _) hb2
      have hb12 := bthen hbr' (Nat.le_refl _) hb2
      have hown2 := hown.below hb2
      clear hbel hown hb2
      go_wp2_with fail
      go_loopw [9, 34] (fun sv jv wi => ∃ j : Nat, j ≤ n ∧ jv = .int .i64 j ∧ Own wi w2.heap.size 3 1 intEnc2 sv (someTo l am k j) ∧ Below w2.heap.size w2 wi) (fun _ jv _ => n - (intOf jv).toNat)
      case atStart => exact ⟨0, by omega, rfl, Own.nil _ _ _ _ _, Below.refl _ _⟩
      case round =>
        obtain ⟨j, hj, rfl, hownS, hbi⟩ := hrel
        have hsl := someTo_len l am k j
        have hsz := hbi.size
        by_cases hjl : j < n
        · have hjm : j < am.length := by have := Hm.out; omega
          obtain ⟨b, off, rfl, hcs⟩ := ((hM.below hb02).below hbi).2 (by omega)
          have q0 := hcs j 0 _ hjm rfl
          rw [Nat.mul_one, Nat.add_zero] at q0
          clear hcs
          have r0 := (hrow.below hbi).cell j hjl
          have j0 : (0 : Int) ≤ (j : Int) := by omega
          have j1 : (j : Int) < (n : Int) := by omega
          cases hbj : bel l k j with
          | true =>
            rw [hbj] at r0
            have HY := hide (someTo_yes (am := am) hjm hbj)
            clear hbj
            go_wp2_with (first | (at_builtin; go_loud (refine wpList_push _ rfl _ _ 42 rfl w2.heap.size 3 i0 (.int .i64 0) 1 8 Tryz.underlying42 hi0 hz0 hz1 hz2 rfl (by decide) intEnc2_ok _ (someTo l am k j) rfl (hownS.alloc _) _ 1 1 [am[j]] rfl (Rd.boxed _ intEnc2_ok _ _ _ rfl) (by intro h; cases h) (by simp only [maxLen]; omega) (by omega) (by simp; omega) ?_); intro v' w3 hown3 hg3 hat3))
            go_roundw
            case rel => exact ⟨j + 1, by omega, by go_num, by rw [HY.out]; exact hown3, (hbi.alloc hsz _).grown hg3 (by simp; omega) (fun q e => (hownS.block q e).1)⟩
            case measure => simp [intOf]; omega
          | false =>
            rw [hbj] at r0
            have HY := hide (someTo_no (am := am) hbj)
            clear hbj
            go_wp2_with fail
            go_roundw
            case rel => exact ⟨j + 1, by omega, by go_num, by rw [HY.out]; exact hownS, hbi⟩
            case measure => simp [intOf]; omega
        · have hjn : j = n := by omega
          subst hjn
          have hs64 := someTo_64 (l := l) h64 k j (by have := Hm.out; omega)
          have hroll : (someTo l am k j).sum = rollOf l am k := by unfold rollOf; rw [Hn.out]
          obtain ⟨SA, sc, rfl, hs1, hs2⟩ := hownS.form
          have hrdS := hownS.rd intEnc2_ok
          have hownO := hown2.below hbi
          have hbb := bthen hb02 (Nat.le_refl _) hbi
          have hbb1 := bthen hb12 (Nat.le_refl _) hbi
          have hrl := rollTo_len l am k
          go_wp2_with fail
          refine (msum_any (someTo l am k j) _ _ _ _ hrdS (by omega) hs64).mono ?_
          rintro e w4 ⟨rfl, hb4⟩
          rw [hroll]
          have hownO4 := hownO.below hb4
          have hb4b := bthen hbb (Nat.le_refl _) hb4
          have hb4c := bthen hbb1 (Nat.le_refl _) hb4
          have hsz4 := hb4c.size
          cases hin : in64 (rollOf l am k) with
          | true =>
            rw [show smV (rollOf l am k) = rollOf l am k from if_pos hin, show smE (rollOf l am k) = 0 from if_pos hin, show errV 0 = .nilIface from rfl]
            have HI := hide hin
            clear hin
            go_wp2_with (first | (at_builtin; go_loud (refine wpList_push _ rfl _ _ 42 rfl w1.heap.size 3 i0 (.int .i64 0) 1 8 Tryz.underlying42 hi0 hz0 hz1 hz2 rfl (by decide) intEnc2_ok _ (rollTo l am k) rfl (hownO4.alloc _) _ 1 1 [rollOf l am k] rfl (Rd.boxed _ intEnc2_ok _ _ _ rfl) (by intro h; cases h) (by simp only [maxLen]; omega) (by omega) (by simp; omega) ?_); intro v' w5 hown5 hg5 hat5))
            go_roundw
            case rel => exact ⟨k + 1, by omega, by go_num, by rw [rollTo_succ]; exact hown5, (fun i hi => by
              by_cases e : i = k
              · subst e; exact HI.out
              · exact hHfit.out i (by omega)), (hb4c.alloc hsz4 _).grown hg5 (by simp; omega) (fun q e => (hownO4.block q e).1)⟩
            case measure => simp [intOf]; omega
          | false =>
            rw [show smV (rollOf l am k) = 0 from if_neg (by rw [hin]; decide), show smE (rollOf l am k) = 10 from if_neg (by rw [hin]; decide), show errV 10 = .iface 108 (.int .i64 10) from rfl]
            have HI := hide hin
            clear hin
            go_wp2_with fail
            go_ret2
            exact ⟨hb4b, .inr ⟨(fun hf => Bool.noConfusion (HI.out.symm.trans (hf k (by have := Hn.out; omega)))), rfl⟩⟩
    · have hkn : k = n := by omega
      subst hkn
      have HL : Hid (rollTo l am k = rollTo l am l.length) := by show _ = _; rw [Hn.out]
      have hb1s := hb1.size
      go_wp2_with fail
      go_ret2
      exact ⟨hbr, .inl ⟨by rw [Hn.out]; exact hHfit.out, _, rfl, by rw [← HL.out]; exact Own.wider hown hb1s⟩⟩
end Go.Proofs.YthmjkhlndphldaaGreatDoor

namespace Go.Proofs.YthmjkhlndphldaaGreatDoor
open Go Go.RowKit
set_option linter.unusedVariables false

set_option maxHeartbeats 1000000 in
set_option maxRecDepth 100000 in
theorem refSum_any (l : List Int) (A : Option Addr) (n c : Nat) (w : World) (ha : Rd w 1 intEnc2 A n l) (hn : n ≤ 2000) (hl : Ints64 l) :
    Calls Tryz.prog 84 #[.slice A n c] w fun e w' => e = .returned (.tuple #[.int .i64 (smV l.sum), .int .i64 (smE l.sum)]) ∧ Below w.heap.size w w' := by
  have Hn := hide ha.1
  go_enter Tryz.func84, Tryz.ntmps84
  go_wp2_with fail
  refine (refBig_any 0 _ (by omega) (by omega)).mono ?_
  rintro e w1 ⟨g, rfl, hX0, hb1⟩
  go_wp2_with fail
  go_loopw [5] (fun iv wr => ∃ k : Nat, k ≤ n ∧ iv = .int .i64 k ∧ QAt wr w.heap.size g (sumTo l k) ∧ Below w.heap.size w wr) (fun iv _ => n - (intOf iv).toNat)
  case atStart => exact ⟨0, by omega, rfl, hX0, hb1⟩
  case round =>
    obtain ⟨k, hk, rfl, hX, hbr⟩ := hrel
    by_cases hlt : k < n
    · have hkl : k < l.length := by have := Hn.out; omega
      obtain ⟨b, off, rfl, hcs⟩ := (Rd.below ha hbr).2 (by omega)
      have q0 := hcs k 0 _ hkl rfl
      rw [Nat.mul_one, Nat.add_zero] at q0
      clear hcs
      have k0 : (0 : Int) ≤ (k : Int) := by omega
      have k1 : (k : Int) < (n : Int) := by omega
      have hb := hl l[k] (List.getElem_mem _)
      have hbs := hide (sumTo_bnd hl k (by omega))
      have hss := hide (sumTo_succ l k hkl)
      go_wp2_with fail
      refine (refBig_any l[k] _ hb.1 hb.2).mono ?_
      rintro e w2 ⟨gy, rfl, hY, hb2⟩
      have hX2 := hX.below hb2
      have hb2 := bthen hbr (Nat.le_refl _) hb2
      go_wp2_with fail
      refine (qAdd_any hX2 hY hb2.size (by have := hbs.out; omega) (by omega)).mono ?_
      rintro e w3 ⟨rfl, hX3, hb3⟩
      go_wp2_with fail
      go_roundw
      case rel => exact ⟨k + 1, by omega, by go_num, by rw [hss.out]; exact hX3, hb2.trans hb3⟩
      case measure => simp [intOf]; omega
    · have hkn : k = n := by omega
      subst hkn
      have hbs := sumTo_bnd hl k (by have := Hn.out; omega)
      have hsum : sumTo l k = l.sum := by unfold sumTo; rw [← Hn.out, List.take_length]
      rw [hsum] at hX hbs
      have hbs' : l.sum.natAbs < 79228162514264337593543950336 := by omega
      clear hbs hsum
      go_wp2_with fail
      refine (refSmall_any hX hbs').mono ?_
      rintro e w1 ⟨rfl, hb1⟩
      go_wp2_with fail
      go_ret2
      exact ⟨rfl, bthen hbr (Nat.le_refl _) hb1⟩

theorem ints_same (l : List Int) (A M : Option Addr) (n c mc : Nat) (w : World) (ha : Rd w 1 intEnc2 A n l) (hm : Rd w 1 intEnc2 M n l) (hn : n ≤ 9223372036854775807) :
    Calls Tryz.prog 22 #[.slice A n c, .slice M n mc] w fun e w' => e = .returned (.bool true) ∧ Below w.heap.size w w' := by
  have Hn := hide ha.1
  go_enter Tryz.func22, Tryz.ntmps22
  go_wp2_with fail
  go_loopw [5] (fun iv wr => ∃ k : Nat, k ≤ n ∧ iv = .int .i64 k ∧ Below w.heap.size w wr) (fun iv _ => n - (intOf iv).toNat)
  case atStart => exact ⟨0, by omega, rfl, Below.refl _ _⟩
  case round =>
    obtain ⟨k, hk, rfl, hbr⟩ := hrel
    by_cases hlt : k < n
    · have hkl : k < l.length := by have := Hn.out; omega
      obtain ⟨b, off, rfl, hcs⟩ := (Rd.below ha hbr).2 (by omega)
      have q0 := hcs k 0 _ hkl rfl
      rw [Nat.mul_one, Nat.add_zero] at q0
      obtain ⟨b', off', rfl, hcs'⟩ := (Rd.below hm hbr).2 (by omega)
      have q1 := hcs' k 0 _ hkl rfl
      rw [Nat.mul_one, Nat.add_zero] at q1
      clear hcs hcs'
      have k0 : (0 : Int) ≤ (k : Int) := by omega
      have k1 : (k : Int) < (n : Int) := by omega
      go_wp2_with fail
      go_quiet (fail)
      go_wp2_with fail
      go_roundw
      case rel => exact ⟨k + 1, by omega, by go_num, bdrewN hbr _⟩
      case measure => simp [intOf]; omega
    · go_wp2_with fail
      go_ret
      exact ⟨rfl, hbr⟩

set_option maxHeartbeats 4000000 in
set_option maxRecDepth 100000 in
theorem refRoll_any (l : List Acc) (am : List Int) (A M : Option Addr) (cap mc : Nat) (w : World) (ha : Accs w A l.length l) (he : chartE l = 0) (hM : Rd w 1 intEnc2 M l.length am) (h64 : Ints64 am) :
    Calls Tryz.prog 20 #[.slice A l.length cap, .slice M l.length mc] w
      fun e w' => Below w.heap.size w w' ∧ ((Fit64 l am l.length ∧ ∃ v, e = .returned (.tuple #[v, .int .i64 0]) ∧ Own w' w.heap.size 3 1 intEnc2 v (rollTo l am l.length)) ∨
        (¬ Fit64 l am l.length ∧ e = .returned (.tuple #[.slice none 0 0, .int .i64 10]))) := by
  obtain ⟨i0, hi0, hz0, hz1, hz2⟩ := info_parts int_info2
  have HE := hide he
  have hl : l.length ≤ 60 := chartE_len he
  have Hm := hide hM.1
  clear he
  go_enter Tryz.func20, Tryz.ntmps20
  go_wp2_with fail
  go_loopw [6, 7] (fun ov iv wr => ∃ k : Nat, k ≤ l.length ∧ iv = .int .i64 k ∧ Own wr w.heap.size 3 1 intEnc2 ov (rollTo l am k) ∧ Fit64 l am k ∧ Below w.heap.size w wr) (fun _ iv _ => l.length - (intOf iv).toNat)
  case atStart => exact ⟨0, by omega, rfl, Own.nil _ _ _ _ _, (fun i hi => absurd hi (by omega)), Below.refl _ _⟩
  case round =>
    obtain ⟨k, hk, rfl, hown, hfit, hbr⟩ := hrel
    have hHfit := hide hfit
    have hbrs := hbr.size
    clear hfit
    by_cases hlt : k < l.length
    · go_wp2_with fail
      have hown2 := hown
      go_loopw [8, 9] (fun sv jv wi => ∃ j : Nat, j ≤ l.length ∧ jv = .int .i64 j ∧ Own wi wr.heap.size 3 1 intEnc2 sv (someTo l am k j) ∧ Below wr.heap.size wr wi) (fun _ jv _ => l.length - (intOf jv).toNat)
      case atStart => exact ⟨0, by omega, rfl, Own.nil _ _ _ _ _, Below.refl _ _⟩
      case round =>
        obtain ⟨j, hj, rfl, hownS, hbi⟩ := hrel
        have hsl := someTo_len l am k j
        have hsz := hbi.size
        have hbb := bthen hbr (Nat.le_refl _) hbi
        by_cases hjl : j < l.length
        · have hjm : j < am.length := by have := Hm.out; omega
          obtain ⟨b, off, rfl, hcs⟩ := (hM.below hbb).2 (by omega)
          have q0 := hcs j 0 _ hjm rfl
          rw [Nat.mul_one, Nat.add_zero] at q0
          clear hcs
          have j0 : (0 : Int) ≤ (j : Int) := by omega
          have j1 : (j : Int) < (l.length : Int) := by omega
          go_wp2_with fail
          refine (refIn_any l A cap j k _ (ha.below hbb) HE.out hjl hlt).mono ?_
          rintro e w3 ⟨rfl, rfl⟩
          cases hbj : bel l k j with
          | true =>
            have HY := hide (someTo_yes (am := am) hjm hbj)
            clear hbj
            go_wp2_with (first | (at_builtin; go_loud (refine wpList_push _ rfl _ _ 42 rfl _ 3 i0 (.int .i64 0) 1 8 Tryz.underlying42 hi0 hz0 hz1 hz2 rfl (by decide) intEnc2_ok _ (someTo l am k j) rfl (hownS.alloc _) _ 1 1 [am[j]] rfl (Rd.boxed _ intEnc2_ok _ _ _ rfl) (by intro h; cases h) (by simp only [maxLen]; omega) (by omega) (by simp; omega) ?_); intro v' w3 hown3 hg3 hat3))
            go_roundw
            case rel => exact ⟨j + 1, by omega, by go_num, by rw [HY.out]; exact hown3, (hbi.alloc hsz _).grown hg3 (by simp; omega) (fun q e => (hownS.block q e).1)⟩
            case measure => simp [intOf]; omega
          | false =>
            have HY := hide (someTo_no (am := am) hbj)
            clear hbj
            go_wp2_with fail
            go_roundw
            case rel => exact ⟨j + 1, by omega, by go_num, by rw [HY.out]; exact hownS, hbi⟩
            case measure => simp [intOf]; omega
        · have hjn : j = l.length := by omega
          have hs64 := someTo_64 (l := l) h64 k j (by have := Hm.out; omega)
          have hroll : (someTo l am k j).sum = rollOf l am k := by unfold rollOf; rw [hjn]
          obtain ⟨S, hS⟩ : ∃ S, S = someTo l am k j := ⟨_, rfl⟩
          rw [← hS] at hownS hs64 hroll hsl
          have hsl2 : S.length ≤ 2000 := by omega
          obtain ⟨SA, sc, rfl, hs1, hs2⟩ := hownS.form
          have hrdS := hownS.rd intEnc2_ok
          have hownO := hown2.below hbi
          have hrl := rollTo_len l am k
          have HR := hide hroll
          clear hS hownS hsl hroll
          go_wp2_with fail
          refine (refSum_any S _ _ _ _ hrdS hsl2 hs64).mono ?_
          rintro e w4 ⟨rfl, hb4⟩
          rw [HR.out]
          have hownO4 := hownO.below hb4
          have hb4c := bthen hbb (Nat.le_refl _) hb4
          have hsz4 := hb4c.size
          cases hin : in64 (rollOf l am k) with
          | true =>
            rw [show smV (rollOf l am k) = rollOf l am k from if_pos hin, show smE (rollOf l am k) = 0 from if_pos hin]
            have HI := hide hin
            clear hin
            go_wp2_with (first | (at_builtin; go_loud (refine wpList_push _ rfl _ _ 42 rfl _ 3 i0 (.int .i64 0) 1 8 Tryz.underlying42 hi0 hz0 hz1 hz2 rfl (by decide) intEnc2_ok _ (rollTo l am k) rfl (hownO4.alloc _) _ 1 1 [rollOf l am k] rfl (Rd.boxed _ intEnc2_ok _ _ _ rfl) (by intro h; cases h) (by simp only [maxLen]; omega) (by omega) (by simp; omega) ?_); intro v' w5 hown5 hg5 hat5))
            go_roundw
            case rel => exact ⟨k + 1, by omega, by go_num, by rw [rollTo_succ]; exact hown5, (fun i hi => by
              by_cases e : i = k
              · subst e; exact HI.out
              · exact hHfit.out i (by omega)), (hb4c.alloc hsz4 _).grown hg5 (by simp; omega) (fun q e => (hownO4.block q e).1)⟩
            case measure => simp [intOf]; omega
          | false =>
            rw [show smV (rollOf l am k) = 0 from if_neg (by rw [hin]; decide), show smE (rollOf l am k) = 10 from if_neg (by rw [hin]; decide)]
            have HI := hide hin
            clear hin
            go_wp2_with fail
            go_ret2
            exact ⟨hb4c, .inr ⟨(fun hf => Bool.noConfusion (HI.out.symm.trans (hf k (by omega)))), rfl⟩⟩
    · have hkn : k = l.length := by omega
      subst hkn
      go_wp2_with fail
      go_ret2
      exact ⟨hbr, .inl ⟨hHfit.out, _, rfl, hown⟩⟩
end Go.Proofs.YthmjkhlndphldaaGreatDoor
