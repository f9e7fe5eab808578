/- chart.Roll: what it returns. -/
import Derived.Test.YtggmbjdonlbfkaaGreatDoorBesafterBigI
import Derived.Test.YtggmbjdonlbfkaaGreatDoorBesafterChartX
import Derived.Test.YtggmbjdonlbfkaaGreatDoorBesafterChartP
import Derived.Test.YtggmbjdonlbfkaaGreatDoorBesafterEntX
namespace Go.Proofs.YtggmbjdonlbfkaaGreatDoorBesafter
open Go Go.RowKit
set_option linter.unusedVariables false

/-- the amounts of those under i, among the first k -/
def someTo (l : List Acc) (am : List Int) (i k : Nat) : List Int := ((List.range k).filter fun j => bel l i j).map fun j => am.getD j 0
theorem someTo_yes {l : List Acc} {am : List Int} {i k : Nat} (hk : k < am.length) (h : bel l i k = true) : someTo l am i (k + 1) = someTo l am i k ++ [am[k]] := by
  unfold someTo
  rw [List.range_succ, List.filter_append, List.map_append]
  simp [h, List.getD_eq_getElem?_getD, List.getElem?_eq_getElem hk]
theorem someTo_no {l : List Acc} {am : List Int} {i k : Nat} (h : bel l i k = false) : someTo l am i (k + 1) = someTo l am i k := by
  unfold someTo
  rw [List.range_succ, List.filter_append, List.map_append]
  simp [h]
theorem someTo_len (l : List Acc) (am : List Int) (i k : Nat) : (someTo l am i k).length ≤ k := by
  unfold someTo
  rw [List.length_map]
  exact Nat.le_trans (List.length_filter_le _ _) (by simp)
theorem someTo_64 {l : List Acc} {am : List Int} (h : Ints64 am) (i k : Nat) (hk : k ≤ am.length) : Ints64 (someTo l am i k) := by
  intro x hx
  unfold someTo at hx
  obtain ⟨j, hj, rfl⟩ := List.mem_map.1 hx
  have hjk : j < k := List.mem_range.1 (List.mem_filter.1 hj).1
  rw [List.getD_eq_getElem?_getD, List.getElem?_eq_getElem (by omega)]
  exact h _ (List.getElem_mem _)
/-- what is under account i, rolled up -/
def rollOf (l : List Acc) (am : List Int) (i : Nat) : Int := (someTo l am i l.length).sum
def rollTo (l : List Acc) (am : List Int) (k : Nat) : List Int := (List.range k).map (rollOf l am)
theorem rollTo_succ (l : List Acc) (am : List Int) (k : Nat) : rollTo l am (k + 1) = rollTo l am k ++ [rollOf l am k] := by
  unfold rollTo
  rw [List.range_succ, List.map_append]; rfl
theorem rollTo_len (l : List Acc) (am : List Int) (k : Nat) : (rollTo l am k).length = k := by unfold rollTo; simp
/-- does each fit? -/
def Fit64 (l : List Acc) (am : List Int) (k : Nat) : Prop := ∀ i, i < k → in64 (rollOf l am i) = true

theorem int_info2 : (Tryz.prog.info? 3).map (fun i => (i.zero, i.size, i.bytes)) = some (some (.int .i64 0), 1, 8) := by kernel_rfl

theorem roll_bad (l : List Acc) (am : List Int) (A M : Option Addr) (n cap mn mc : Nat) (w : World) (hl : n ≤ 9223372036854775807) (hcap : n ≤ cap) (ha : Accs w A n l) (hok : AccOk l) (he : chartE l ≠ 0) :
    Calls Tryz.prog 17 #[.slice A n cap, .slice M mn mc] w fun e w' => e = .returned (.tuple #[.slice none 0 0, .iface 41 (.int .i64 (chartE l))]) ∧ Below w.heap.size w w' := by
  have HE := hide he
  clear he
  go_enter Tryz.func17, Tryz.ntmps17
  go_wp2_with fail
  refine (check_bad l _ _ _ _ hl hcap ha hok HE.out).mono ?_
  rintro e w1 ⟨rfl, hb1⟩
  go_wp2_with fail
  go_ret2
  exact ⟨rfl, hb1⟩
theorem roll_shape (l : List Acc) (am : List Int) (A M : Option Addr) (n cap mn mc : Nat) (w : World) (hl : n ≤ 60) (hcap : n ≤ cap) (ha : Accs w A n l) (hok : AccOk l) (he : chartE l = 0) (hm : mn ≠ n) :
    Calls Tryz.prog 17 #[.slice A n cap, .slice M mn mc] w fun e w' => e = .returned (.tuple #[.slice none 0 0, .iface 41 (.int .i64 3)]) ∧ Below w.heap.size w w' := by
  have HE := hide he
  have hm1 : ((mn : Int) == (n : Int)) = false := by rw [beq_eq_false_iff_ne]; omega
  have hm2 : ((mn : Int) != (n : Int)) = true := by rw [bne_iff_ne]; omega
  clear he
  go_enter Tryz.func17, Tryz.ntmps17
  go_wp2_with fail
  refine (check_ok l _ _ _ _ (by omega) hcap ha hok HE.out).mono ?_
  rintro e w1 ⟨rfl, hb1⟩
  go_wp2_with fail
  go_ret2
  exact ⟨rfl, hb1⟩

set_option maxHeartbeats 1000000 in
set_option maxRecDepth 100000 in
theorem roll_any (l : List Acc) (am : List Int) (A M : Option Addr) (n cap mc : Nat) (w : World) (hl : n ≤ 60) (hcap : n ≤ cap) (ha : Accs w A n l) (hok : AccOk l) (he : chartE l = 0) (hM : Rd w 1 intEnc2 M n am) (h64 : Ints64 am) :
    Calls Tryz.prog 17 #[.slice A n cap, .slice M n mc] w
      fun e w' => Below w.heap.size w w' ∧ ((Fit64 l am l.length ∧ ∃ v, e = .returned (.tuple #[v, .nilIface]) ∧ Own w' w.heap.size 3 1 intEnc2 v (rollTo l am l.length)) ∨
        (¬ Fit64 l am l.length ∧ e = .returned (.tuple #[.slice none 0 0, .iface 41 (.int .i64 10)]))) := by
  obtain ⟨i0, hi0, hz0, hz1, hz2⟩ := info_parts int_info2
  have HE := hide he
  have Hn := hide ha.1
  have Hm := hide hM.1
  clear he
  go_enter Tryz.func17, Tryz.ntmps17
  go_wp2_with fail
  refine (check_ok l _ _ _ _ (by omega) hcap ha hok HE.out).mono ?_
  rintro e w1 ⟨rfl, hb1⟩
  go_wp2_with fail
  go_loopw [7, 27] (fun ov iv wr => ∃ k : Nat, k ≤ n ∧ iv = .int .i64 k ∧ Own wr w1.heap.size 3 1 intEnc2 ov (rollTo l am k) ∧ Fit64 l am k ∧ Below w1.heap.size w1 wr) (fun _ iv _ => n - (intOf iv).toNat)
  case atStart => exact ⟨0, by omega, rfl, Own.nil _ _ _ _ _, (fun i hi => absurd hi (by omega)), Below.refl _ _⟩
  case round =>
    obtain ⟨k, hk, rfl, hown, hfit, hbr'⟩ := hrel
    have hbr := bthen hb1 (Nat.le_refl _) hbr'
    have hHfit := hide hfit
    clear hfit
    by_cases hlt : k < n
    · go_wp2_with fail
      refine (below_any l A n cap k _ hl hcap (ha.below hbr) hlt).mono ?_
      rintro e w2 ⟨rfl, hrow, hb2⟩
      have hbel : belTo l k (n - k - 1) = bel l k := by unfold bel; rw [Hn.out]
      rw [hbel] at hrow
      have hb02 := bthen hbr (Nat.le_refl _) hb2
      have hb12 := bthen hbr' (Nat.le_refl _) hb2
      have hown2 := hown.below hb2
      clear hbel hown hb2
      go_wp2_with fail
      go_loopw [9, 34] (fun sv jv wi => ∃ j : Nat, j ≤ n ∧ jv = .int .i64 j ∧ Own wi w2.heap.size 3 1 intEnc2 sv (someTo l am k j) ∧ Below w2.heap.size w2 wi) (fun _ jv _ => n - (intOf jv).toNat)
      case atStart => exact ⟨0, by omega, rfl, Own.nil _ _ _ _ _, Below.refl _ _⟩
      case round =>
        obtain ⟨j, hj, rfl, hownS, hbi⟩ := hrel
        have hsl := someTo_len l am k j
        have hsz := hbi.size
        by_cases hjl : j < n
        · have hjm : j < am.length := by have := Hm.out; omega
          obtain ⟨b, off, rfl, hcs⟩ := ((hM.below hb02).below hbi).2 (by omega)
          have q0 := hcs j 0 _ hjm rfl
          rw [Nat.mul_one, Nat.add_zero] at q0
          clear hcs
          have r0 := (hrow.below hbi).cell j hjl
          have j0 : (0 : Int) ≤ (j : Int) := by omega
          have j1 : (j : Int) < (n : Int) := by omega
          cases hbj : bel l k j with
          | true =>
            rw [hbj] at r0
            have HY := hide (someTo_yes (am := am) hjm hbj)
            clear hbj
            go_wp2_with (first | (at_builtin; go_loud (refine wpList_push _ rfl _ _ 25 rfl w2.heap.size 3 i0 (.int .i64 0) 1 8 Tryz.underlying25 hi0 hz0 hz1 hz2 rfl (by decide) intEnc2_ok _ (someTo l am k j) rfl (hownS.alloc _) _ 1 1 [am[j]] rfl (Rd.boxed _ intEnc2_ok _ _ _ rfl) (by intro h; cases h) (by simp only [maxLen]; omega) (by omega) (by simp; omega) ?_); intro v' w3 hown3 hg3 hat3))
            go_roundw
            case rel => exact ⟨j + 1, by omega, by go_num, by rw [HY.out]; exact hown3, (hbi.alloc hsz _).grown hg3 (by simp; omega) (fun q e => (hownS.block q e).1)⟩
            case measure => simp [intOf]; omega
          | false =>
            rw [hbj] at r0
            have HY := hide (someTo_no (am := am) hbj)
            clear hbj
            go_wp2_with fail
            go_roundw
            case rel => exact ⟨j + 1, by omega, by go_num, by rw [HY.out]; exact hownS, hbi⟩
            case measure => simp [intOf]; omega
        · have hjn : j = n := by omega
          subst hjn
          have hs64 := someTo_64 (l := l) h64 k j (by have := Hm.out; omega)
          have hroll : (someTo l am k j).sum = rollOf l am k := by unfold rollOf; rw [Hn.out]
          obtain ⟨SA, sc, rfl, hs1, hs2⟩ := hownS.form
          have hrdS := hownS.rd intEnc2_ok
          have hownO := hown2.below hbi
          have hbb := bthen hb02 (Nat.le_refl _) hbi
          have hbb1 := bthen hb12 (Nat.le_refl _) hbi
          have hrl := rollTo_len l am k
          go_wp2_with fail
          refine (msum_any (someTo l am k j) _ _ _ _ hrdS (by omega) hs64).mono ?_
          rintro e w4 ⟨rfl, hb4⟩
          rw [hroll]
          have hownO4 := hownO.below hb4
          have hb4b := bthen hbb (Nat.le_refl _) hb4
          have hb4c := bthen hbb1 (Nat.le_refl _) hb4
          have hsz4 := hb4c.size
          cases hin : in64 (rollOf l am k) with
          | true =>
            rw [show smV (rollOf l am k) = rollOf l am k from if_pos hin, show smE (rollOf l am k) = 0 from if_pos hin, show errV 0 = .nilIface from rfl]
            have HI := hide hin
            clear hin
            go_wp2_with (first | (at_builtin; go_loud (refine wpList_push _ rfl _ _ 25 rfl w1.heap.size 3 i0 (.int .i64 0) 1 8 Tryz.underlying25 hi0 hz0 hz1 hz2 rfl (by decide) intEnc2_ok _ (rollTo l am k) rfl (hownO4.alloc _) _ 1 1 [rollOf l am k] rfl (Rd.boxed _ intEnc2_ok _ _ _ rfl) (by intro h; cases h) (by simp only [maxLen]; omega) (by omega) (by simp; omega) ?_); intro v' w5 hown5 hg5 hat5))
            go_roundw
            case rel => exact ⟨k + 1, by omega, by go_num, by rw [rollTo_succ]; exact hown5, (fun i hi => by
              by_cases e : i = k
              · subst e; exact HI.out
              · exact hHfit.out i (by omega)), (hb4c.alloc hsz4 _).grown hg5 (by simp; omega) (fun q e => (hownO4.block q e).1)⟩
            case measure => simp [intOf]; omega
          | false =>
            rw [show smV (rollOf l am k) = 0 from if_neg (by rw [hin]; decide), show smE (rollOf l am k) = 10 from if_neg (by rw [hin]; decide), show errV 10 = .iface 41 (.int .i64 10) from rfl]
            have HI := hide hin
            clear hin
            go_wp2_with fail
            go_ret2
            exact ⟨hb4b, .inr ⟨(fun hf => Bool.noConfusion (HI.out.symm.trans (hf k (by have := Hn.out; omega)))), rfl⟩⟩
    · have hkn : k = n := by omega
      subst hkn
      have HL : Hid (rollTo l am k = rollTo l am l.length) := by show _ = _; rw [Hn.out]
      have hb1s := hb1.size
      go_wp2_with fail
      go_ret2
      exact ⟨hbr, .inl ⟨by rw [Hn.out]; exact hHfit.out, _, rfl, by rw [← HL.out]; exact Own.wider hown hb1s⟩⟩
end Go.Proofs.YtggmbjdonlbfkaaGreatDoorBesafter
