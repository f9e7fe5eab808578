/- dayref2.Merge: what it returns. -/
import Derived.Test.YthmjkhlndphldaaGreatDoorLedC
import Derived.Test.YthmjkhlndphldaaGreatDoorBalAll
namespace Go.Proofs.YthmjkhlndphldaaGreatDoor
open Go Go.RowKit
set_option linter.unusedVariables false

/-- what is merged so far, none too far -/
def mayTo (l : List Bal) (k : Nat) : Prop := ∀ (j : Nat) (hj : j < l.length), j < k → mayB l[j].amt = true
theorem mayTo.zero (l : List Bal) : mayTo l 0 := fun _ _ h => absurd h (by omega)
theorem mayTo.succ {l : List Bal} {k : Nat} (h : mayTo l k) (hk : k < l.length) (hc : mayB l[k].amt = true) : mayTo l (k + 1) := by
  intro j hj hjk
  by_cases e : j = k
  · subst e; exact hc
  · exact h j hj (by omega)
theorem mayTo.all {l : List Bal} {k : Nat} (h : mayTo l k) (hk : l.length ≤ k) : l.all (fun x => mayB x.amt) = true := by
  rw [List.all_eq_true]
  intro x hx
  obtain ⟨j, hj, rfl⟩ := List.getElem_of_mem hx
  exact h j hj (by omega)
theorem all_no {l : List Bal} {k : Nat} (hk : k < l.length) (hc : mayB l[k].amt = false) : l.all (fun x => mayB x.amt) = false := by
  cases h : l.all (fun x => mayB x.amt) with
  | false => rfl
  | true => have := List.all_eq_true.1 h _ (List.getElem_mem hk); rw [hc] at this; cases this
theorem Own.addrOr {α : Type} {w : World} {B e sz n c : Nat} {A : Option Addr} {enc : α → List Value} {l : List α} (h : Own w B e sz enc (.slice A n c) l) : (A = none ∧ c = 0) ∨ ∃ b off, A = some ⟨b, off, none⟩ := by
  rcases h.2 with ⟨hv, _⟩ | ⟨g', c', cur, hv, _⟩
  · injection hv with e1 e2 e3; exact .inl ⟨e1, e3⟩
  · injection hv with e1; exact .inr ⟨g', 0, e1⟩

set_option maxHeartbeats 4000000 in
set_option maxRecDepth 100000 in
theorem refMerge_any (a b : List Bal) (A BA : Option Addr) (an ac bn bc : Nat) (w : World) (hl : an ≤ 9223372036854775807) (ha : Rd w 4 balEnc A an a) (hbl : bn ≤ 9223372036854775807) (hb : Rd w 4 balEnc BA bn b) (hA : A = none → ac = 0) :
    Calls Tryz.prog 50 #[.slice A an ac, .slice BA bn bc] w fun e w' =>
      ∃ v, e = .returned (.tuple #[v, .int .i64 (mergeE a b)]) ∧ Own w' w.heap.size 73 4 balEnc v (if mergeE a b = 0 then netB (a ++ b) else []) ∧ Below w.heap.size w w' := by
  obtain ⟨i0, hi0, hz0, hz1, hz2⟩ := info_parts bal_info
  have Hna := hide ha.1
  have Hnb := hide hb.1
  obtain ⟨me, hme⟩ : ∃ me, me = mergeE a b := ⟨_, rfl⟩
  rw [← hme]
  generalize hLL : (if me = 0 then netB (a ++ b) else []) = LL
  have HME := hide hme
  have HLL := hide hLL
  clear hme hLL
  by_cases h1 : balsE a = 0
  · by_cases h2 : balsE b = 0
    · have H1 := hide h1
      have H2 := hide h2
      have hna : an ≤ 200 := by have := (balsE_0 h1).1; have := Hna.out; omega
      have hnb : bn ≤ 200 := by have := (balsE_0 h2).1; have := Hnb.out; omega
      clear h1 h2
      go_enter Tryz.func50, Tryz.ntmps50
      go_wp2_with fail
      refine (refLCheck_any a _ _ _ _ hl ha).mono ?_
      rintro e w1 ⟨rfl, hb1⟩
      rw [H1.out]
      go_wp2_with fail
      refine (refLCheck_any b _ _ _ _ hbl (hb.below hb1)).mono ?_
      rintro e w2 ⟨rfl, hb2⟩
      rw [H2.out]
      have hb2 := bthen hb1 (Nat.le_refl _) hb2
      go_wp2_with (first | (at_builtin; go_loud (refine wpList_push _ rfl _ _ 74 rfl w.heap.size 73 i0 zeroBal 4 48 Tryz.underlying74 hi0 hz0 hz1 hz2 rfl (by decide) balEnc_ok _ ([] : List Bal) rfl (Own.nil _ _ _ _ _) _ an ac a rfl (ha.below hb2) hA (by simp only [maxLen, List.length_nil]; omega) (by simp only [List.length_nil]; omega) hb2.size ?_); intro v3 w3 hown3 hg3 hat3; rw [List.nil_append] at hown3; have hb3 := hb2.grown hg3 hb2.size (fun k e => by cases e)))
      clear hg3 hat3
      go_loopw [7, 8] (fun ov iv wr => ∃ k : Nat, k ≤ bn ∧ iv = .int .i64 k ∧ Own wr w.heap.size 73 4 balEnc ov (mergeTo a b k) ∧ Below w.heap.size w wr) (fun _ iv _ => bn - (intOf iv).toNat)
      case atStart => exact ⟨0, by omega, rfl, hown3, hb3⟩
      case round =>
        clear hown3 hb3
        obtain ⟨k, hk, rfl, hown, hbr⟩ := hrel
        obtain ⟨UA, uc, rfl, huc, hum⟩ := hown.form
        have hml := mergeTo_len a b k
        have hml4 : (mergeTo a b k).length ≤ 400 := by have := Hna.out; omega
        have hUA := hown.addrOr
        have hrd := hown.rd balEnc_ok
        by_cases hlt : k < bn
        · have hkl : k < b.length := by have := Hnb.out; omega
          obtain ⟨bb, off, rfl, hcs⟩ := (Rd.below hb hbr).2 (by omega)
          have q0 := hcs k 0 _ hkl rfl
          have q1 := hcs k 1 _ hkl rfl
          have q2 := hcs k 2 _ hkl rfl
          have q3 := hcs k 3 _ hkl rfl
          rw [Nat.add_zero] at q0
          clear hcs
          have k0 : (0 : Int) ≤ (k : Int) := by omega
          have k1 : (k : Int) < (bn : Int) := by omega
          have HS := hide (mergeTo_succ (a := a) hkl)
          have hf := merge_fits H1.out H2.out hkl
          clear hml
          generalize mergeTo a b k = o at hown huc hml4 hrd hUA HS hf ⊢
          generalize b[k] = x at q0 q1 q2 q3 HS hf
          go_wp2_with fail
          refine (refPut_any o x _ _ _ _ (by omega) huc hum hrd hUA hf).mono ?_
          rintro e w4 ⟨v4, rfl, hown4, hb4⟩
          go_wp2_with fail
          go_roundw
          case rel => exact ⟨k + 1, by omega, by go_num, by rw [HS.out]; exact Own.wider hown4 hbr.size, bthen hbr (Nat.le_refl _) hb4⟩
          case measure => simp [intOf]; omega
        · have HC := hide (mergeTo_all (b := b) (k := k) (bals_sort H1.out) (by have := Hnb.out; omega))
          rw [HC.out] at hown huc hml4 hrd ⊢
          by_cases h200 : 200 < (canonB (a ++ b)).length
          · have h200i : (200 : Int) < ((canonB (a ++ b)).length : Int) := by omega
            have HE := hide (mergeE_3 H1.out H2.out h200)
            clear h200
            go_wp2_with fail
            go_ret2
            exact ⟨_, by rw [HME.out, HE.out]; rfl, by rw [← HLL.out, if_neg (by rw [HME.out, HE.out]; decide)]; exact Own.nil _ _ _ _ _, hbr⟩
          · have h200i : ¬ (200 : Int) < ((canonB (a ++ b)).length : Int) := by omega
            have H200 := hide h200
            clear h200
            go_wp2_with fail
            refine (refFull_any (canonB (a ++ b)) _ _ _ _ (by omega) hrd).mono ?_
            rintro e w4 ⟨v4, rfl, hown4, hb4⟩
            have hb4 := bthen hbr (Nat.le_refl _) hb4
            have hown4 := Own.wider hown4 hbr.size
            have hfl := fullB_len (canonB (a ++ b))
            have HN : Hid (fullB (canonB (a ++ b)) = netB (a ++ b)) := rfl
            rw [HN.out] at hown4 hfl
            clear hown hrd huc hUA
            obtain ⟨VA, vc, rfl, hvc, hvm⟩ := hown4.form
            have hrd4 := hown4.rd balEnc_ok
            generalize hNB : netB (a ++ b) = nb at hown4 hfl hvc hrd4 ⊢
            have HNB := hide hNB
            clear hNB
            go_wp2_with fail
            go_loopw [9] (fun iv wi => ∃ j : Nat, j ≤ nb.length ∧ iv = .int .i64 j ∧ mayTo nb j ∧ Below w4.heap.size w4 wi) (fun iv _ => nb.length - (intOf iv).toNat)
            case atStart => exact ⟨0, by omega, rfl, mayTo.zero _, Below.refl _ _⟩
            case round =>
              obtain ⟨j, hj, rfl, hmt, hbi⟩ := hrel
              have HM := hide hmt
              clear hmt
              by_cases hjl : j < nb.length
              · obtain ⟨g, off, rfl, hcs⟩ := (hrd4.below hbi).2 (by omega)
                have q3 := hcs j 3 _ hjl rfl
                clear hcs
                have j0 : (0 : Int) ≤ (j : Int) := by omega
                have j1 : (j : Int) < (nb.length : Int) := by omega
                by_cases hm1 : nb[j].amt < -1000000000000000000
                · have HE := hide (mergeE_4 H1.out H2.out H200.out (by rw [HNB.out]; exact all_no hjl (may_low hm1)))
                  go_wp2_with fail
                  go_ret2
                  exact ⟨_, by rw [HME.out, HE.out]; rfl, by rw [← HLL.out, if_neg (by rw [HME.out, HE.out]; decide)]; exact Own.nil _ _ _ _ _, hb4.trans (hbi.mono hb4.size)⟩
                · have hm1d : decide (nb[j].amt < -1000000000000000000) = false := by simpa using hm1
                  by_cases hm2 : 1000000000000000000 < nb[j].amt
                  · have HE := hide (mergeE_4 H1.out H2.out H200.out (by rw [HNB.out]; exact all_no hjl (may_high hm2)))
                    go_wp2_with fail
                    go_ret2
                    exact ⟨_, by rw [HME.out, HE.out]; rfl, by rw [← HLL.out, if_neg (by rw [HME.out, HE.out]; decide)]; exact Own.nil _ _ _ _ _, hb4.trans (hbi.mono hb4.size)⟩
                  · have hm2d : decide (1000000000000000000 < nb[j].amt) = false := by simpa using hm2
                    have HX := hide (HM.out.succ hjl (may_mid hm1 hm2))
                    go_wp2_with fail
                    go_roundw
                    case rel => exact ⟨j + 1, by omega, by go_num, HX.out, hbi⟩
                    case measure => simp [intOf]; omega
              · have HE := hide (mergeE_5 H1.out H2.out H200.out (by rw [HNB.out]; exact HM.out.all (by omega)))
                go_wp2_with fail
                go_ret2
                exact ⟨_, by rw [HME.out, HE.out]; rfl, by rw [← HLL.out, if_pos (by rw [HME.out, HE.out]), HNB.out]; exact hown4.below hbi, hb4.trans (hbi.mono hb4.size)⟩
    · have H1 := hide h1
      have HE := hide (mergeE_2 h1 h2)
      obtain ⟨be, hbe⟩ : ∃ be, be = balsE b := ⟨_, rfl⟩
      have HB := hide hbe
      have h0 : (be == 0) = false := by rw [hbe, beq_eq_false_iff_ne]; exact h2
      have h0' : (be != 0) = true := by rw [hbe, bne_iff_ne]; exact h2
      have HN := hide h2
      clear h1 h2 hbe
      go_enter Tryz.func50, Tryz.ntmps50
      go_wp2_with fail
      refine (refLCheck_any a _ _ _ _ hl ha).mono ?_
      rintro e w1 ⟨rfl, hb1⟩
      rw [H1.out]
      go_wp2_with fail
      refine (refLCheck_any b _ _ _ _ hbl (hb.below hb1)).mono ?_
      rintro e w2 ⟨rfl, hb2⟩
      rw [← HB.out]
      have hb2 := bthen hb1 (Nat.le_refl _) hb2
      go_wp2_with fail
      go_ret2
      exact ⟨_, by rw [HME.out, HE.out, ← HB.out]; rfl, by rw [← HLL.out, if_neg (by rw [HME.out, HE.out]; exact HN.out)]; exact Own.nil _ _ _ _ _, hb2⟩
  · have HE := hide (mergeE_1 (b := b) h1)
    obtain ⟨be, hbe⟩ : ∃ be, be = balsE a := ⟨_, rfl⟩
    have HB := hide hbe
    have h0 : (be == 0) = false := by rw [hbe, beq_eq_false_iff_ne]; exact h1
    have h0' : (be != 0) = true := by rw [hbe, bne_iff_ne]; exact h1
    have HN := hide h1
    clear h1 hbe
    go_enter Tryz.func50, Tryz.ntmps50
    go_wp2_with fail
    refine (refLCheck_any a _ _ _ _ hl ha).mono ?_
    rintro e w1 ⟨rfl, hb1⟩
    rw [← HB.out]
    go_wp2_with fail
    go_ret2
    exact ⟨_, by rw [HME.out, HE.out, ← HB.out]; rfl, by rw [← HLL.out, if_neg (by rw [HME.out, HE.out]; exact HN.out)]; exact Own.nil _ _ _ _ _, hb1⟩
end Go.Proofs.YthmjkhlndphldaaGreatDoor
