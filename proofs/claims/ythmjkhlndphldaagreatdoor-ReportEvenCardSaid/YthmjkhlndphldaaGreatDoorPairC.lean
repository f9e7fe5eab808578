/- dayref2.Pairs: what it returns. -/
import Derived.Test.YthmjkhlndphldaaGreatDoorPairX
namespace Go.Proofs.YthmjkhlndphldaaGreatDoor
open Go Go.RowKit
set_option linter.unusedVariables false

theorem leg_1 {c : List Acc} {p : Pr} (h : leafE c p.one ≠ 0) : legE c p = leafE c p.one := if_pos h
theorem leg_2 {c : List Acc} {p : Pr} (h : leafE c p.one = 0) (h2 : leafE c p.other ≠ 0) : legE c p = leafE c p.other := by rw [legE, if_neg (by simpa using h), if_pos h2]
theorem leg_3 {c : List Acc} {p : Pr} (h : leafE c p.one = 0) (h2 : leafE c p.other = 0) : legE c p = leafE c p.diff := by rw [legE, if_neg (by simpa using h), if_neg (by simpa using h2)]
theorem NoTo.any_take {α : Type} {p : α → Bool} {l : List α} {k : Nat} (h : NoTo p l k) : (l.take k).any p = false := by
  rw [List.any_eq_false]
  intro x hx
  obtain ⟨j, hj, rfl⟩ := List.getElem_of_mem hx
  rw [List.length_take] at hj
  rw [List.getElem_take]
  simpa using h j (by omega) (by omega)
theorem any_take {α : Type} {p : α → Bool} {l : List α} {k j : Nat} (hj : j < k) (hjl : j < l.length) (h : p l[j] = true) : (l.take k).any p = true := by
  rw [List.any_eq_true]
  refine ⟨l[j], ?_, h⟩
  rw [List.mem_take_iff_getElem]
  exact ⟨j, by omega, rfl⟩

theorem two_cases (a b : Bool) : (a = true ∧ b = true) ∨ a = false ∨ (a = true ∧ b = false) := by cases a <;> cases b <;> simp

set_option maxHeartbeats 4000000 in
set_option maxRecDepth 100000 in
theorem refPairs_any (c : List Acc) (CA : Option Addr) (cn ccap : Nat) (l : List Pr) (A : Option Addr) (n cap : Nat) (w : World)
    (hcl : cn ≤ 9223372036854775807) (hcc : cn ≤ ccap) (hc : Accs w CA cn c) (hcok : AccOk c) (hl : n ≤ 9223372036854775807) (ha : Rd w 5 prEnc A n l) :
    Calls Tryz.prog 42 #[.slice CA cn ccap, .slice A n cap] w fun e w' => e = .returned (.int .i64 (pairsE c l)) ∧ Below w.heap.size w w' := by
  have hn := ha.1
  have Hn := hide hn
  by_cases he : chartE c = 0
  · have HC := hide he
    clear he
    by_cases h20 : 20 < n
    · have h20i : (20 : Int) < (n : Int) := by omega
      have HF := hide (pairsE_2 HC.out (by rw [Hn.out]; exact h20))
      clear h20
      go_enter Tryz.func42, Tryz.ntmps42
      go_wp2_with fail
      refine (refChart_any c _ _ _ _ hcl hcc hc hcok).mono ?_
      rintro e w1 ⟨rfl, hb1⟩
      rw [HC.out]
      go_wp2_with fail
      go_ret
      exact ⟨by rw [HF.out]; rfl, hb1⟩
    · have h20i : ¬ (20 : Int) < (n : Int) := by omega
      have hn20 : n ≤ 20 := by omega
      have H20 : Hid (¬ 20 < l.length) := by show ¬ _; rw [Hn.out]; exact h20
      clear h20 hn
      go_enter Tryz.func42, Tryz.ntmps42
      go_wp2_with fail
      refine (refChart_any c _ _ _ _ hcl hcc hc hcok).mono ?_
      rintro e w1 ⟨rfl, hb1⟩
      rw [HC.out]
      go_wp2_with fail
      go_loopw [5, 6] (fun ev iv wr => ∃ k : Nat, k ≤ n ∧ iv = .int .i64 k ∧ (ev = .int .i64 0) ∧ firstE (pairE c l) k = 0 ∧ Below w.heap.size w wr) (fun _ iv _ => n - (intOf iv).toNat)
      case atStart => exact ⟨0, by omega, rfl, rfl, rfl, hb1⟩
      case round =>
        obtain ⟨k, hk, rfl, rfl, hto, hbr⟩ := hrel
        obtain ⟨wo, hwo⟩ : ∃ wo, wo = wr := ⟨_, rfl⟩
        subst hwo
        have HTo := hide hto
        clear hto
        by_cases hlt : k < n
        · have hkl : k < l.length := by have := Hn.out; omega
          have hak := Rd.below ha hbr
          obtain ⟨b, off, rfl, hcs⟩ := hak.2 (by omega)
          have q0 := hcs k 0 _ hkl rfl
          have q1 := hcs k 1 _ hkl rfl
          have q2 := hcs k 2 _ hkl rfl
          have q3 := hcs k 3 _ hkl rfl
          have q4 := hcs k 4 _ hkl rfl
          rw [Nat.add_zero] at q0
          clear hcs
          have k0 : (0 : Int) ≤ (k : Int) := by omega
          have k1 : (k : Int) < (n : Int) := by omega
          have hsz := hbr.size
          have hbx : Below wo.heap.size wo (wo.alloc (.cells #[.int .i64 l[k].a, .int .i64 l[k].b, .string l[k].one, .string l[k].other, .string l[k].diff] 99)) := (Below.refl _ _).alloc (Nat.le_refl _) _
          have hx := PrAt.new wo l[k]
          have hck := (hc.below hbr).below hbx
          cases h1 : inB 1 12 l[k].a with
          | false =>
            have HF := hide (pairs_hit HC.out H20.out HTo.out hkl (pairE_1 hkl h1) (by decide))
            have HA := hide h1
            clear h1
            obtain ⟨vb, hvb⟩ : ∃ vb, vb = inB 1 12 l[k].b := ⟨_, rfl⟩
            have HB := hide hvb.symm
            clear hvb
            go_wp2_with fail
            refine (refEntity_any _ _).mono ?_
            rintro e w2 ⟨rfl, rfl⟩
            go_wp2_with fail
            refine (refEntity_any _ _).mono ?_
            rintro e w2 ⟨rfl, rfl⟩
            rw [HA.out, HB.out]
            go_wp2_with fail
            go_ret
            exact ⟨by rw [HF.out]; rfl, hbr.trans (hbx.mono hsz)⟩
          | true =>
            cases h2 : inB 1 12 l[k].b with
            | false =>
              have HF := hide (pairs_hit HC.out H20.out HTo.out hkl (pairE_2 hkl h1 h2) (by decide))
              have HA := hide h1
              have HB := hide h2
              clear h1 h2
              go_wp2_with fail
              refine (refEntity_any _ _).mono ?_
              rintro e w2 ⟨rfl, rfl⟩
              go_wp2_with fail
              refine (refEntity_any _ _).mono ?_
              rintro e w2 ⟨rfl, rfl⟩
              rw [HA.out, HB.out]
              go_wp2_with fail
              go_ret
              exact ⟨by rw [HF.out]; rfl, hbr.trans (hbx.mono hsz)⟩
            | true =>
              by_cases h3 : l[k].a = l[k].b
              · have HF := hide (pairs_hit HC.out H20.out HTo.out hkl (pairE_3 hkl h1 h2 h3) (by decide))
                have h3b : (l[k].a == l[k].b) = true := by simpa using h3
                have HA := hide h1
                have HB := hide h2
                clear h1 h2 h3
                go_wp2_with fail
                refine (refEntity_any _ _).mono ?_
                rintro e w2 ⟨rfl, rfl⟩
                go_wp2_with fail
                refine (refEntity_any _ _).mono ?_
                rintro e w2 ⟨rfl, rfl⟩
                rw [HA.out, HB.out]
                go_wp2_with fail
                go_ret
                exact ⟨by rw [HF.out]; rfl, hbr.trans (hbx.mono hsz)⟩
              · have h3b : (l[k].a == l[k].b) = false := by simpa using h3
                have HA := hide h1
                have HB := hide h2
                have H3 := hide h3
                clear h1 h2 h3
                by_cases g1 : leafE c l[k].one = 0
                · by_cases g2 : leafE c l[k].other = 0
                  · by_cases g3 : leafE c l[k].diff = 0
                    · have HG : Hid (legE c l[k] = 0) := by show _ = _; rw [leg_3 g1 g2]; exact g3
                      have H5 := hide (pairE_5 hkl HA.out HB.out H3.out HG.out)
                      have G1 := hide g1
                      have G2 := hide g2
                      have G3 := hide g3
                      clear g1 g2 g3
                      cases e1 : (l[k].diff.toList == l[k].one.toList) with
                      | true =>
                        have HF := hide (pairs_hit HC.out H20.out HTo.out hkl (show pairE c l k = 8 by rw [H5.out, if_pos (by unfold ownB; rw [e1]; rfl)]) (by decide))
                        go_wp2_with fail
                        refine (refEntity_any _ _).mono ?_
                        rintro e w2 ⟨rfl, rfl⟩
                        go_wp2_with fail
                        refine (refEntity_any _ _).mono ?_
                        rintro e w2 ⟨rfl, rfl⟩
                        rw [HA.out, HB.out]
                        go_wp2_with fail
                        refine (refLeaf_any c _ _ _ _ _ hcl hck).mono ?_
                        rintro e w2 ⟨rfl, rfl⟩
                        rw [G1.out]
                        go_wp2_with fail
                        refine (refLeaf_any c _ _ _ _ _ hcl hck).mono ?_
                        rintro e w2 ⟨rfl, rfl⟩
                        rw [G2.out]
                        go_wp2_with fail
                        refine (refLeaf_any c _ _ _ _ _ hcl hck).mono ?_
                        rintro e w2 ⟨rfl, rfl⟩
                        rw [G3.out]
                        go_wp2_with fail
                        go_ret
                        exact ⟨by rw [HF.out]; rfl, hbr.trans (hbx.mono hsz)⟩
                      | false =>
                        cases e2 : (l[k].diff.toList == l[k].other.toList) with
                        | true =>
                          have HF := hide (pairs_hit HC.out H20.out HTo.out hkl (show pairE c l k = 8 by rw [H5.out, if_pos (by unfold ownB; rw [e1, e2]; rfl)]) (by decide))
                          go_wp2_with fail
                          refine (refEntity_any _ _).mono ?_
                          rintro e w2 ⟨rfl, rfl⟩
                          go_wp2_with fail
                          refine (refEntity_any _ _).mono ?_
                          rintro e w2 ⟨rfl, rfl⟩
                          rw [HA.out, HB.out]
                          go_wp2_with fail
                          refine (refLeaf_any c _ _ _ _ _ hcl hck).mono ?_
                          rintro e w2 ⟨rfl, rfl⟩
                          rw [G1.out]
                          go_wp2_with fail
                          refine (refLeaf_any c _ _ _ _ _ hcl hck).mono ?_
                          rintro e w2 ⟨rfl, rfl⟩
                          rw [G2.out]
                          go_wp2_with fail
                          refine (refLeaf_any c _ _ _ _ _ hcl hck).mono ?_
                          rintro e w2 ⟨rfl, rfl⟩
                          rw [G3.out]
                          go_wp2_with fail
                          go_ret
                          exact ⟨by rw [HF.out]; rfl, hbr.trans (hbx.mono hsz)⟩
                        | false =>
                          have HO : Hid (ownB l[k] = false) := by show _ = _; unfold ownB; rw [e1, e2]; rfl
                          go_wp2_with fail
                          refine (refEntity_any _ _).mono ?_
                          rintro e w2 ⟨rfl, rfl⟩
                          go_wp2_with fail
                          refine (refEntity_any _ _).mono ?_
                          rintro e w2 ⟨rfl, rfl⟩
                          rw [HA.out, HB.out]
                          go_wp2_with fail
                          refine (refLeaf_any c _ _ _ _ _ hcl hck).mono ?_
                          rintro e w2 ⟨rfl, rfl⟩
                          rw [G1.out]
                          go_wp2_with fail
                          refine (refLeaf_any c _ _ _ _ _ hcl hck).mono ?_
                          rintro e w2 ⟨rfl, rfl⟩
                          rw [G2.out]
                          go_wp2_with fail
                          refine (refLeaf_any c _ _ _ _ _ hcl hck).mono ?_
                          rintro e w2 ⟨rfl, rfl⟩
                          rw [G3.out]
                          go_wp2_with fail
                          go_loopw [10] (fun iv wi => ∃ j : Nat, j ≤ k ∧ iv = .int .i64 j ∧ NoTo (hitB l[k]) l j ∧ PrAt wi wo.heap.size l[k] ∧ Below wo.heap.size wo wi) (fun iv _ => k - (intOf iv).toNat)
                          case atStart => exact ⟨0, by omega, rfl, NoTo.zero _ _, hx, hbx⟩
                          case round =>
                            clear hx hbx hck q0 q1 q2 q3 q4
                            obtain ⟨j, hj, rfl, hno, hx, hbi⟩ := hrel
                            have HNo := hide hno
                            clear hno
                            by_cases hjk : j < k
                            · have hjl : j < l.length := by omega
                              obtain ⟨b2, off2, hbo, hcs⟩ := (hak.below hbi).2 (by omega)
                              injection hbo with hbo
                              injection hbo with hb1 hb2 _
                              subst hb1 hb2
                              have q0 := hcs j 0 _ hjl rfl
                              have q1 := hcs j 1 _ hjl rfl
                              have q2 := hcs j 2 _ hjl rfl
                              have q3 := hcs j 3 _ hjl rfl
                              have q4 := hcs j 4 _ hjl rfl
                              rw [Nat.add_zero] at q0
                              clear hcs
                              have j0 : (0 : Int) ≤ (j : Int) := by omega
                              have j1 : (j : Int) < (n : Int) := by omega
                              have j2 : (j : Int) < (k : Int) := by omega
                              have hsi := hbi.size
                              have hgl := hx.lt
                              have hx2 := hx.below ((Below.refl _ _).alloc (Nat.le_refl _) (.cells #[.int .i64 l[j].a, .int .i64 l[j].b, .string l[j].one, .string l[j].other, .string l[j].diff] 99))
                              obtain ⟨x0, x1, x2, x3, x4⟩ := hx2
                              have hbi2 := hbi.alloc hsi (.cells #[.int .i64 l[j].a, .int .i64 l[j].b, .string l[j].one, .string l[j].other, .string l[j].diff] 99)
                              have y0 : (wr.alloc (.cells #[.int .i64 l[j].a, .int .i64 l[j].b, .string l[j].one, .string l[j].other, .string l[j].diff] 99)).cell? ⟨wr.heap.size, 0, none⟩ = some (.int .i64 l[j].a) := by simp
                              have y1 : (wr.alloc (.cells #[.int .i64 l[j].a, .int .i64 l[j].b, .string l[j].one, .string l[j].other, .string l[j].diff] 99)).cell? ⟨wr.heap.size, 1, none⟩ = some (.int .i64 l[j].b) := by simp
                              have y2 : (wr.alloc (.cells #[.int .i64 l[j].a, .int .i64 l[j].b, .string l[j].one, .string l[j].other, .string l[j].diff] 99)).cell? ⟨wr.heap.size, 2, none⟩ = some (.string l[j].one) := by simp
                              have y3 : (wr.alloc (.cells #[.int .i64 l[j].a, .int .i64 l[j].b, .string l[j].one, .string l[j].other, .string l[j].diff] 99)).cell? ⟨wr.heap.size, 3, none⟩ = some (.string l[j].other) := by simp
                              rcases two_cases (l[j].a == l[k].a) (l[j].one.toList == l[k].one.toList) with ⟨f0, s0⟩ | f0 | ⟨f0, s0⟩
                              ·
                                have HX : Hid (hitB l[k] l[j] = true) := by show _ = _; unfold hitB; simp only [f0, s0]; rfl
                                have HF := hide (pairs_hit HC.out H20.out HTo.out hkl (show pairE c l k = 8 by rw [H5.out, if_neg (by rw [HO.out]; decide), if_pos (any_take hjk hjl HX.out)]) (by decide))
                                go_wp2_with fail
                                go_ret
                                exact ⟨by rw [HF.out]; rfl, hbr.trans (hbi2.mono hsz)⟩
                              ·
                                rcases two_cases (l[j].b == l[k].a) (l[j].other.toList == l[k].one.toList) with ⟨f1, s1⟩ | f1 | ⟨f1, s1⟩
                                ·
                                  have HX : Hid (hitB l[k] l[j] = true) := by show _ = _; unfold hitB; simp only [f0, Bool.false_and, f1, s1]; rfl
                                  have HF := hide (pairs_hit HC.out H20.out HTo.out hkl (show pairE c l k = 8 by rw [H5.out, if_neg (by rw [HO.out]; decide), if_pos (any_take hjk hjl HX.out)]) (by decide))
                                  go_wp2_with fail
                                  go_ret
                                  exact ⟨by rw [HF.out]; rfl, hbr.trans (hbi2.mono hsz)⟩
                                ·
                                  rcases two_cases (l[j].a == l[k].b) (l[j].one.toList == l[k].other.toList) with ⟨f2, s2⟩ | f2 | ⟨f2, s2⟩
                                  ·
                                    have HX : Hid (hitB l[k] l[j] = true) := by show _ = _; unfold hitB; simp only [f0, Bool.false_and, f1, Bool.false_and, f2, s2]; rfl
                                    have HF := hide (pairs_hit HC.out H20.out HTo.out hkl (show pairE c l k = 8 by rw [H5.out, if_neg (by rw [HO.out]; decide), if_pos (any_take hjk hjl HX.out)]) (by decide))
                                    go_wp2_with fail
                                    go_ret
                                    exact ⟨by rw [HF.out]; rfl, hbr.trans (hbi2.mono hsz)⟩
                                  ·
                                    rcases two_cases (l[j].b == l[k].b) (l[j].other.toList == l[k].other.toList) with ⟨f3, s3⟩ | f3 | ⟨f3, s3⟩
                                    ·
                                      have HX : Hid (hitB l[k] l[j] = true) := by show _ = _; unfold hitB; simp only [f0, Bool.false_and, f1, Bool.false_and, f2, Bool.false_and, f3, s3]; rfl
                                      have HF := hide (pairs_hit HC.out H20.out HTo.out hkl (show pairE c l k = 8 by rw [H5.out, if_neg (by rw [HO.out]; decide), if_pos (any_take hjk hjl HX.out)]) (by decide))
                                      go_wp2_with fail
                                      go_ret
                                      exact ⟨by rw [HF.out]; rfl, hbr.trans (hbi2.mono hsz)⟩
                                    ·
                                      have HX : Hid (hitB l[k] l[j] = false) := by show _ = _; unfold hitB; simp only [f0, Bool.false_and, f1, Bool.false_and, f2, Bool.false_and, f3, Bool.false_and]; rfl
                                      go_wp2_with fail
                                      go_roundw
                                      case rel => exact ⟨j + 1, by omega, by go_num, HNo.out.succ hjl HX.out, ⟨x0, x1, x2, x3, x4⟩, hbi2⟩
                                      case measure => simp [intOf]; omega
                                    ·
                                      have HX : Hid (hitB l[k] l[j] = false) := by show _ = _; unfold hitB; simp only [f0, Bool.false_and, f1, Bool.false_and, f2, Bool.false_and, f3, s3]; rfl
                                      go_wp2_with fail
                                      go_roundw
                                      case rel => exact ⟨j + 1, by omega, by go_num, HNo.out.succ hjl HX.out, ⟨x0, x1, x2, x3, x4⟩, hbi2⟩
                                      case measure => simp [intOf]; omega
                                  ·
                                    rcases two_cases (l[j].b == l[k].b) (l[j].other.toList == l[k].other.toList) with ⟨f3, s3⟩ | f3 | ⟨f3, s3⟩
                                    ·
                                      have HX : Hid (hitB l[k] l[j] = true) := by show _ = _; unfold hitB; simp only [f0, Bool.false_and, f1, Bool.false_and, f2, s2, f3, s3]; rfl
                                      have HF := hide (pairs_hit HC.out H20.out HTo.out hkl (show pairE c l k = 8 by rw [H5.out, if_neg (by rw [HO.out]; decide), if_pos (any_take hjk hjl HX.out)]) (by decide))
                                      go_wp2_with fail
                                      go_ret
                                      exact ⟨by rw [HF.out]; rfl, hbr.trans (hbi2.mono hsz)⟩
                                    ·
                                      have HX : Hid (hitB l[k] l[j] = false) := by show _ = _; unfold hitB; simp only [f0, Bool.false_and, f1, Bool.false_and, f2, s2, f3, Bool.false_and]; rfl
                                      go_wp2_with fail
                                      go_roundw
                                      case rel => exact ⟨j + 1, by omega, by go_num, HNo.out.succ hjl HX.out, ⟨x0, x1, x2, x3, x4⟩, hbi2⟩
                                      case measure => simp [intOf]; omega
                                    ·
                                      have HX : Hid (hitB l[k] l[j] = false) := by show _ = _; unfold hitB; simp only [f0, Bool.false_and, f1, Bool.false_and, f2, s2, f3, s3]; rfl
                                      go_wp2_with fail
                                      go_roundw
                                      case rel => exact ⟨j + 1, by omega, by go_num, HNo.out.succ hjl HX.out, ⟨x0, x1, x2, x3, x4⟩, hbi2⟩
                                      case measure => simp [intOf]; omega
                                ·
                                  rcases two_cases (l[j].a == l[k].b) (l[j].one.toList == l[k].other.toList) with ⟨f2, s2⟩ | f2 | ⟨f2, s2⟩
                                  ·
                                    have HX : Hid (hitB l[k] l[j] = true) := by show _ = _; unfold hitB; simp only [f0, Bool.false_and, f1, s1, f2, s2]; rfl
                                    have HF := hide (pairs_hit HC.out H20.out HTo.out hkl (show pairE c l k = 8 by rw [H5.out, if_neg (by rw [HO.out]; decide), if_pos (any_take hjk hjl HX.out)]) (by decide))
                                    go_wp2_with fail
                                    go_ret
                                    exact ⟨by rw [HF.out]; rfl, hbr.trans (hbi2.mono hsz)⟩
                                  ·
                                    rcases two_cases (l[j].b == l[k].b) (l[j].other.toList == l[k].other.toList) with ⟨f3, s3⟩ | f3 | ⟨f3, s3⟩
                                    ·
                                      have HX : Hid (hitB l[k] l[j] = true) := by show _ = _; unfold hitB; simp only [f0, Bool.false_and, f1, s1, f2, Bool.false_and, f3, s3]; rfl
                                      have HF := hide (pairs_hit HC.out H20.out HTo.out hkl (show pairE c l k = 8 by rw [H5.out, if_neg (by rw [HO.out]; decide), if_pos (any_take hjk hjl HX.out)]) (by decide))
                                      go_wp2_with fail
                                      go_ret
                                      exact ⟨by rw [HF.out]; rfl, hbr.trans (hbi2.mono hsz)⟩
                                    ·
                                      have HX : Hid (hitB l[k] l[j] = false) := by show _ = _; unfold hitB; simp only [f0, Bool.false_and, f1, s1, f2, Bool.false_and, f3, Bool.false_and]; rfl
                                      go_wp2_with fail
                                      go_roundw
                                      case rel => exact ⟨j + 1, by omega, by go_num, HNo.out.succ hjl HX.out, ⟨x0, x1, x2, x3, x4⟩, hbi2⟩
                                      case measure => simp [intOf]; omega
                                    ·
                                      have HX : Hid (hitB l[k] l[j] = false) := by show _ = _; unfold hitB; simp only [f0, Bool.false_and, f1, s1, f2, Bool.false_and, f3, s3]; rfl
                                      go_wp2_with fail
                                      go_roundw
                                      case rel => exact ⟨j + 1, by omega, by go_num, HNo.out.succ hjl HX.out, ⟨x0, x1, x2, x3, x4⟩, hbi2⟩
                                      case measure => simp [intOf]; omega
                                  ·
                                    rcases two_cases (l[j].b == l[k].b) (l[j].other.toList == l[k].other.toList) with ⟨f3, s3⟩ | f3 | ⟨f3, s3⟩
                                    ·
                                      have HX : Hid (hitB l[k] l[j] = true) := by show _ = _; unfold hitB; simp only [f0, Bool.false_and, f1, s1, f2, s2, f3, s3]; rfl
                                      have HF := hide (pairs_hit HC.out H20.out HTo.out hkl (show pairE c l k = 8 by rw [H5.out, if_neg (by rw [HO.out]; decide), if_pos (any_take hjk hjl HX.out)]) (by decide))
                                      go_wp2_with fail
                                      go_ret
                                      exact ⟨by rw [HF.out]; rfl, hbr.trans (hbi2.mono hsz)⟩
                                    ·
                                      have HX : Hid (hitB l[k] l[j] = false) := by show _ = _; unfold hitB; simp only [f0, Bool.false_and, f1, s1, f2, s2, f3, Bool.false_and]; rfl
                                      go_wp2_with fail
                                      go_roundw
                                      case rel => exact ⟨j + 1, by omega, by go_num, HNo.out.succ hjl HX.out, ⟨x0, x1, x2, x3, x4⟩, hbi2⟩
                                      case measure => simp [intOf]; omega
                                    ·
                                      have HX : Hid (hitB l[k] l[j] = false) := by show _ = _; unfold hitB; simp only [f0, Bool.false_and, f1, s1, f2, s2, f3, s3]; rfl
                                      go_wp2_with fail
                                      go_roundw
                                      case rel => exact ⟨j + 1, by omega, by go_num, HNo.out.succ hjl HX.out, ⟨x0, x1, x2, x3, x4⟩, hbi2⟩
                                      case measure => simp [intOf]; omega
                              ·
                                rcases two_cases (l[j].b == l[k].a) (l[j].other.toList == l[k].one.toList) with ⟨f1, s1⟩ | f1 | ⟨f1, s1⟩
                                ·
                                  have HX : Hid (hitB l[k] l[j] = true) := by show _ = _; unfold hitB; simp only [f0, s0, f1, s1]; rfl
                                  have HF := hide (pairs_hit HC.out H20.out HTo.out hkl (show pairE c l k = 8 by rw [H5.out, if_neg (by rw [HO.out]; decide), if_pos (any_take hjk hjl HX.out)]) (by decide))
                                  go_wp2_with fail
                                  go_ret
                                  exact ⟨by rw [HF.out]; rfl, hbr.trans (hbi2.mono hsz)⟩
                                ·
                                  rcases two_cases (l[j].a == l[k].b) (l[j].one.toList == l[k].other.toList) with ⟨f2, s2⟩ | f2 | ⟨f2, s2⟩
                                  ·
                                    have HX : Hid (hitB l[k] l[j] = true) := by show _ = _; unfold hitB; simp only [f0, s0, f1, Bool.false_and, f2, s2]; rfl
                                    have HF := hide (pairs_hit HC.out H20.out HTo.out hkl (show pairE c l k = 8 by rw [H5.out, if_neg (by rw [HO.out]; decide), if_pos (any_take hjk hjl HX.out)]) (by decide))
                                    go_wp2_with fail
                                    go_ret
                                    exact ⟨by rw [HF.out]; rfl, hbr.trans (hbi2.mono hsz)⟩
                                  ·
                                    rcases two_cases (l[j].b == l[k].b) (l[j].other.toList == l[k].other.toList) with ⟨f3, s3⟩ | f3 | ⟨f3, s3⟩
                                    ·
                                      have HX : Hid (hitB l[k] l[j] = true) := by show _ = _; unfold hitB; simp only [f0, s0, f1, Bool.false_and, f2, Bool.false_and, f3, s3]; rfl
                                      have HF := hide (pairs_hit HC.out H20.out HTo.out hkl (show pairE c l k = 8 by rw [H5.out, if_neg (by rw [HO.out]; decide), if_pos (any_take hjk hjl HX.out)]) (by decide))
                                      go_wp2_with fail
                                      go_ret
                                      exact ⟨by rw [HF.out]; rfl, hbr.trans (hbi2.mono hsz)⟩
                                    ·
                                      have HX : Hid (hitB l[k] l[j] = false) := by show _ = _; unfold hitB; simp only [f0, s0, f1, Bool.false_and, f2, Bool.false_and, f3, Bool.false_and]; rfl
                                      go_wp2_with fail
                                      go_roundw
                                      case rel => exact ⟨j + 1, by omega, by go_num, HNo.out.succ hjl HX.out, ⟨x0, x1, x2, x3, x4⟩, hbi2⟩
                                      case measure => simp [intOf]; omega
                                    ·
                                      have HX : Hid (hitB l[k] l[j] = false) := by show _ = _; unfold hitB; simp only [f0, s0, f1, Bool.false_and, f2, Bool.false_and, f3, s3]; rfl
                                      go_wp2_with fail
                                      go_roundw
                                      case rel => exact ⟨j + 1, by omega, by go_num, HNo.out.succ hjl HX.out, ⟨x0, x1, x2, x3, x4⟩, hbi2⟩
                                      case measure => simp [intOf]; omega
                                  ·
                                    rcases two_cases (l[j].b == l[k].b) (l[j].other.toList == l[k].other.toList) with ⟨f3, s3⟩ | f3 | ⟨f3, s3⟩
                                    ·
                                      have HX : Hid (hitB l[k] l[j] = true) := by show _ = _; unfold hitB; simp only [f0, s0, f1, Bool.false_and, f2, s2, f3, s3]; rfl
                                      have HF := hide (pairs_hit HC.out H20.out HTo.out hkl (show pairE c l k = 8 by rw [H5.out, if_neg (by rw [HO.out]; decide), if_pos (any_take hjk hjl HX.out)]) (by decide))
                                      go_wp2_with fail
                                      go_ret
                                      exact ⟨by rw [HF.out]; rfl, hbr.trans (hbi2.mono hsz)⟩
                                    ·
                                      have HX : Hid (hitB l[k] l[j] = false) := by show _ = _; unfold hitB; simp only [f0, s0, f1, Bool.false_and, f2, s2, f3, Bool.false_and]; rfl
                                      go_wp2_with fail
                                      go_roundw
                                      case rel => exact ⟨j + 1, by omega, by go_num, HNo.out.succ hjl HX.out, ⟨x0, x1, x2, x3, x4⟩, hbi2⟩
                                      case measure => simp [intOf]; omega
                                    ·
                                      have HX : Hid (hitB l[k] l[j] = false) := by show _ = _; unfold hitB; simp only [f0, s0, f1, Bool.false_and, f2, s2, f3, s3]; rfl
                                      go_wp2_with fail
                                      go_roundw
                                      case rel => exact ⟨j + 1, by omega, by go_num, HNo.out.succ hjl HX.out, ⟨x0, x1, x2, x3, x4⟩, hbi2⟩
                                      case measure => simp [intOf]; omega
                                ·
                                  rcases two_cases (l[j].a == l[k].b) (l[j].one.toList == l[k].other.toList) with ⟨f2, s2⟩ | f2 | ⟨f2, s2⟩
                                  ·
                                    have HX : Hid (hitB l[k] l[j] = true) := by show _ = _; unfold hitB; simp only [f0, s0, f1, s1, f2, s2]; rfl
                                    have HF := hide (pairs_hit HC.out H20.out HTo.out hkl (show pairE c l k = 8 by rw [H5.out, if_neg (by rw [HO.out]; decide), if_pos (any_take hjk hjl HX.out)]) (by decide))
                                    go_wp2_with fail
                                    go_ret
                                    exact ⟨by rw [HF.out]; rfl, hbr.trans (hbi2.mono hsz)⟩
                                  ·
                                    rcases two_cases (l[j].b == l[k].b) (l[j].other.toList == l[k].other.toList) with ⟨f3, s3⟩ | f3 | ⟨f3, s3⟩
                                    ·
                                      have HX : Hid (hitB l[k] l[j] = true) := by show _ = _; unfold hitB; simp only [f0, s0, f1, s1, f2, Bool.false_and, f3, s3]; rfl
                                      have HF := hide (pairs_hit HC.out H20.out HTo.out hkl (show pairE c l k = 8 by rw [H5.out, if_neg (by rw [HO.out]; decide), if_pos (any_take hjk hjl HX.out)]) (by decide))
                                      go_wp2_with fail
                                      go_ret
                                      exact ⟨by rw [HF.out]; rfl, hbr.trans (hbi2.mono hsz)⟩
                                    ·
                                      have HX : Hid (hitB l[k] l[j] = false) := by show _ = _; unfold hitB; simp only [f0, s0, f1, s1, f2, Bool.false_and, f3, Bool.false_and]; rfl
                                      go_wp2_with fail
                                      go_roundw
                                      case rel => exact ⟨j + 1, by omega, by go_num, HNo.out.succ hjl HX.out, ⟨x0, x1, x2, x3, x4⟩, hbi2⟩
                                      case measure => simp [intOf]; omega
                                    ·
                                      have HX : Hid (hitB l[k] l[j] = false) := by show _ = _; unfold hitB; simp only [f0, s0, f1, s1, f2, Bool.false_and, f3, s3]; rfl
                                      go_wp2_with fail
                                      go_roundw
                                      case rel => exact ⟨j + 1, by omega, by go_num, HNo.out.succ hjl HX.out, ⟨x0, x1, x2, x3, x4⟩, hbi2⟩
                                      case measure => simp [intOf]; omega
                                  ·
                                    rcases two_cases (l[j].b == l[k].b) (l[j].other.toList == l[k].other.toList) with ⟨f3, s3⟩ | f3 | ⟨f3, s3⟩
                                    ·
                                      have HX : Hid (hitB l[k] l[j] = true) := by show _ = _; unfold hitB; simp only [f0, s0, f1, s1, f2, s2, f3, s3]; rfl
                                      have HF := hide (pairs_hit HC.out H20.out HTo.out hkl (show pairE c l k = 8 by rw [H5.out, if_neg (by rw [HO.out]; decide), if_pos (any_take hjk hjl HX.out)]) (by decide))
                                      go_wp2_with fail
                                      go_ret
                                      exact ⟨by rw [HF.out]; rfl, hbr.trans (hbi2.mono hsz)⟩
                                    ·
                                      have HX : Hid (hitB l[k] l[j] = false) := by show _ = _; unfold hitB; simp only [f0, s0, f1, s1, f2, s2, f3, Bool.false_and]; rfl
                                      go_wp2_with fail
                                      go_roundw
                                      case rel => exact ⟨j + 1, by omega, by go_num, HNo.out.succ hjl HX.out, ⟨x0, x1, x2, x3, x4⟩, hbi2⟩
                                      case measure => simp [intOf]; omega
                                    ·
                                      have HX : Hid (hitB l[k] l[j] = false) := by show _ = _; unfold hitB; simp only [f0, s0, f1, s1, f2, s2, f3, s3]; rfl
                                      go_wp2_with fail
                                      go_roundw
                                      case rel => exact ⟨j + 1, by omega, by go_num, HNo.out.succ hjl HX.out, ⟨x0, x1, x2, x3, x4⟩, hbi2⟩
                                      case measure => simp [intOf]; omega
                            · obtain rfl : j = k := by omega
                              have HZ : Hid (pairE c l j = 0) := by show _ = _; rw [H5.out, if_neg (by rw [HO.out]; decide), if_neg (by rw [HNo.out.any_take]; decide)]
                              go_wp2_with fail
                              go_roundw
                              case rel => exact ⟨j + 1, by omega, by go_num, rfl, by rw [firstE_succ HTo.out]; exact HZ.out, hbr.trans (hbi.mono hsz)⟩
                              case measure => simp [intOf]; omega
                    · have HG := hide (show legE c l[k] = leafE c l[k].diff from by rw [leg_3 g1 g2])
                      have HF := hide (pairs_hit HC.out H20.out HTo.out hkl (pairE_4 hkl HA.out HB.out H3.out (by rw [HG.out]; exact g3)) (by rw [HG.out]; exact g3))
                      have hz : (leafE c l[k].diff == 0) = false := by rw [beq_eq_false_iff_ne]; exact g3
                      obtain ⟨le, hle⟩ : ∃ le, le = leafE c l[k].diff := ⟨_, rfl⟩
                      rw [← hle] at hz
                      have HE := hide hle
                      have hz2 : ¬ le = 0 := by simpa using hz
                      have G1 := hide g1
                      have G2 := hide g2
                      clear hle g1 g2 g3
                      go_wp2_with fail
                      refine (refEntity_any _ _).mono ?_
                      rintro e w2 ⟨rfl, rfl⟩
                      go_wp2_with fail
                      refine (refEntity_any _ _).mono ?_
                      rintro e w2 ⟨rfl, rfl⟩
                      rw [HA.out, HB.out]
                      go_wp2_with fail
                      refine (refLeaf_any c _ _ _ _ _ hcl hck).mono ?_
                      rintro e w2 ⟨rfl, rfl⟩
                      rw [G1.out]
                      go_wp2_with fail
                      refine (refLeaf_any c _ _ _ _ _ hcl hck).mono ?_
                      rintro e w2 ⟨rfl, rfl⟩
                      rw [G2.out]
                      go_wp2_with fail
                      refine (refLeaf_any c _ _ _ _ _ hcl hck).mono ?_
                      rintro e w2 ⟨rfl, rfl⟩
                      rw [← HE.out]
                      go_wp2_with fail
                      go_ret
                      exact ⟨by rw [HF.out, HG.out, ← HE.out]; rfl, hbr.trans (hbx.mono hsz)⟩
                  · have HG := hide (show legE c l[k] = leafE c l[k].other from leg_2 g1 g2)
                    have HF := hide (pairs_hit HC.out H20.out HTo.out hkl (pairE_4 hkl HA.out HB.out H3.out (by rw [HG.out]; exact g2)) (by rw [HG.out]; exact g2))
                    have hz : (leafE c l[k].other == 0) = false := by rw [beq_eq_false_iff_ne]; exact g2
                    obtain ⟨le, hle⟩ : ∃ le, le = leafE c l[k].other := ⟨_, rfl⟩
                    rw [← hle] at hz
                    have HE := hide hle
                    have hz2 : ¬ le = 0 := by simpa using hz
                    have G1 := hide g1
                    clear hle g1 g2
                    go_wp2_with fail
                    refine (refEntity_any _ _).mono ?_
                    rintro e w2 ⟨rfl, rfl⟩
                    go_wp2_with fail
                    refine (refEntity_any _ _).mono ?_
                    rintro e w2 ⟨rfl, rfl⟩
                    rw [HA.out, HB.out]
                    go_wp2_with fail
                    refine (refLeaf_any c _ _ _ _ _ hcl hck).mono ?_
                    rintro e w2 ⟨rfl, rfl⟩
                    rw [G1.out]
                    go_wp2_with fail
                    refine (refLeaf_any c _ _ _ _ _ hcl hck).mono ?_
                    rintro e w2 ⟨rfl, rfl⟩
                    rw [← HE.out]
                    go_wp2_with fail
                    go_ret
                    exact ⟨by rw [HF.out, HG.out, ← HE.out]; rfl, hbr.trans (hbx.mono hsz)⟩
                · have HG := hide (show legE c l[k] = leafE c l[k].one from leg_1 g1)
                  have HF := hide (pairs_hit HC.out H20.out HTo.out hkl (pairE_4 hkl HA.out HB.out H3.out (by rw [HG.out]; exact g1)) (by rw [HG.out]; exact g1))
                  have hz : (leafE c l[k].one == 0) = false := by rw [beq_eq_false_iff_ne]; exact g1
                  obtain ⟨le, hle⟩ : ∃ le, le = leafE c l[k].one := ⟨_, rfl⟩
                  rw [← hle] at hz
                  have HE := hide hle
                  have hz2 : ¬ le = 0 := by simpa using hz
                  clear hle g1
                  go_wp2_with fail
                  refine (refEntity_any _ _).mono ?_
                  rintro e w2 ⟨rfl, rfl⟩
                  go_wp2_with fail
                  refine (refEntity_any _ _).mono ?_
                  rintro e w2 ⟨rfl, rfl⟩
                  rw [HA.out, HB.out]
                  go_wp2_with fail
                  refine (refLeaf_any c _ _ _ _ _ hcl hck).mono ?_
                  rintro e w2 ⟨rfl, rfl⟩
                  rw [← HE.out]
                  go_wp2_with fail
                  go_ret
                  exact ⟨by rw [HF.out, HG.out, ← HE.out]; rfl, hbr.trans (hbx.mono hsz)⟩
        · have HF : Hid (pairsE c l = 0) := by show _ = _; rw [pairsE_3 HC.out H20.out, Hn.out, show n = k by omega]; exact HTo.out
          go_wp2_with fail
          go_ret
          exact ⟨by rw [HF.out]; rfl, hbr⟩
  · have HF := hide (pairsE_1 (l := l) he)
    obtain ⟨ce, hce⟩ : ∃ ce, ce = chartE c := ⟨_, rfl⟩
    have HE := hide hce
    rw [← hce] at he
    have hz : (ce == 0) = false := by rw [beq_eq_false_iff_ne]; exact he
    clear he hn hce
    go_enter Tryz.func42, Tryz.ntmps42
    go_wp2_with fail
    refine (refChart_any c _ _ _ _ hcl hcc hc hcok).mono ?_
    rintro e w1 ⟨rfl, hb1⟩
    rw [← HE.out]
    go_wp2_with fail
    go_ret
    exact ⟨by rw [HF.out, ← HE.out]; rfl, hb1⟩
end Go.Proofs.YthmjkhlndphldaaGreatDoor
