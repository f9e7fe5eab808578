/- daylaw1.ChartSums returns true. -/
import Derived.Test.YthmjkhlndphldaaDoorSumsP
import Derived.Deep.QuietTactic
import Derived.BigQuiet
namespace Go.Proofs.YthmjkhlndphldaaDoor
open Go Go.RowKit
set_option linter.unusedVariables false

theorem size_alloc (w : World) (o : Obj) : w.heap.size + 1 = (w.alloc o).heap.size := by simp
theorem Rd.litAt {α : Type} {enc : α → List Value} {w : World} {sz : Nat} (he : Enc sz enc) (l : List α) (n : Nat) (hn : l.length = n) (cs : Array Value) (e : TypeId) (hcs : cs.toList = l.flatMap enc) {g : Nat} (hg : g = w.heap.size) : Rd (w.alloc (.cells cs e)) sz enc (some ⟨g, 0, none⟩) n l := by
  subst hg; exact Rd.lit w he l n hn cs e hcs
/-- chart.Roll of the law's own chart -/
theorem roll_fact (A M : Option Addr) (w : World) (ha : Accs w A 2 fact0) (hM : Rd w 1 intEnc2 M 2 [3, 4]) :
    Calls Tryd.prog 35 #[.slice A 2 2, .slice M 2 2] w fun e w' => ∃ b off c, e = .returned (.tuple #[.slice (some ⟨b, off, none⟩) 2 c, .nilIface]) ∧
      w'.cell? ⟨b, off, none⟩ = some (.int .i64 7) ∧ w'.cell? ⟨b, off + 1, none⟩ = some (.int .i64 4) ∧ Below w.heap.size w w' := by
  refine (roll_any fact0 [3, 4] A M 2 2 2 w (by omega) (by omega) ha fact0_fits fact0_ok hM (by intro x hx; simp at hx; omega)).mono ?_
  rintro e w' ⟨hb, ⟨_, v, he, hown⟩ | ⟨hf, _⟩⟩
  · rw [show fact0.length = 2 from rfl, fact_roll] at hown
    obtain ⟨A', c, rfl, _, _⟩ := hown.form
    obtain ⟨b, off, rfl, hc⟩ := (hown.rd intEnc2_ok).2 (by decide)
    exact ⟨b, off, c, he, by have := hc 0 0 (.int .i64 7) (by decide) rfl; simpa using this, by have := hc 1 0 (.int .i64 4) (by decide) rfl; simpa using this, hb⟩
  · exact absurd fact_fit hf

set_option maxHeartbeats 400000 in
set_option maxRecDepth 100000 in
theorem sums_err (l : List Acc) (am : List Int) (A M : Option Addr) (n cap mn mc : Nat) (w : World) (er : Int) (her : er ≠ 0)
    (hroll : ∀ w', Below w.heap.size w w' → Calls Tryd.prog 35 #[.slice A n cap, .slice M mn mc] w' fun e w'' => e = .returned (.tuple #[.slice none 0 0, .iface 79 (.int .i64 er)]) ∧ Below w'.heap.size w' w'') :
    Calls Tryd.prog 8 #[.slice A n cap, .slice M mn mc] w (SaysTrue w) := by
  go_enter Tryd.func8, Tryd.ntmps8
  go_wp2_with fail
  refine Calls.mono (roll_fact _ _ _ ?hA ?hM) ?_
  case hA => exact Accs.alloc (Rd.lit w accEnc_ok fact0 2 rfl _ _ rfl) _
  case hM => exact Rd.litAt intEnc2_ok [3, 4] 2 rfl #[.int .i64 3, .int .i64 4] _ rfl (size_alloc _ _)
  rintro e w1 ⟨b1, o1, c1, rfl, hf1, hf2, hb1⟩
  have hb1' := bof_alloc (bof_alloc hb1)
  go_wp2_with fail
  refine (hroll _ hb1').mono ?_
  rintro e w2 ⟨rfl, hb2⟩
  go_wp2_with fail
  go_ret
  exact ⟨rfl, bthen hb1' (Nat.le_refl _) hb2⟩

theorem errV_two {EV : Value} {x : Int} (h : EV = errV (smE x)) : EV = .nilIface ∨ EV = .iface 79 (.int .i64 10) := by
  unfold smE at h
  by_cases e : in64 x = true
  · rw [if_pos e] at h; exact .inl h
  · rw [if_neg e] at h; exact .inr h

set_option maxHeartbeats 8000000 in
set_option maxRecDepth 100000 in
theorem sums_ok (l : List Acc) (am : List Int) (A M : Option Addr) (cap mc : Nat) (w : World) (hcap : l.length ≤ cap) (ha : Accs w A l.length l) (hok : AccOk l) (he : chartE l = 0) (hM : Rd w 1 intEnc2 M l.length am) (h64 : Ints64 am) :
    Calls Tryd.prog 8 #[.slice A l.length cap, .slice M l.length mc] w (SaysTrue w) := by
  obtain ⟨i0, hi0, hz0, hz1, hz2⟩ := info_parts int_info2
  have HE := hide he
  have hl : l.length ≤ 60 := chartE_len he
  have Hm := hide hM.1
  clear he
  go_enter Tryd.func8, Tryd.ntmps8
  go_wp2_with fail
  refine Calls.mono (roll_fact _ _ _ ?hA ?hM) ?_
  case hA => exact Accs.alloc (Rd.lit w accEnc_ok fact0 2 rfl _ _ rfl) _
  case hM => exact Rd.litAt intEnc2_ok [3, 4] 2 rfl #[.int .i64 3, .int .i64 4] _ rfl (size_alloc _ _)
  rintro e w1 ⟨b1, o1, c1, rfl, hf1, hf2, hb1⟩
  have hb1' := bof_alloc (bof_alloc hb1)
  go_wp2_with fail
  refine (roll_any l am A M _ cap mc _ hl hcap (ha.below hb1') hok HE.out (hM.below hb1') h64).mono ?_
  rintro e w2 ⟨hb2, ⟨hfit, v, rfl, hownR⟩ | ⟨_, rfl⟩⟩
  · have HF := hide hfit
    clear hfit
    obtain ⟨RA, rc, rfl, hr1, hr2⟩ := hownR.form
    have hrl := rollTo_len l am l.length
    rw [hrl] at hownR hr1 ⊢
    have hrdR := hownR.rd intEnc2_ok
    have hb12 := bthen hb1' (Nat.le_refl _) hb2
    go_wp2_with fail
    refine (msum_any am _ _ _ _ (hM.below hb12) (by omega) h64).mono ?_
    rintro e w3 ⟨rfl, hb3⟩
    have hb13 := bthen hb12 (Nat.le_refl _) hb3
    have hrd3 := hrdR.below hb3
    obtain ⟨EV, hEV⟩ : ∃ EV, EV = errV (smE am.sum) := ⟨_, rfl⟩
    obtain ⟨SV, hSV⟩ : ∃ SV, SV = smV am.sum := ⟨_, rfl⟩
    rw [← hEV, ← hSV]
    go_wp2_with fail
    go_loopw [11, 12] (fun tv iv wr => ∃ i : Nat, i ≤ l.length ∧ iv = .int .i64 i ∧ Own wr w3.heap.size 3 1 intEnc2 tv (topsTo l am i) ∧ Below w3.heap.size w3 wr) (fun _ iv _ => l.length - (intOf iv).toNat)
    case atStart => exact ⟨0, by omega, rfl, Own.nil _ _ _ _ _, Below.refl _ _⟩
    case round =>
      obtain ⟨i, hi, rfl, hownT, hbr⟩ := hrel
      have hbw := bthen hb13 (Nat.le_refl _) hbr
      by_cases hlt : i < l.length
      · obtain ⟨b, off, rfl, hcs⟩ := (ha.below hb13).at_ (by omega)
        obtain ⟨h3c, _, _, h3p, _⟩ := hcs i hlt
        clear hcs
        obtain ⟨rb, ro, rfl, hrc⟩ := hrd3.2 (by omega)
        have hir : i < (rollTo l am l.length).length := by omega
        have h3r := hrc i 0 _ hir rfl
        rw [Nat.mul_one, Nat.add_zero] at h3r
        clear hrc
        have hcode := below_cell hbr (World.block_lt_of_cell? _ _ h3c) h3c
        have hpar := below_cell hbr (World.block_lt_of_cell? _ _ h3p) h3p
        have hrv := below_cell hbr (World.block_lt_of_cell? _ _ h3r) h3r
        have htl := topsTo_len l am i
        have i0' : (0 : Int) ≤ (i : Int) := by omega
        have i1' : (i : Int) < (l.length : Int) := by omega
        have hsz := hbr.size
        cases htop : l[i].parent.toList.isEmpty with
        | true =>
          have HTop : Hid (topB l i = true) := by show topB l i = true; simp [topB, hlt, htop]
          go_wp2_with (first | (at_builtin; go_loud (refine wpList_push _ rfl _ _ 30 rfl w3.heap.size 3 i0 (.int .i64 0) 1 8 Tryd.underlying30 hi0 hz0 hz1 hz2 rfl (by decide) intEnc2_ok _ (topsTo l am i) rfl (hownT.alloc _) _ 1 1 [(rollTo l am l.length)[i]] rfl (Rd.boxed _ intEnc2_ok _ _ _ rfl) (by intro h; cases h) (by simp only [maxLen]; omega) (by omega) (by simp; omega) ?_); intro v' w4 hown4 hg4 hat4; have hb34 : Below w3.heap.size w3 w4 := ((hbr.alloc hsz _).grown hg4 (by simp; omega) (fun q e => (hownT.block q e).1)); have hbw4 := (bthen hb13 (Nat.le_refl _) hb34); have hcode4 := (below_cell hb34 (World.block_lt_of_cell? _ _ h3c) h3c); have hpar4 := (below_cell hb34 (World.block_lt_of_cell? _ _ h3p) h3p); have hrv4 := (below_cell hb34 (World.block_lt_of_cell? _ _ h3r) h3r)))
          refine (under_at l i _ cap _ hcap (ha.below hbw4) hok HE.out hlt).mono ?_
          rintro e w5 ⟨b5, o5, c5, rfl, hu, hb5⟩
          have hu0 := hu 0 (uIdx_pos hlt)
          simp only [uIdx_first hlt, Nat.add_zero] at hu0
          have hcode5 := below_cell hb5 (World.block_lt_of_cell? _ _ hcode4) hcode4
          have hpar5 := below_cell hb5 (World.block_lt_of_cell? _ _ hpar4) hpar4
          have hrv5 := below_cell hb5 (World.block_lt_of_cell? _ _ hrv4) hrv4
          have hbw5 := bthen hbw4 (Nat.le_refl _) hb5
          have hb35 := bthen hb34 (Nat.le_refl _) hb5
          obtain ⟨mb, mo, rfl, hmc⟩ := (hM.below hbw5).2 (by omega)
          have hmv := hmc i 0 _ (by have := Hm.out; omega) rfl
          rw [Nat.mul_one, Nat.add_zero] at hmv
          clear hmc hu
          have hzl : (((uIdx l i).length : Int) == 0) = false := by have := uIdx_pos hlt; rw [beq_eq_false_iff_ne]; omega
          have hpos := uIdx_pos hlt
          have hule := uIdx_le l i
          have hgo : rollOf l am i = (rollTo l am l.length)[i] := by simp [rollTo]
          cases hone : (((uIdx l i).length : Int) == 1) with
          | true =>
            have h1 : (uIdx l i).length = 1 := by have := eq_of_beq hone; omega
            have hleaf := (leaf_roll (am := am) hlt Hm.out h1).symm.trans hgo
            rw [hleaf] at hmv
            clear h1
            go_wp2_with fail
            go_quiet (fail)
            go_wp2_with fail
            go_quiet (fail)
            go_wp2_with fail
            go_roundw
            case rel => exact ⟨i + 1, by omega, by go_num, by rw [topsTo_yes HTop.out, hgo]; exact hown4.below (bdrewN hb5 _), bdrewN hb35 _⟩
            case measure => simp [intOf]; omega
          | false =>
            go_wp2_with fail
            go_quiet (fail)
            go_wp2_with fail
            go_quiet (fail)
            go_wp2_with fail
            go_roundw
            case rel => exact ⟨i + 1, by omega, by go_num, by rw [topsTo_yes HTop.out, hgo]; exact hown4.below (bdrewN hb5 _), bdrewN hb35 _⟩
            case measure => simp [intOf]; omega
        | false =>
          have HTop : Hid (topB l i = false) := by show topB l i = false; simp [topB, hlt, htop]
          go_wp2_with fail
          refine (under_at l i _ cap _ hcap (ha.below hbw) hok HE.out hlt).mono ?_
          rintro e w5 ⟨b5, o5, c5, rfl, hu, hb5⟩
          have hu0 := hu 0 (uIdx_pos hlt)
          simp only [uIdx_first hlt, Nat.add_zero] at hu0
          have hcode5 := below_cell hb5 (World.block_lt_of_cell? _ _ hcode) hcode
          have hpar5 := below_cell hb5 (World.block_lt_of_cell? _ _ hpar) hpar
          have hrv5 := below_cell hb5 (World.block_lt_of_cell? _ _ hrv) hrv
          have hbw5 := bthen hbw (Nat.le_refl _) hb5
          have hb35 := bthen hbr (Nat.le_refl _) hb5
          obtain ⟨mb, mo, rfl, hmc⟩ := (hM.below hbw5).2 (by omega)
          have hmv := hmc i 0 _ (by have := Hm.out; omega) rfl
          rw [Nat.mul_one, Nat.add_zero] at hmv
          clear hmc hu
          have hzl : (((uIdx l i).length : Int) == 0) = false := by have := uIdx_pos hlt; rw [beq_eq_false_iff_ne]; omega
          have hpos := uIdx_pos hlt
          have hule := uIdx_le l i
          have hgo : rollOf l am i = (rollTo l am l.length)[i] := by simp [rollTo]
          obtain ⟨p, hpi, hpo, hpe, _⟩ := ch_parent HE.out i hlt htop
          have hpl : p < l.length := by omega
          have hpeq : l[i].parent = l[p].code := by
            have := beq_toList l[i].parent l[p].code
            rw [hpe, beq_self_eq_true] at this
            exact of_decide_eq_true this.symm
          have hbp : bel l p i = true := by rw [bel_gt hpi hlt, hpo]; exact bel_self l p
          rw [hpeq] at hpar5 htop
          have hmore := under_more hpi hlt hbp
          have HB := hide hbp
          have hple := uIdx_le l p
          clear hpo hpe hpeq hbp
          cases hone : (((uIdx l i).length : Int) == 1) with
          | true =>
            have h1 : (uIdx l i).length = 1 := by have := eq_of_beq hone; omega
            have hleaf := (leaf_roll (am := am) hlt Hm.out h1).symm.trans hgo
            rw [hleaf] at hmv
            clear h1
            go_wp2_with fail
            go_quiet (fail)
            go_wp2_with fail
            go_quiet (fail)
            go_wp2_with fail
            refine (under_at l p _ cap _ hcap (ha.below (bdrewN hbw5 _)) hok HE.out hpl).mono ?_
            rintro e w6 ⟨b6, o6, c6, rfl, hv, hb6⟩
            have hb56 := bthen (bdrewN (Below.refl w5.heap.size w5) _) (Nat.le_refl _) hb6
            have hcode6 := below_cell hb56 (World.block_lt_of_cell? _ _ hcode5) hcode5
            have hb36 := bthen hb35 (Nat.le_refl _) hb56
            go_wp2_with fail
            go_loopw [17, 18] (fun nv kv wi => ∃ k : Nat, k ≤ (uIdx l p).length ∧ kv = .int .i64 k ∧ nv = .bool (hasTo l p l[i].code k) ∧ Below w6.heap.size w6 wi) (fun _ kv _ => (uIdx l p).length - (intOf kv).toNat)
            case atStart => exact ⟨0, by omega, rfl, rfl, Below.refl _ _⟩
            case round =>
              obtain ⟨k, hk, rfl, rfl, hbi⟩ := hrel
              have hb3i := bthen hb36 (Nat.le_refl _) hbi
              have hci := below_cell hbi (World.block_lt_of_cell? _ _ hcode6) hcode6
              by_cases hkl : k < (uIdx l p).length
              · have k0 : (0 : Int) ≤ (k : Int) := by omega
                have k1 : (k : Int) < ((uIdx l p).length : Int) := by omega
                have hs := hasTo_succ (c := l[i].code) hkl
                have hvk := below_cell hbi (World.block_lt_of_cell? _ _ (hv k hkl)) (hv k hkl)
                obtain ⟨C, hC⟩ : ∃ C, C = (l[(uIdx l p)[k]]'(uIdx_lt (List.getElem_mem hkl))).code := ⟨_, rfl⟩
                rw [← hC] at hs hvk
                cases hh : hasTo l p l[i].code k with
                | true =>
                  rw [hh, Bool.true_or] at hs
                  have HS := hide hs
                  clear hs
                  go_wp2_with fail
                  go_quiet (fail)
                  go_wp2_with fail
                  go_roundw
                  case rel => exact ⟨k + 1, by omega, by go_num, by rw [HS.out], bdrewN hbi _⟩
                  case measure => simp [intOf]; omega
                | false =>
                  rw [hh, Bool.false_or, beq_toList] at hs
                  have HS := hide hs
                  clear hs
                  go_wp2_with fail
                  go_quiet (fail)
                  go_wp2_with fail
                  go_roundw
                  case rel => exact ⟨k + 1, by omega, by go_num, by rw [HS.out]; simp [beq_toList, hC], bdrewN hbi _⟩
                  case measure => simp [intOf]; omega
              · have hkn : k = (uIdx l p).length := by omega
                subst hkn
                rw [hasTo_all hlt HB.out]
                go_wp2_with fail
                go_roundw
                case rel => exact ⟨i + 1, by omega, by go_num, by rw [topsTo_no HTop.out]; exact hownT.below (bthen (bthen hb5 (Nat.le_refl _) hb56) (Nat.le_refl _) hbi), hb3i⟩
                case measure => simp [intOf]; omega
          | false =>
            go_wp2_with fail
            go_quiet (fail)
            go_wp2_with fail
            go_quiet (fail)
            go_wp2_with fail
            refine (under_at l p _ cap _ hcap (ha.below (bdrewN hbw5 _)) hok HE.out hpl).mono ?_
            rintro e w6 ⟨b6, o6, c6, rfl, hv, hb6⟩
            have hb56 := bthen (bdrewN (Below.refl w5.heap.size w5) _) (Nat.le_refl _) hb6
            have hcode6 := below_cell hb56 (World.block_lt_of_cell? _ _ hcode5) hcode5
            have hb36 := bthen hb35 (Nat.le_refl _) hb56
            go_wp2_with fail
            go_loopw [17, 18] (fun nv kv wi => ∃ k : Nat, k ≤ (uIdx l p).length ∧ kv = .int .i64 k ∧ nv = .bool (hasTo l p l[i].code k) ∧ Below w6.heap.size w6 wi) (fun _ kv _ => (uIdx l p).length - (intOf kv).toNat)
            case atStart => exact ⟨0, by omega, rfl, rfl, Below.refl _ _⟩
            case round =>
              obtain ⟨k, hk, rfl, rfl, hbi⟩ := hrel
              have hb3i := bthen hb36 (Nat.le_refl _) hbi
              have hci := below_cell hbi (World.block_lt_of_cell? _ _ hcode6) hcode6
              by_cases hkl : k < (uIdx l p).length
              · have k0 : (0 : Int) ≤ (k : Int) := by omega
                have k1 : (k : Int) < ((uIdx l p).length : Int) := by omega
                have hs := hasTo_succ (c := l[i].code) hkl
                have hvk := below_cell hbi (World.block_lt_of_cell? _ _ (hv k hkl)) (hv k hkl)
                obtain ⟨C, hC⟩ : ∃ C, C = (l[(uIdx l p)[k]]'(uIdx_lt (List.getElem_mem hkl))).code := ⟨_, rfl⟩
                rw [← hC] at hs hvk
                cases hh : hasTo l p l[i].code k with
                | true =>
                  rw [hh, Bool.true_or] at hs
                  have HS := hide hs
                  clear hs
                  go_wp2_with fail
                  go_quiet (fail)
                  go_wp2_with fail
                  go_roundw
                  case rel => exact ⟨k + 1, by omega, by go_num, by rw [HS.out], bdrewN hbi _⟩
                  case measure => simp [intOf]; omega
                | false =>
                  rw [hh, Bool.false_or, beq_toList] at hs
                  have HS := hide hs
                  clear hs
                  go_wp2_with fail
                  go_quiet (fail)
                  go_wp2_with fail
                  go_roundw
                  case rel => exact ⟨k + 1, by omega, by go_num, by rw [HS.out]; simp [beq_toList, hC], bdrewN hbi _⟩
                  case measure => simp [intOf]; omega
              · have hkn : k = (uIdx l p).length := by omega
                subst hkn
                rw [hasTo_all hlt HB.out]
                go_wp2_with fail
                go_roundw
                case rel => exact ⟨i + 1, by omega, by go_num, by rw [topsTo_no HTop.out]; exact hownT.below (bthen (bthen hb5 (Nat.le_refl _) hb56) (Nat.le_refl _) hbi), hb3i⟩
                case measure => simp [intOf]; omega
      · have hil : i = l.length := by omega
        subst hil
        obtain ⟨TA, tc, rfl, ht1, ht2⟩ := hownT.form
        have htl := topsTo_len l am l.length
        go_wp2_with fail
        refine (msum_any (topsTo l am l.length) _ _ _ _ (hownT.rd intEnc2_ok) (by omega) (topsTo_64 HF.out)).mono ?_
        rintro e w5 ⟨rfl, hb5⟩
        rw [tops_all HE.out Hm.out, ← hEV, ← hSV]
        have h2 := errV_two hEV
        clear hEV hSV
        rcases h2 with rfl | rfl
        · go_wp2_with fail
          go_quiet (fail)
          go_wp2_with fail
          go_ret
          exact ⟨ret_bool (by simp), bthen (bthen hb13 (Nat.le_refl _) hbr) (Nat.le_refl _) (bdrewN hb5 _)⟩
        · go_wp2_with fail
          go_quiet (fail)
          go_wp2_with fail
          go_ret
          exact ⟨ret_bool (by simp), bthen (bthen hb13 (Nat.le_refl _) hbr) (Nat.le_refl _) (bdrewN hb5 _)⟩
  · go_wp2_with fail
    go_ret
    exact ⟨rfl, bthen hb1' (Nat.le_refl _) hb2⟩

theorem sums_any (l : List Acc) (am : List Int) (A M : Option Addr) (n cap mn mc : Nat) (w : World) (hcap : n ≤ cap) (hm : cap ≤ maxLen) (ha : Accs w A n l) (hok : AccOk l) (hM : Rd w 1 intEnc2 M mn am) (h64 : Ints64 am) :
    Calls Tryd.prog 8 #[.slice A n cap, .slice M mn mc] w (SaysTrue w) := by
  have hn := ha.1
  unfold maxLen at hm
  by_cases he : chartE l = 0
  · have hl := chartE_len he
    by_cases e : mn = n
    · subst hn
      subst e
      exact sums_ok l am A M cap mc w hcap ha hok he hM h64
    · exact sums_err l am A M n cap mn mc w 3 (by decide) (fun w' hb => roll_shape l am A M n cap mn mc w' (by omega) hcap (ha.below hb) hok he e)
  · exact sums_err l am A M n cap mn mc w (chartE l) he (fun w' hb => roll_bad l am A M n cap mn mc w' (by omega) hcap (ha.below hb) hok he)
end Go.Proofs.YthmjkhlndphldaaDoor
