/- daylaw4.ReportEven: the walk. -/
import Derived.Test.YthmjkhlndphldaaGreatDoorRepX
import Derived.Test.YthmjkhlndphldaaGreatDoorRepA
import Derived.BigQuiet
namespace Go.Proofs.YthmjkhlndphldaaGreatDoor
open Go Go.RowKit
set_option linter.unusedVariables false

/-- the good ones of the first i -/
def goodTo (c : List Acc) (L : List Ent) (i : Nat) : List Ent := (L.take i).filter fun e => decide (entE c e.ref e.ent e.per e.lines = 0)
theorem goodTo_succ {c : List Acc} {L : List Ent} {i : Nat} (hi : i < L.length) : goodTo c L (i + 1) = goodTo c L i ++ (if entE c L[i].ref L[i].ent L[i].per L[i].lines = 0 then [L[i]] else []) := by
  unfold goodTo
  rw [List.take_succ_eq_append_getElem hi, List.filter_append]
  congr 1
  by_cases h : entE c L[i].ref L[i].ent L[i].per L[i].lines = 0
  · simp [h]
  · simp [h]
theorem goodTo_len (c : List Acc) (L : List Ent) (i : Nat) : (goodTo c L i).length ≤ i := by
  unfold goodTo
  refine Nat.le_trans (List.length_filter_le _ _) ?_
  rw [List.length_take]; omega
theorem goodTo_mem {c : List Acc} {L : List Ent} {i : Nat} {e : Ent} (h : e ∈ goodTo c L i) : e ∈ L ∧ entE c e.ref e.ent e.per e.lines = 0 := by
  unfold goodTo at h
  obtain ⟨h1, h2⟩ := List.mem_filter.1 h
  exact ⟨List.mem_of_mem_take h1, by simpa using h2⟩

set_option maxHeartbeats 4000000 in
set_option maxRecDepth 100000 in
theorem repEven_walk (c : List Acc) (CA : Option Addr) (cn ccap : Nat) (L : List Ent) (LA : Option Addr) (ln lcap : Nat) (ent : Int) (cur : ByteArray) (w : World)
    (hcn : cn ≤ 9223372036854775807) (hcc : cn ≤ ccap) (hc : Accs w CA cn c) (hcok : AccOk c) (hln : ln ≤ 9223372036854775807) (hL : Rd w 4 Ent.enc LA ln L) (hLok : ∀ e, e ∈ L → EntFits w e) (hcur : cur.size ≤ 9223372036854775807)
    (hSm : ∀ e, e ∈ L → entE c e.ref e.ent e.per e.lines = 0 → Small (Ent.core e))
    (hPl : ∀ i, i ≤ 60 → kdE c (netB (balsOf ((goodTo c L i).map Ent.core))) ent cur = 0 → (∀ k, k < 6 → Wide (ksum c (netB (balsOf ((goodTo c L i).map Ent.core))) ent cur k)) ∧
      ksum c (netB (balsOf ((goodTo c L i).map Ent.core))) ent cur 1 + ksum c (netB (balsOf ((goodTo c L i).map Ent.core))) ent cur 2 + ksum c (netB (balsOf ((goodTo c L i).map Ent.core))) ent cur 3 + ksum c (netB (balsOf ((goodTo c L i).map Ent.core))) ent cur 4 + ksum c (netB (balsOf ((goodTo c L i).map Ent.core))) ent cur 5 = 0) :
    Calls Tryz.prog 8 #[.slice CA cn ccap, .slice LA ln lcap, .int .i64 ent, .string cur] w
      fun e w' => e = .returned (.bool true) ∧ Below w.heap.size w w' := by
  have HP : Hid (kdE acct4 [bal0] 1 ⟨#[69, 85, 82]⟩ = 0) := rep_kd
  go_enter Tryz.func8, Tryz.ntmps8
  go_wp2_with fail
  refine (chart4_any _).mono ?_
  rintro e w1 ⟨g1, rfl, hac, hb1⟩
  go_wp2_with fail
  have hb1' := (Below.refl w1.heap.size w1).alloc (Nat.le_refl _) (.cells #[.int .i64 1, .string ⟨#[52, 48]⟩, .string ⟨#[69, 85, 82]⟩, .int .i64 (-5)] 73)
  refine (income_any acct4 _ 4 4 [bal0] _ 1 1 1 ⟨#[69, 85, 82]⟩ _ (by omega) (by omega) (hac.below hb1') acct4_ok (by omega) (Rd.boxed w1 balEnc_ok bal0 _ _ rfl) (by decide) rep_wide).mono ?_
  rintro e w2 ⟨rfl, hb2⟩
  rw [rep_inc]
  have hb2 := bthen hb1 (Nat.le_refl _) (bof_alloc hb2)
  have HSm := hide hSm
  have HPl := hide hPl
  clear hac hb1' HP hSm hPl
  have Hn := hide hL.1
  obtain ⟨i1, hi1, hy0, hy1, hy2⟩ := info_parts ent_info
  go_wp2_with fail
  go_loopw [13, 14] (fun gv iv wr => ∃ i : Nat, i ≤ ln ∧ i ≤ 60 ∧ iv = .int .i64 i ∧ Own wr w2.heap.size 25 4 Ent.enc gv (goodTo c L i) ∧ Below w2.heap.size w2 wr) (fun _ iv _ => 60 - (intOf iv).toNat)
  case atStart => exact ⟨0, by omega, by omega, rfl, Own.nil _ _ _ _ _, Below.refl _ _⟩
  case round =>
    obtain ⟨i, hi, hi60, rfl, hown, hbr⟩ := hrel
    have hbW := bthen hb2 (Nat.le_refl _) hbr
    by_cases hlt : i < ln
    · by_cases h60 : i < 60
      · have hil : i < L.length := by have := Hn.out; omega
        have k0 : (0 : Int) ≤ (i : Int) := by omega
        have k1 : (i : Int) < (ln : Int) := by omega
        have k2 : (i : Int) < 60 := by omega
        obtain ⟨b0, off, rfl, hcs⟩ := hL.2 (by omega)
        have q0 := hcs i 0 _ hil rfl
        have q1 := hcs i 1 _ hil rfl
        have q2 := hcs i 2 _ hil rfl
        have q3 := hcs i 3 _ hil rfl
        clear hcs
        rw [Nat.add_zero] at q0
        have hb0 : b0 < w.heap.size := World.block_lt_of_cell? _ _ q0
        have q0 := below_cell hbW hb0 q0
        have q1 := below_cell hbW hb0 q1
        have q2 := below_cell hbW hb0 q2
        have q3 := below_cell hbW hb0 q3
        obtain ⟨f1, f2, f3, f4, f5, f6⟩ := hLok L[i] (List.getElem_mem _)
        have f7 : L[i].n ≤ 9223372036854775807 := by unfold maxLen at f3; omega
        have hS := goodTo_succ (c := c) hil
        have hgl := goodTo_len c L i
        obtain ⟨E, hE⟩ : ∃ E, E = L[i] := ⟨_, rfl⟩
        rw [← hE] at q0 q1 q2 q3 f1 f2 f3 f4 f5 f6 f7 hS
        have HS := hide hS
        have HE := hide hE
        clear hS hE
        go_wp2_with fail
        refine (refEntry_any c _ _ _ E.ref E.ent E.per E.lines E.A E.n E.cap _ hcn hcc (hc.below hbW) hcok f1 f7 (f4.below hbW) f5).mono ?_
        rintro e w3 ⟨rfl, hb3⟩
        have q0 := below_cell hb3 (Nat.lt_of_lt_of_le hb0 hbW.size) q0
        have q1 := below_cell hb3 (Nat.lt_of_lt_of_le hb0 hbW.size) q1
        have q2 := below_cell hb3 (Nat.lt_of_lt_of_le hb0 hbW.size) q2
        have q3 := below_cell hb3 (Nat.lt_of_lt_of_le hb0 hbW.size) q3
        have hown3 := hown.below hb3
        have hbr3 := bthen hbr (Nat.le_refl _) hb3
        have hs3 := hbr3.size
        obtain ⟨VA, vc, rfl, hvc, hvm⟩ := hown3.form
        by_cases hz : entE c E.ref E.ent E.per E.lines = 0
        · have hS1 : Hid (goodTo c L (i + 1) = goodTo c L i ++ [E]) := by show _ = _; rw [HS.out, if_pos hz]
          rw [hz]
          clear hz
          go_wp2_with (first | (at_builtin; go_loud (refine wpList_push _ rfl _ _ 50 rfl w2.heap.size 25 i1 zeroEnt 4 56 Tryz.underlying50 hi1 hy0 hy1 hy2 rfl (by decide) entEnc_ok _ (goodTo c L i) rfl (hown3.alloc _) _ 1 1 [E] rfl (Rd.boxedAt _ entEnc_ok E _ _ rfl _ (by simp)) (by intro h; cases h) (by simp only [maxLen]; omega) (by omega) (by simp; omega) ?_); intro v9 w10 hown10 hg10 hat10))
          go_roundw
          case rel => exact ⟨i + 1, by omega, by omega, by go_num, by rw [hS1.out]; exact hown10, (hbr3.alloc hs3 _).grown hg10 (by simp; omega) (fun q e => (hown3.block q e).1)⟩
          case measure => simp [intOf]; omega
        · have hS1 : Hid (goodTo c L (i + 1) = goodTo c L i) := by show _ = _; rw [HS.out, if_neg hz, List.append_nil]
          obtain ⟨e0, he0⟩ : ∃ e0, e0 = entE c E.ref E.ent E.per E.lines := ⟨_, rfl⟩
          rw [← he0] at hz ⊢
          have hzb : (e0 == 0) = false := by rw [beq_eq_false_iff_ne]; exact hz
          clear hz he0
          go_wp2_with fail
          go_roundw
          case rel => exact ⟨i + 1, by omega, by omega, by go_num, by rw [hS1.out]; exact hown3, hbr3⟩
          case measure => simp [intOf]; omega
      · have k1 : (i : Int) < (ln : Int) := by omega
        have k2 : ¬ (i : Int) < 60 := by omega
        have hgl : (goodTo c L i).length ≤ 60 := Nat.le_trans (goodTo_len c L i) hi60
        go_wp2_with fail
        obtain ⟨VA, vc, rfl, hvc, hvm⟩ := hown.form
        have hrd := hown.rd entEnc_ok
        refine (balances_any (goodTo c L i) _ _ _ _ hgl hrd (fun e he => ((hLok e (goodTo_mem he).1).2.2.2.1).below hbW) (fun e he => HSm.out e (goodTo_mem he).1 (goodTo_mem he).2)).mono ?_
        clear hrd hown
        rintro e w4 ⟨⟨_, rfl⟩ | ⟨_, v, rfl, hownB⟩, hb4⟩
        · go_wp2_with fail
          go_ret
          exact ⟨rfl, bthen hbW (Nat.le_refl _) hb4⟩
        · obtain ⟨BA, bc, rfl, hbc, hbm⟩ := hownB.form
          have hrB := hownB.rd balEnc_ok
          have hP := HPl.out i hi60
          obtain ⟨B, hB⟩ : ∃ B, B = netB (balsOf ((goodTo c L i).map Ent.core)) := ⟨_, rfl⟩
          rw [← hB] at hrB hP hbc ⊢
          have hbl : B.length ≤ 9223372036854775807 := by unfold maxLen at hbm; omega
          have hb4 := bthen hbW (Nat.le_refl _) hb4
          clear hownB hB
          have HW := hide (fun e => (hP e).1)
          by_cases hk : kdE c B ent cur = 0
          · obtain ⟨hw, hsum⟩ := hP hk
            have v1 := hw 1 (by omega)
            have v2 := hw 2 (by omega)
            have v3 := hw 3 (by omega)
            have v4 := hw 4 (by omega)
            have v5 := hw 5 (by omega)
            have hSh : sheV c B ent cur = .tuple #[.int .i64 (ksum c B ent cur 1), .int .i64 (-(ksum c B ent cur 2)), .int .i64 (-(ksum c B ent cur 3) - ksum c B ent cur 4 - ksum c B ent cur 5), .nilIface] := if_pos hk
            have hIn : incV c B ent cur = .tuple #[.int .i64 (-(ksum c B ent cur 4)), .int .i64 (ksum c B ent cur 5), .int .i64 (-(ksum c B ent cur 4) - ksum c B ent cur 5), .nilIface] := if_pos hk
            unfold Wide at v1 v2 v3 v4 v5
            generalize ksum c B ent cur 1 = s1 at *
            generalize ksum c B ent cur 2 = s2 at *
            generalize ksum c B ent cur 3 = s3 at *
            generalize ksum c B ent cur 4 = s4 at *
            generalize ksum c B ent cur 5 = s5 at *
            have HSh := hide hSh
            have HIn := hide hIn
            have x1 : IntKind.i64.wrap (-s2 + (-s3 - s4 - s5)) = s1 := by rw [IntWalk.i64_in _ (by omega)]; omega
            have x2 : IntKind.i64.wrap (-s4 - s5) = -s4 - s5 := IntWalk.i64_in _ (by omega)
            clear hSh hIn hw hk hP hsum
            go_wp2_with fail
            refine (sheet_any c _ _ _ B _ _ _ ent cur _ hcn hcc (hc.below hb4) hcok hbl hrB hcur HW.out).mono ?_
            rintro e w5 ⟨rfl, hb5⟩
            have hrB5 := hrB.below hb5
            have hb5 := bthen hb4 (Nat.le_refl _) hb5
            rw [HSh.out]
            go_wp2_with fail
            refine (income_any c _ _ _ B _ _ _ ent cur _ hcn hcc (hc.below hb5) hcok hbl hrB5 hcur HW.out).mono ?_
            rintro e w6 ⟨rfl, hb6⟩
            have hb6 := bthen hb5 (Nat.le_refl _) hb6
            rw [HIn.out]
            go_wp2_with fail
            go_ret
            exact ⟨rfl, hb6⟩
          · have hSh : sheV c B ent cur = .tuple #[.int .i64 0, .int .i64 0, .int .i64 0, errV (kdE c B ent cur)] := if_neg hk
            have hIn : incV c B ent cur = .tuple #[.int .i64 0, .int .i64 0, .int .i64 0, errV (kdE c B ent cur)] := if_neg hk
            rw [errV_n hk] at hSh hIn
            have HSh := hide hSh
            have HIn := hide hIn
            clear hSh hIn hk hP
            go_wp2_with fail
            refine (sheet_any c _ _ _ B _ _ _ ent cur _ hcn hcc (hc.below hb4) hcok hbl hrB hcur HW.out).mono ?_
            rintro e w5 ⟨rfl, hb5⟩
            have hrB5 := hrB.below hb5
            have hb5 := bthen hb4 (Nat.le_refl _) hb5
            rw [HSh.out]
            go_wp2_with fail
            refine (income_any c _ _ _ B _ _ _ ent cur _ hcn hcc (hc.below hb5) hcok hbl hrB5 hcur HW.out).mono ?_
            rintro e w6 ⟨rfl, hb6⟩
            have hb6 := bthen hb5 (Nat.le_refl _) hb6
            rw [HIn.out]
            go_wp2_with fail
            go_quiet (fail)
            go_wp2_with fail
            go_ret
            exact ⟨rfl, bdrewN hb6 _⟩
    · have k1 : ¬ (i : Int) < (ln : Int) := by omega
      have hgl : (goodTo c L i).length ≤ 60 := Nat.le_trans (goodTo_len c L i) hi60
      go_wp2_with fail
      obtain ⟨VA, vc, rfl, hvc, hvm⟩ := hown.form
      have hrd := hown.rd entEnc_ok
      refine (balances_any (goodTo c L i) _ _ _ _ hgl hrd (fun e he => ((hLok e (goodTo_mem he).1).2.2.2.1).below hbW) (fun e he => HSm.out e (goodTo_mem he).1 (goodTo_mem he).2)).mono ?_
      clear hrd hown
      rintro e w4 ⟨⟨_, rfl⟩ | ⟨_, v, rfl, hownB⟩, hb4⟩
      · go_wp2_with fail
        go_ret
        exact ⟨rfl, bthen hbW (Nat.le_refl _) hb4⟩
      · obtain ⟨BA, bc, rfl, hbc, hbm⟩ := hownB.form
        have hrB := hownB.rd balEnc_ok
        have hP := HPl.out i hi60
        obtain ⟨B, hB⟩ : ∃ B, B = netB (balsOf ((goodTo c L i).map Ent.core)) := ⟨_, rfl⟩
        rw [← hB] at hrB hP hbc ⊢
        have hbl : B.length ≤ 9223372036854775807 := by unfold maxLen at hbm; omega
        have hb4 := bthen hbW (Nat.le_refl _) hb4
        clear hownB hB
        have HW := hide (fun e => (hP e).1)
        by_cases hk : kdE c B ent cur = 0
        · obtain ⟨hw, hsum⟩ := hP hk
          have v1 := hw 1 (by omega)
          have v2 := hw 2 (by omega)
          have v3 := hw 3 (by omega)
          have v4 := hw 4 (by omega)
          have v5 := hw 5 (by omega)
          have hSh : sheV c B ent cur = .tuple #[.int .i64 (ksum c B ent cur 1), .int .i64 (-(ksum c B ent cur 2)), .int .i64 (-(ksum c B ent cur 3) - ksum c B ent cur 4 - ksum c B ent cur 5), .nilIface] := if_pos hk
          have hIn : incV c B ent cur = .tuple #[.int .i64 (-(ksum c B ent cur 4)), .int .i64 (ksum c B ent cur 5), .int .i64 (-(ksum c B ent cur 4) - ksum c B ent cur 5), .nilIface] := if_pos hk
          unfold Wide at v1 v2 v3 v4 v5
          generalize ksum c B ent cur 1 = s1 at *
          generalize ksum c B ent cur 2 = s2 at *
          generalize ksum c B ent cur 3 = s3 at *
          generalize ksum c B ent cur 4 = s4 at *
          generalize ksum c B ent cur 5 = s5 at *
          have HSh := hide hSh
          have HIn := hide hIn
          have x1 : IntKind.i64.wrap (-s2 + (-s3 - s4 - s5)) = s1 := by rw [IntWalk.i64_in _ (by omega)]; omega
          have x2 : IntKind.i64.wrap (-s4 - s5) = -s4 - s5 := IntWalk.i64_in _ (by omega)
          clear hSh hIn hw hk hP hsum
          go_wp2_with fail
          refine (sheet_any c _ _ _ B _ _ _ ent cur _ hcn hcc (hc.below hb4) hcok hbl hrB hcur HW.out).mono ?_
          rintro e w5 ⟨rfl, hb5⟩
          have hrB5 := hrB.below hb5
          have hb5 := bthen hb4 (Nat.le_refl _) hb5
          rw [HSh.out]
          go_wp2_with fail
          refine (income_any c _ _ _ B _ _ _ ent cur _ hcn hcc (hc.below hb5) hcok hbl hrB5 hcur HW.out).mono ?_
          rintro e w6 ⟨rfl, hb6⟩
          have hb6 := bthen hb5 (Nat.le_refl _) hb6
          rw [HIn.out]
          go_wp2_with fail
          go_ret
          exact ⟨rfl, hb6⟩
        · have hSh : sheV c B ent cur = .tuple #[.int .i64 0, .int .i64 0, .int .i64 0, errV (kdE c B ent cur)] := if_neg hk
          have hIn : incV c B ent cur = .tuple #[.int .i64 0, .int .i64 0, .int .i64 0, errV (kdE c B ent cur)] := if_neg hk
          rw [errV_n hk] at hSh hIn
          have HSh := hide hSh
          have HIn := hide hIn
          clear hSh hIn hk hP
          go_wp2_with fail
          refine (sheet_any c _ _ _ B _ _ _ ent cur _ hcn hcc (hc.below hb4) hcok hbl hrB hcur HW.out).mono ?_
          rintro e w5 ⟨rfl, hb5⟩
          have hrB5 := hrB.below hb5
          have hb5 := bthen hb4 (Nat.le_refl _) hb5
          rw [HSh.out]
          go_wp2_with fail
          refine (income_any c _ _ _ B _ _ _ ent cur _ hcn hcc (hc.below hb5) hcok hbl hrB5 hcur HW.out).mono ?_
          rintro e w6 ⟨rfl, hb6⟩
          have hb6 := bthen hb5 (Nat.le_refl _) hb6
          rw [HIn.out]
          go_wp2_with fail
          go_quiet (fail)
          go_wp2_with fail
          go_ret
          exact ⟨rfl, bdrewN hb6 _⟩
end Go.Proofs.YthmjkhlndphldaaGreatDoor

namespace Go.Proofs.YthmjkhlndphldaaGreatDoor
open Go Go.RowKit
set_option linter.unusedVariables false

theorem inB_le {a b x : Int} (h : inB a b x = true) : a ≤ x ∧ x ≤ b := by simpa [inB] using h
theorem right_small {c : List Acc} {w : World} {e : Ent} (hf : EntFits w e) (hz : entE c e.ref e.ent e.per e.lines = 0) : Small (Ent.core e) := by
  have hr := entE_right hz
  have h1 := inB_le hr.per
  have h2 := inB_le hr.ent
  have hl : ∀ x, x ∈ e.lines → inB (-1000000000000000) 1000000000000000 x.amt = true := fun x hx => by
    have h3 := (lineE_ok (linesE_0 hr.lines x hx)).2.2.2
    unfold farB at h3
    simpa [inB] using h3
  refine ⟨h1.2, hr.high, hl, fun y hy => ?_⟩
  unfold coreBals at hy
  obtain ⟨x, hx, rfl⟩ := List.mem_map.1 hy
  have hb := hf.2.2.2.2.1 x hx
  exact ⟨⟨by show -9223372036854775808 ≤ e.ent; omega, by show e.ent ≤ 9223372036854775807; omega⟩, hb.1, hb.2⟩
/-- of a good entry, every account is a leaf of the chart -/
theorem right_leaf {c : List Acc} {e : Ent} (hz : entE c e.ref e.ent e.per e.lines = 0) : ∀ y, y ∈ coreBals (Ent.core e) → leafE c y.acc = 0 := by
  intro y hy
  unfold coreBals at hy
  obtain ⟨x, hx, rfl⟩ := List.mem_map.1 hy
  exact (lineE_ok (linesE_0 (entE_right hz).lines x hx)).1
/-- what is set for the accounts is how much there is of each -/
theorem amtTo_tot {c : List Acc} (hch : chartE c = 0) {l : List Bal} (hs : SSortB l) (ent : Int) (cur : ByteArray) : ∀ k, k ≤ l.length → amtTo c l ent cur k = c.map fun a => totB (l.take k) ⟨ent, a.code, cur⟩ := by
  intro k
  induction k with
  | zero =>
    intro _
    have hz : c.map (fun _ => (0 : Int)) = List.replicate c.length 0 := List.map_const'
    show List.replicate c.length 0 = c.map fun _ => (0 : Int)
    rw [hz]
  | succ k ih =>
    intro hk
    have hkl : k < l.length := by omega
    have e := ih (by omega)
    rw [amtTo_succ hkl, e]
    have ht : ∀ p, totB (l.take (k + 1)) p = totB (l.take k) p + (if l[k].pl = p then l[k].amt else 0) := fun p => by
      rw [List.take_succ_eq_append_getElem hkl, totB_append]
      simp [totB]
    have hnone : totB (l.take k) l[k].pl = 0 := totB_none (by
      rintro ⟨y, hy, e⟩
      obtain ⟨j, hj, rfl⟩ := List.getElem_of_mem hy
      rw [List.length_take] at hj
      rw [List.getElem_take] at e
      have := List.pairwise_iff_getElem.1 hs j k (by omega) hkl (by omega)
      exact Pl.ne this e)
    have hpl : ∀ a : Acc, l[k].pl = (⟨ent, a.code, cur⟩ : Pl) ↔ wantB ent cur l[k] = true ∧ a.code = l[k].acc := fun a => by
      unfold wantB Bal.pl
      rw [Pl.mk.injEq, Bool.and_eq_true, beq_iff_eq, beq_iff_eq]
      constructor
      · rintro ⟨h1, h2, h3⟩; exact ⟨⟨h1, by rw [h3]⟩, h2.symm⟩
      · rintro ⟨⟨h1, h3⟩, h2⟩; exact ⟨h1, h2.symm, toList_inj h3⟩
    unfold amtStep
    by_cases hw : wantB ent cur l[k] = true
    · rw [if_pos hw]
      cases hi : idxO c l[k].acc with
      | none =>
        refine List.map_congr_left fun a ha => ?_
        rw [ht, if_neg]
        · omega
        · intro h
          have h2 := ((hpl a).1 h).2
          unfold idxO at hi
          have := List.findIdx?_eq_none_iff.1 hi a ha
          rw [h2] at this
          simp at this
      | some i =>
        unfold idxO at hi
        rw [List.findIdx?_eq_some_iff_getElem] at hi
        obtain ⟨hil, ei, _⟩ := hi
        have ei := toList_inj (beq_iff_eq.1 ei)
        refine List.ext_getElem (by simp) fun j h1 h2 => ?_
        have hj : j < c.length := by simpa using h2
        rw [List.getElem_set, List.getElem_map, List.getElem_map, ht]
        by_cases hij : i = j
        · subst hij
          have hp := (hpl c[i]).2 ⟨hw, ei⟩
          rw [if_pos rfl, if_pos hp, ← hp, hnone]; omega
        · rw [if_neg hij, if_neg]
          · omega
          · intro h
            have h3 := ((hpl c[j]).1 h).2
            exact hij (ch_inj hch i j hil hj (by rw [ei, h3]))
    · rw [if_neg hw]
      refine List.map_congr_left fun a ha => ?_
      rw [ht, if_neg (fun h => hw ((hpl a).1 h).1)]; omega

/-- the lines of one entry, over all accounts: what they sum to -/
theorem core_sum {c : List Acc} (hu : Uniq c) (ent : Int) (cur : ByteArray) (e0 : Int) : ∀ L : List Line, (∀ x, x ∈ L → ∃ a, a ∈ c ∧ a.code = x.acc) →
    (c.map fun a => totB (L.map fun y => (⟨e0, y.acc, y.cur, y.amt⟩ : Bal)) ⟨ent, a.code, cur⟩).sum = if e0 = ent then tot (L.map blank) ⟨⟨#[]⟩, cur⟩ else 0 := by
  intro L
  induction L with
  | nil =>
    intro _
    refine (sum_map_zero c).trans ?_
    split <;> rfl
  | cons x L ih =>
    intro h
    have hk : (blank x).key = (⟨⟨#[]⟩, cur⟩ : Key) ↔ x.cur = cur := by
      unfold blank Line.key
      simp
    have ha : (blank x).amt = x.amt := rfl
    have e : (c.map fun a => totB ((x :: L).map fun y => (⟨e0, y.acc, y.cur, y.amt⟩ : Bal)) ⟨ent, a.code, cur⟩) =
        c.map fun a => (if a.code = x.acc then (if e0 = ent ∧ x.cur = cur then x.amt else 0) else 0) + totB (L.map fun y => (⟨e0, y.acc, y.cur, y.amt⟩ : Bal)) ⟨ent, a.code, cur⟩ := by
      refine List.map_congr_left fun a _ => ?_
      rw [List.map_cons, totB]
      congr 1
      have hp : ((⟨e0, x.acc, x.cur, x.amt⟩ : Bal).pl = (⟨ent, a.code, cur⟩ : Pl)) ↔ e0 = ent ∧ x.acc = a.code ∧ x.cur = cur := by unfold Bal.pl; rw [Pl.mk.injEq]
      by_cases e1 : a.code = x.acc
      · rw [if_pos e1]
        by_cases e2 : e0 = ent ∧ x.cur = cur
        · rw [if_pos e2, if_pos (hp.2 ⟨e2.1, e1.symm, e2.2⟩)]
        · rw [if_neg e2, if_neg (fun e3 => e2 ⟨(hp.1 e3).1, (hp.1 e3).2.2⟩)]
      · rw [if_neg e1, if_neg (fun e3 => e1 (hp.1 e3).2.1.symm)]
    rw [e, sum_map_add, hit_one _ c hu (h x (by simp)), ih fun y hy => h y (List.mem_cons_of_mem _ hy), List.map_cons, tot, ha]
    by_cases h1 : e0 = ent
    · rw [if_pos h1, if_pos h1]
      by_cases h2 : x.cur = cur
      · rw [if_pos ⟨h1, h2⟩, if_pos (hk.2 h2)]
      · rw [if_neg (fun e3 => h2 e3.2), if_neg (fun e3 => h2 (hk.1 e3))]
    · rw [if_neg h1, if_neg h1, if_neg (fun e3 => h1 e3.1)]; rfl
theorem cores_sum {c : List Acc} (ent : Int) (cur : ByteArray) : ∀ G : List Ent, (∀ e, e ∈ G → entE c e.ref e.ent e.per e.lines = 0) → (c.map fun a => totB (balsOf (G.map Ent.core)) ⟨ent, a.code, cur⟩).sum = 0 := by
  intro G
  induction G with
  | nil => intro _; exact sum_map_zero c
  | cons e G ih =>
    intro h
    have hr := entE_right (h e (by simp))
    have e1 : (c.map fun a => totB (balsOf ((e :: G).map Ent.core)) ⟨ent, a.code, cur⟩) = c.map fun a => totB (e.lines.map fun y => (⟨e.ent, y.acc, y.cur, y.amt⟩ : Bal)) ⟨ent, a.code, cur⟩ + totB (balsOf (G.map Ent.core)) ⟨ent, a.code, cur⟩ := by
      refine List.map_congr_left fun a _ => ?_
      rw [← totB_append]; rfl
    rw [e1, sum_map_add, ih fun y hy => h y (List.mem_cons_of_mem _ hy), core_sum (ch_uniq hr.chart) ent cur e.ent e.lines (fun x hx => leaf_in (lineE_ok (linesE_0 hr.lines x hx)).1), notZ_tot hr.zero]
    split <;> rfl

/-- without its sign -/
def ab (x : Int) : Int := max x (-x)
theorem sum_map_le {f g : Acc → Int} : ∀ c : List Acc, (∀ a, a ∈ c → f a ≤ g a) → (c.map f).sum ≤ (c.map g).sum := by
  intro c
  induction c with
  | nil => intro _; exact Int.le_refl _
  | cons a c ih =>
    intro h
    have h1 := ih fun b hb => h b (List.mem_cons_of_mem _ hb)
    have h2 := h a (by simp)
    simp only [List.map_cons, List.sum_cons]
    omega
theorem abs_sum {c : List Acc} (hu : Uniq c) (ent : Int) (cur : ByteArray) : ∀ S : List Bal, (∀ y, y ∈ S → -1000000000000000 ≤ y.amt ∧ y.amt ≤ 1000000000000000) →
    (c.map fun a => ab (totB S ⟨ent, a.code, cur⟩)).sum ≤ 1000000000000000 * (S.length : Int) := by
  intro S
  induction S with
  | nil =>
    intro _
    have : (c.map fun a => ab (totB [] ⟨ent, a.code, cur⟩)) = c.map fun _ => (0 : Int) := rfl
    rw [this, sum_map_zero]; simp
  | cons x S ih =>
    intro h
    have h1 := ih fun y hy => h y (List.mem_cons_of_mem _ hy)
    have h2 := h x (by simp)
    have h3 : (c.map fun a => ab (totB (x :: S) ⟨ent, a.code, cur⟩)).sum ≤ (c.map fun a => (if a.code = x.acc then ab x.amt else 0) + ab (totB S ⟨ent, a.code, cur⟩)).sum := by
      refine sum_map_le c fun a _ => ?_
      have hp : (x.pl = (⟨ent, a.code, cur⟩ : Pl)) ↔ x.ent = ent ∧ x.acc = a.code ∧ x.cur = cur := by unfold Bal.pl; rw [Pl.mk.injEq]
      show ab ((if x.pl = _ then x.amt else 0) + _) ≤ _
      generalize totB S ⟨ent, a.code, cur⟩ = t
      by_cases e : a.code = x.acc
      · rw [if_pos e]
        unfold ab
        split <;> omega
      · rw [if_neg e, if_neg (fun e3 => e (hp.1 e3).2.1.symm)]
        unfold ab
        omega
    have h4 : (c.map fun a => if a.code = x.acc then ab x.amt else 0).sum ≤ 1000000000000000 := by
      by_cases hm : ∃ a, a ∈ c ∧ a.code = x.acc
      · rw [hit_one _ c hu hm]; unfold ab; omega
      · rw [hit_none _ (fun a ha e => hm ⟨a, ha, e⟩)]; omega
    rw [sum_map_add] at h3
    rw [List.length_cons]
    omega
theorem kind_abs (c : List Acc) (am : List Int) (k i : Nat) (hi : i ≤ c.length) (ha : c.length ≤ am.length) : ab (kindTo c am i k).sum ≤ ((am.take i).map ab).sum := by
  induction i with
  | zero => simp [kindTo, ab]
  | succ i ih =>
    have h1 := ih (by omega)
    have hc : i < c.length := by omega
    have hm : i < am.length := by omega
    rw [List.take_succ_eq_append_getElem hm, List.map_append, List.sum_append, kindTo_succ _ hc hm, List.sum_append]
    simp only [List.map_cons, List.map_nil, List.sum_cons, List.sum_nil]
    generalize ((am.take i).map ab).sum = s at *
    generalize (kindTo c am i k).sum = t at *
    generalize am[i] = u
    by_cases e : c[i].kind = (k : Int)
    · rw [if_pos e]
      simp only [List.sum_cons, List.sum_nil]
      unfold ab at *
      omega
    · rw [if_neg e]
      simp only [List.sum_nil]
      unfold ab at *
      omega

theorem kdE_0 {c : List Acc} {l : List Bal} {ent : Int} {cur : ByteArray} (h : kdE c l ent cur = 0) : rcE c l ent = 0 := by
  by_cases h1 : rcE c l ent = 0
  · exact h1
  · rw [kdE_1 h1] at h; exact absurd h h1
/-- of good entries, few enough, no kind has much, and all of them together have nothing -/
theorem good_plain {c : List Acc} {w : World} {ent : Int} {cur : ByteArray} {G : List Ent} (hG : ∀ e, e ∈ G → EntFits w e ∧ entE c e.ref e.ent e.per e.lines = 0) (hl : G.length ≤ 60) (hk : kdE c (netB (balsOf (G.map Ent.core))) ent cur = 0) :
    (∀ k, k < 6 → Wide (ksum c (netB (balsOf (G.map Ent.core))) ent cur k)) ∧
      ksum c (netB (balsOf (G.map Ent.core))) ent cur 1 + ksum c (netB (balsOf (G.map Ent.core))) ent cur 2 + ksum c (netB (balsOf (G.map Ent.core))) ent cur 3 + ksum c (netB (balsOf (G.map Ent.core))) ent cur 4 + ksum c (netB (balsOf (G.map Ent.core))) ent cur 5 = 0 := by
  have hch := (rcE_0 (kdE_0 hk)).1
  have hu := ch_uniq hch
  obtain ⟨s1, s2⟩ := small_of (cs := G.map Ent.core) (fun x hx => by
    obtain ⟨e, he, rfl⟩ := List.mem_map.1 hx
    exact right_small (hG e he).1 (hG e he).2)
  rw [List.length_map] at s1
  have h0 := cores_sum (c := c) ent cur G (fun e he => (hG e he).2)
  obtain ⟨S, hS⟩ : ∃ S, S = balsOf (G.map Ent.core) := ⟨_, rfl⟩
  rw [← hS] at s1 s2 h0 ⊢
  have ha := amtTo_tot hch (netB_sort S) ent cur (netB S).length (Nat.le_refl _)
  rw [List.take_length] at ha
  simp only [netB_tot] at ha
  unfold ksum
  obtain ⟨am, ham⟩ : ∃ am, am = amtTo c (netB S) ent cur (netB S).length := ⟨_, rfl⟩
  rw [← ham] at ha ⊢
  have hal : am.length = c.length := by rw [ha, List.length_map]
  have hb := abs_sum hu ent cur S (fun y hy => (s2 y hy).1)
  have hb2 : (am.map ab).sum ≤ 1000000000000000 * (S.length : Int) := by
    rw [ha, List.map_map]; exact hb
  constructor
  · intro k _
    have := kind_abs c am k c.length (Nat.le_refl _) (by omega)
    rw [List.take_of_length_le (by omega)] at this
    have h5 : ∀ x, -ab x ≤ x ∧ x ≤ ab x := fun x => by unfold ab; omega
    have := h5 (kindTo c am c.length k).sum
    unfold Wide
    omega
  · have := kinds_sum c am c.length (Nat.le_refl _) (by omega) (fun j hj => ⟨(ch_good hch j hj).lo, (ch_good hch j hj).hi⟩)
    rw [List.take_of_length_le (by omega)] at this
    rw [this, ha]; exact h0

/-- the law, walked, with nothing further asked -/
theorem repEven_any (c : List Acc) (CA : Option Addr) (cn ccap : Nat) (L : List Ent) (LA : Option Addr) (ln lcap : Nat) (ent : Int) (cur : ByteArray) (w : World)
    (hcc : cn ≤ ccap) (hcm : ccap ≤ maxLen) (hc : Accs w CA cn c) (hcok : AccOk c) (hlc : ln ≤ lcap) (hlm : lcap ≤ maxLen) (hL : Rd w 4 Ent.enc LA ln L) (hLok : ∀ e, e ∈ L → EntFits w e) (hcur : cur.size ≤ maxLen) :
    Calls Tryz.prog 8 #[.slice CA cn ccap, .slice LA ln lcap, .int .i64 ent, .string cur] w
      fun e w' => e = .returned (.bool true) ∧ Below w.heap.size w w' :=
  repEven_walk c CA cn ccap L LA ln lcap ent cur w (by unfold maxLen at hcm; omega) hcc hc hcok (by unfold maxLen at hlm; omega) hL hLok (by unfold maxLen at hcur; omega) (fun e he hz => right_small (hLok e he) hz)
    (fun i hi hk => good_plain (w := w) (fun e he => ⟨hLok e (goodTo_mem he).1, (goodTo_mem he).2⟩) (Nat.le_trans (goodTo_len c L i) hi) hk)
end Go.Proofs.YthmjkhlndphldaaGreatDoor
