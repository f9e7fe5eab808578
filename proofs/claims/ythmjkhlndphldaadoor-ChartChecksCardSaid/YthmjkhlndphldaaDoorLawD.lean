/- The statement ChartChecks where the chart is well made. -/
import Derived.Test.YthmjkhlndphldaaDoorLawC
namespace Go.Proofs.YthmjkhlndphldaaDoor
open Go Go.RowKit
set_option linter.unusedVariables false

set_option maxHeartbeats 4000000 in
set_option maxRecDepth 100000 in
theorem checks_none (l : List Acc) (c : ByteArray) (A : Option Addr) (cap : Nat) (w : World) (hcap : l.length ≤ cap) (ha : Accs w A l.length l) (hok : AccOk l) (hg : ErrTy w) (he : chartE l = 0) (hi : idxO l c = none) :
    Calls Tryd.prog 4 #[.slice A l.length cap, .string c] w fun e w' => e = .returned (.bool true) ∧ Below w.heap.size w w' := by
  obtain ⟨i0, hi0, hz0, hz1, hz2⟩ := info_parts str_info
  have HE := hide he
  have hl : l.length ≤ 60 := chartE_len he
  have HI : Hid (idxI l c = -1) := by show idxI l c = -1; simp [idxI, hi]
  have HN := hide hi
  clear he hi
  go_enter Tryd.func4, Tryd.ntmps4
  go_wp2_with fail
  refine (refChart_any l _ _ _ _ (by omega) hcap ha hok).mono ?_
  rintro e w1 ⟨rfl, hb1⟩
  rw [HE.out]
  go_wp2_with fail
  refine (check_ok l _ _ _ _ (by omega) hcap (ha.below hb1) hok HE.out).mono ?_
  rintro e w2 ⟨rfl, hb2⟩
  have hb2 := bthen hb1 (Nat.le_refl _) hb2
  go_wp2_with fail
  refine (error_any 0 0 _ (hg.below hb2) (by omega) (by omega)).mono ?_
  rintro e w3 ⟨rfl, hb3⟩
  have hb3 := bthen hb2 (Nat.le_refl _) hb3
  go_wp2_with fail
  refine (refPrint_ok l _ _ _ ((ha.below hb3).alloc _) HE.out).mono ?_
  rintro e w4 ⟨rfl, hb4'⟩
  have hf4 : AccAt w4 w3.heap.size ⟨⟨#[]⟩, ⟨#[]⟩, 0, ⟨#[]⟩, false⟩ := (AccAt.new w3 _).below hb4'
  have hb4 := bthen hb3 (Nat.le_refl _) (bof_alloc hb4')
  have hc4 : w3.heap.size < w4.heap.size := Nat.lt_of_lt_of_le (by simp) hb4'.size
  clear hb4'
  go_wp2_with fail
  refine (refAt_any l c _ _ _ _ (by omega) (ha.below hb4)).mono ?_
  rintro e w5 ⟨rfl, rfl⟩
  rw [HI.out]
  go_wp2_with fail
  go_loopw [8, 9, 13] (fun v uv iv wr => ∃ k : Nat, k ≤ l.length ∧ iv = .int .i64 k ∧ uv = .slice none 0 0 ∧ Own wr w4.heap.size 9 1 strEnc v (leavesTo l k) ∧ Below w4.heap.size w4 wr) (fun _ _ iv _ => l.length - (intOf iv).toNat)
  case atStart => exact ⟨0, by omega, rfl, rfl, Own.nil _ _ _ _ _, Below.refl _ _⟩
  case round =>
    obtain ⟨k, hk, rfl, rfl, hown, hb⟩ := hrel
    by_cases hlt : k < l.length
    · have har := (ha.below hb4).below hb
      obtain ⟨b, off, rfl, hcs⟩ := har.at_ (by omega)
      have h0 := (hcs k hlt).1
      clear hcs
      have hL := leavesTo_len l k
      have hsz := hb.size
      go_wp2_with fail
      refine (refLeaf_any l _ _ _ _ _ (by omega) har).mono ?_
      rintro e w6 ⟨rfl, rfl⟩
      by_cases he : leafE l l[k].code = 0
      · have HL := hide he
        rw [he]
        clear he
        go_wp2_with (first | (at_builtin; go_loud (refine wpList_push _ rfl _ _ 23 rfl w4.heap.size 9 i0 (.string ⟨#[]⟩) 1 16 Tryd.underlying23 hi0 hz0 hz1 hz2 rfl (by decide) strEnc_ok _ (leavesTo l k) rfl (hown.alloc _) _ 1 1 [l[k].code] rfl (Rd.boxed _ strEnc_ok _ _ _ rfl) (by intro h; cases h) (by simp only [maxLen]; omega) (by omega) (by simp; omega) ?_); intro v' w7 hown7 hg7 hat7))
        go_roundw
        case rel => exact ⟨k + 1, by omega, by go_num, rfl, by rw [leavesTo_yes hlt HL.out]; exact hown7, bpush hb hsz hg7 (fun k hk => (hown.block k hk).1)⟩
        case measure => simp [intOf]; omega
      · have HL := hide he
        have hz : (leafE l l[k].code == 0) = false := by simpa using he
        clear he
        go_wp2_with fail
        go_roundw
        case rel => exact ⟨k + 1, by omega, by go_num, rfl, by rw [leavesTo_no hlt HL.out]; exact hown, hb⟩
        case measure => simp [intOf]; omega
    · have hkl : k = l.length := by omega
      subst hkl
      have hbw := bthen hb4 (Nat.le_refl _) hb
      have hfr := hf4.below hb
      obtain ⟨VA, vc, rfl, hvc, hvm⟩ := hown.form
      have hvs := hown.rd strEnc_ok
      clear hown
      go_wp2_with fail
      refine (print_ok l _ _ _ hcap (ha.below hbw) hok HE.out).mono ?_
      rintro e w8 ⟨rfl, hb8⟩
      have hf8 := hfr.below hb8
      have hv8 := Strs.below hvs hb8
      have hb8 := bthen hbw (Nat.le_refl _) hb8
      go_wp2_with fail
      refine (error_any 0 0 _ (hg.below hb8) (by omega) (by omega)).mono ?_
      rintro e w9 ⟨rfl, hb9⟩
      have hf9 := hf8.below hb9
      have hv9 := Strs.below hv8 hb9
      have hb9 := bthen hb8 (Nat.le_refl _) hb9
      go_wp2_with fail
      refine (leaves_ok l _ _ _ _ hl hcap (ha.below hb9) hok HE.out).mono ?_
      rintro e w10 ⟨GA, gc, rfl, hgc, hgm, hgr, hb10⟩
      have hf10 := hf9.below hb10
      have hv10 := Strs.below hv9 hb10
      have hb10 := bthen hb9 (Nat.le_refl _) hb10
      go_wp2_with fail
      refine (error_any 0 0 _ (hg.below hb10) (by omega) (by omega)).mono ?_
      rintro e w11 ⟨rfl, hb11⟩
      have hf11 := hf10.below hb11
      have hv11 := Strs.below hv10 hb11
      have hg11 := Strs.below hgr hb11
      have hb11 := bthen hb10 (Nat.le_refl _) hb11
      go_wp2_with fail
      refine (find_none l c _ _ _ _ hl hcap (ha.below hb11) hok HE.out HN.out).mono ?_
      rintro e w12 ⟨rfl, hb12⟩
      unfold noAcc
      have hf12 := hf11.below hb12
      have hv12 := Strs.below hv11 hb12
      have hg12 := Strs.below hg11 hb12
      have hb12 := bthen hb11 (Nat.le_refl _) hb12
      go_wp2_with fail
      refine (error_is 6 _ ((hg.below hb12).below ((Below.refl _ _).alloc (Nat.le_refl _) _)) (by omega) (by omega) (by omega)).mono ?_
      rintro e w13 ⟨rfl, hb13'⟩
      have hx13 : AccAt w13 w12.heap.size ⟨⟨#[]⟩, ⟨#[]⟩, 0, ⟨#[]⟩, false⟩ := (AccAt.new w12 _).below hb13'
      have hf13 := hf12.below (bof_alloc hb13')
      have hv13 := Strs.below hv12 (bof_alloc hb13')
      have hg13 := Strs.below hg12 (bof_alloc hb13')
      have hb13 := bthen hb12 (Nat.le_refl _) (bof_alloc hb13')
      clear hb13'
      go_wp2_with fail
      refine (under_none l c _ _ _ _ hl hcap (ha.below hb13) hok HE.out HN.out).mono ?_
      rintro e w14 ⟨rfl, hb14⟩
      have hf14 := hf13.below hb14
      have hx14 := hx13.below hb14
      have hv14 := Strs.below hv13 hb14
      have hg14 := Strs.below hg13 hb14
      have hb14 := bthen hb13 (Nat.le_refl _) hb14
      go_wp2_with fail
      refine (error_is 6 _ (hg.below hb14) (by omega) (by omega) (by omega)).mono ?_
      rintro e w15 ⟨rfl, hb15⟩
      have hf15 := hf14.below hb15
      have hx15 := hx14.below hb15
      have hv15 := Strs.below hv14 hb15
      have hg15 := Strs.below hg14 hb15
      have hb15 := bthen hb14 (Nat.le_refl _) hb15
      go_wp2_with fail
      refine (texts_same (leavesTo l l.length) _ _ _ _ _ _ (Nat.le_trans (leavesTo_len l l.length) (by omega)) hg15 hv15).mono ?_
      rintro e w16 ⟨rfl, hb16⟩
      have hf16 := hf15.below hb16
      have hx16 := hx15.below hb16
      have hb16 := bthen hb15 (Nat.le_refl _) hb16
      go_wp2_with fail
      refine (texts_none _).mono ?_
      rintro e w17 ⟨rfl, hb17⟩
      have hf17 := hf16.below hb17
      have hx17 := hx16.below hb17
      have hb17 := bthen hb16 (Nat.le_refl _) hb17
      obtain ⟨f0, f1, f2, f3, f4⟩ := hf17
      obtain ⟨x0, x1, x2, x3, x4⟩ := hx17
      go_wp2_with fail
      go_ret
      exact ⟨rfl, hb17⟩
end Go.Proofs.YthmjkhlndphldaaDoor
