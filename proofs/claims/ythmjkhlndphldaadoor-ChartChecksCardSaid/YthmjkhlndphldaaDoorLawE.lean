/- The statement ChartChecks where the chart is well made and the code is there. -/
import Derived.Test.YthmjkhlndphldaaDoorLawD
namespace Go.Proofs.YthmjkhlndphldaaDoor
open Go Go.RowKit
set_option linter.unusedVariables false

/-- the account a is written over the five cells at g -/
def putAcc (w : World) (g : Nat) (a : Acc) : World :=
  ((((w.setCell ⟨g, 0, none⟩ (.string a.code)).setCell ⟨g, 1, none⟩ (.string a.name)).setCell ⟨g, 2, none⟩ (.int .i64 a.kind)).setCell ⟨g, 3, none⟩ (.string a.parent)).setCell ⟨g, 4, none⟩ (.bool a.money)
theorem AccAt.put {w : World} {g : Nat} {b : Acc} (h : AccAt w g b) (a : Acc) : AccAt (putAcc w g a) g a := by
  obtain ⟨h0, h1, h2, h3, h4⟩ := h
  unfold AccAt putAcc
  refine ⟨?_, ?_, ?_, ?_, ?_⟩
  all_goals simp [World.cell?_setCell_other, World.cell?_setCell_same, h0, h1, h2, h3, h4]
theorem below_at {B C : Nat} {a b : World} (h : Below C a b) (e : B = C) : Below B a b := e ▸ h
theorem below_putAcc {B g : Nat} {w w1 : World} (h : Below B w w1) (hg : B ≤ g) (a : Acc) : Below B w (putAcc w1 g a) :=
  ((((h.setCell hg _).setCell hg _).setCell hg _).setCell hg _).setCell hg _
theorem Accs.cell5 {w : World} {b off n : Nat} {l : List Acc} (h : Accs w (some ⟨b, off, none⟩) n l) (k : Nat) (hk : k < l.length) :
    w.cell? ⟨b, off + k * 5, none⟩ = some (.string l[k].code) ∧ w.cell? ⟨b, off + k * 5 + 1, none⟩ = some (.string l[k].name) ∧ w.cell? ⟨b, off + k * 5 + 2, none⟩ = some (.int .i64 l[k].kind) ∧
    w.cell? ⟨b, off + k * 5 + 3, none⟩ = some (.string l[k].parent) ∧ w.cell? ⟨b, off + k * 5 + 4, none⟩ = some (.bool l[k].money) := by
  obtain ⟨b', off', e, hc⟩ := h.at_ (by have := h.1; omega)
  obtain ⟨rfl, rfl⟩ : b = b' ∧ off = off' := by simpa using e
  exact hc k hk
/-- two slices of the call's own that share no block -/
def Apart (v u : Value) : Prop := ∀ k, v.ownBlock = some k → u.ownBlock ≠ some k
theorem Apart.row {v u : Value} (h : Apart v u) : v.ownBlock = none ∨ v.ownBlock ≠ u.ownBlock := by
  cases hv : v.ownBlock with
  | none => exact .inl rfl
  | some k => exact .inr fun e => h k hv e.symm
theorem Apart.nil (u : Value)   : Apart (.slice none 0 0) u := fun k hk => by cases hk
theorem Apart.symm {v u : Value} (h : Apart v u) : Apart u v := fun k hu hv => h k hv hu
theorem Apart.push {v v' u : Value} {n : Nat} (h : Apart v u) (ha : v'.ownBlock = v.ownBlock ∨ v'.ownBlock = some n) (hu : ∀ k, u.ownBlock = some k → k < n) : Apart v' u := by
  intro k hk e
  rcases ha with ha | ha
  · exact h k (by rw [← ha]; exact hk) e
  · rw [ha] at hk
    injection hk with hk
    have := hu k e
    omega

set_option maxHeartbeats 4000000 in
set_option maxRecDepth 100000 in
theorem checks_some (l : List Acc) (c : ByteArray) (i : Nat) (A : Option Addr) (cap : Nat) (w : World) (hcap : l.length ≤ cap) (ha : Accs w A l.length l) (hok : AccOk l) (hg : ErrTy w) (he : chartE l = 0) (hi : idxO l c = some i) (hil : i < l.length) :
    Calls Tryd.prog 4 #[.slice A l.length cap, .string c] w fun e w' => e = .returned (.bool true) ∧ Below w.heap.size w w' := by
  obtain ⟨t0, ht0, hz0', hz1', hz2'⟩ := info_parts str_info
  have HE := hide he
  have hl : l.length ≤ 60 := chartE_len he
  have HI : Hid (idxI l c = (i : Int)) := by show idxI l c = _; simp [idxI, hi]
  have i0' : (0 : Int) ≤ (i : Int) := by omega
  have i1' : (i : Int) < (l.length : Int) := by omega
  have HN := hide hi
  obtain ⟨b0, off0, rfl, _⟩ := ha.at_ (by omega)
  obtain ⟨p0, p1, p2, p3, p4⟩ := ha.cell5 i hil
  have hb0 : b0 < w.heap.size := World.block_lt_of_cell? _ _ p0
  clear he hi
  go_enter Tryd.func4, Tryd.ntmps4
  go_wp2_with fail
  refine (refChart_any l _ _ _ _ (by omega) hcap ha hok).mono ?_
  rintro e w1 ⟨rfl, hb1⟩
  rw [HE.out]
  go_wp2_with fail
  refine (check_ok l _ _ _ _ (by omega) hcap (ha.below hb1) hok HE.out).mono ?_
  rintro e w2 ⟨rfl, hb2⟩
  have hb2 := bthen hb1 (Nat.le_refl _) hb2
  go_wp2_with fail
  refine (error_any 0 0 _ (hg.below hb2) (by omega) (by omega)).mono ?_
  rintro e w3 ⟨rfl, hb3⟩
  have hb3 := bthen hb2 (Nat.le_refl _) hb3
  go_wp2_with fail
  refine (refPrint_ok l _ _ _ ((ha.below hb3).alloc _) HE.out).mono ?_
  rintro e w4 ⟨rfl, hb4'⟩
  have hf4 : AccAt w4 w3.heap.size ⟨⟨#[]⟩, ⟨#[]⟩, 0, ⟨#[]⟩, false⟩ := (AccAt.new w3 _).below hb4'
  have hb4 := bthen hb3 (Nat.le_refl _) (bof_alloc hb4')
  have hc4 : w3.heap.size < w4.heap.size := Nat.lt_of_lt_of_le (by simp) hb4'.size
  go_wp2_with fail
  refine (refAt_in l c i _ _ _ _ (by omega) (ha.below hb4) HN.out).mono ?_
  rintro e w5 ⟨rfl, rfl⟩
  have hfz : ∀ o, w4.frozen? ⟨w3.heap.size, o, none⟩ = false := fun o => ((bcell hb4').2 _ o (by simp)).trans (by simp)
  have z0 := hfz 0
  have z1 := hfz 1
  have z2 := hfz 2
  have z3 := hfz 3
  have z4 := hfz 4
  have hfA := hf4
  obtain ⟨f0, f1, f2, f3, f4⟩ := hf4
  have q0 := below_cell hb4 hb0 p0
  have q1 := below_cell hb4 hb0 p1
  have q2 := below_cell hb4 hb0 p2
  have q3 := below_cell hb4 hb0 p3
  have q4 := below_cell hb4 hb0 p4
  have hlt3 : b0 < w3.heap.size := Nat.lt_of_lt_of_le hb0 hb3.size
  clear hfz hb4' p0 p1 p2 p3 p4
  go_wp2_with fail
  have hs5 : (putAcc w4 w3.heap.size l[i]).heap.size = w4.heap.size := by simp [putAcc]
  have hb5 : Below w.heap.size w (putAcc w4 w3.heap.size l[i]) := below_putAcc hb4 hb3.size _
  have hfB : AccAt (putAcc w4 w3.heap.size l[i]) w3.heap.size l[i] := hfA.put _
  clear q0 q1 q2 q3 q4 f0 f1 f2 f3 f4 z0 z1 z2 z3 z4
  go_loopw [8, 9, 13] (fun v uv iv wr => ∃ k : Nat, k ≤ l.length ∧ iv = .int .i64 k ∧ Own wr w4.heap.size 9 1 strEnc v (leavesTo l k) ∧ Own wr w4.heap.size 9 1 strEnc uv (underTo l i k) ∧ Apart v uv ∧ Below w4.heap.size (putAcc w4 w3.heap.size l[i]) wr) (fun _ _ iv _ => l.length - (intOf iv).toNat)
  case atStart => exact ⟨0, by omega, rfl, Own.nil _ _ _ _ _, Own.nil _ _ _ _ _, Apart.nil _, Below.refl _ _⟩
  case round =>
    obtain ⟨k, hk, rfl, hown, hownU, hap, hb'⟩ := hrel
    have hb := below_at hb' hs5
    by_cases hlt : k < l.length
    · have har := (ha.below hb5).below hb
      have h0 := (har.cell5 k hlt).1
      have hL := leavesTo_len l k
      have hU := underTo_len l i k
      have hsz := hb.size
      rw [hs5] at hsz
      have hk0 : (0 : Int) ≤ (k : Int) := by omega
      go_wp2_with fail
      refine (refLeaf_any l _ _ _ _ _ (by omega) har).mono ?_
      rintro e w6 ⟨rfl, rfl⟩
      by_cases he : leafE l l[k].code = 0
      · have HL := hide he
        rw [he]
        clear he
        go_wp2_with (first | (at_builtin; go_loud (refine wpList_push _ rfl _ _ 23 rfl w4.heap.size 9 t0 (.string ⟨#[]⟩) 1 16 Tryd.underlying23 ht0 hz0' hz1' hz2' rfl (by decide) strEnc_ok _ (leavesTo l k) rfl (hown.alloc _) _ 1 1 [l[k].code] rfl (Rd.boxed _ strEnc_ok _ _ _ rfl) (by intro h; cases h) (by simp only [maxLen]; omega) (by omega) (by simp; omega) ?_); intro v' w7 hown7 hg7 hat7))
        have hown7U := (hownU.alloc _).grown hg7 hap.symm.row
        have hap7 : Apart v' _ := hap.push hat7 (fun k hk => ((hownU.alloc _).block k hk).2)
        have hb7 := bpush hb' hsz hg7 (fun k hk => (hown.block k hk).1)
        have hb7' := below_at hb7 hs5
        have har7 := (ha.below hb5).below hb7'
        have h07 := (har7.cell5 k hlt).1
        have hsz7 := hb7'.size
        rw [hs5] at hsz7
        go_wp2_with fail
        refine (refIn_any l _ _ _ _ _ har7 HE.out hlt hil).mono ?_
        rintro e w8 ⟨rfl, rfl⟩
        cases hbel : bel l i k with
        | true =>
          have HB := hide hbel
          clear hbel
          go_wp2_with (first | (at_builtin; go_loud (refine wpList_push _ rfl _ _ 23 rfl w4.heap.size 9 t0 (.string ⟨#[]⟩) 1 16 Tryd.underlying23 ht0 hz0' hz1' hz2' rfl (by decide) strEnc_ok _ (underTo l i k) rfl (hown7U.alloc _) _ 1 1 [l[k].code] rfl (Rd.boxed _ strEnc_ok _ _ _ rfl) (by intro h; cases h) (by simp only [maxLen]; omega) (by omega) (by simp; omega) ?_); intro v'' w8 hown8 hg8 hat8))
          have hown8L := (hown7.alloc _).grown hg8 hap7.row
          have hap8 : Apart v'' _ := hap7.symm.push hat8 (fun k hk => ((hown7.alloc _).block k hk).2)
          go_roundw
          case rel => exact ⟨k + 1, by omega, by go_num, by rw [leavesTo_yes hlt HL.out]; exact hown8L, by rw [underTo_yes hlt HB.out]; exact hown8, hap8.symm, bpush hb7 hsz7 hg8 (fun k hk => (hown7U.block k hk).1)⟩
          case measure => simp [intOf]; omega
        | false =>
          have HB := hide hbel
          clear hbel
          go_wp2_with fail
          go_roundw
          case rel => exact ⟨k + 1, by omega, by go_num, by rw [leavesTo_yes hlt HL.out]; exact hown7, by rw [underTo_no HB.out]; exact hown7U, hap7, hb7⟩
          case measure => simp [intOf]; omega
      · have HL := hide he
        have hz : (leafE l l[k].code == 0) = false := by simpa using he
        clear he
        go_wp2_with fail
        refine (refIn_any l _ _ _ _ _ har HE.out hlt hil).mono ?_
        rintro e w8 ⟨rfl, rfl⟩
        cases hbel : bel l i k with
        | true =>
          have HB := hide hbel
          clear hbel
          go_wp2_with (first | (at_builtin; go_loud (refine wpList_push _ rfl _ _ 23 rfl w4.heap.size 9 t0 (.string ⟨#[]⟩) 1 16 Tryd.underlying23 ht0 hz0' hz1' hz2' rfl (by decide) strEnc_ok _ (underTo l i k) rfl (hownU.alloc _) _ 1 1 [l[k].code] rfl (Rd.boxed _ strEnc_ok _ _ _ rfl) (by intro h; cases h) (by simp only [maxLen]; omega) (by omega) (by simp; omega) ?_); intro v'' w8 hown8 hg8 hat8))
          have hown8L := (hown.alloc _).grown hg8 hap.row
          have hap8 : Apart v'' _ := hap.symm.push hat8 (fun k hk => ((hown.alloc _).block k hk).2)
          go_roundw
          case rel => exact ⟨k + 1, by omega, by go_num, by rw [leavesTo_no hlt HL.out]; exact hown8L, by rw [underTo_yes hlt HB.out]; exact hown8, hap8.symm, bpush hb' hsz hg8 (fun k hk => (hownU.block k hk).1)⟩
          case measure => simp [intOf]; omega
        | false =>
          have HB := hide hbel
          clear hbel
          go_wp2_with fail
          go_roundw
          case rel => exact ⟨k + 1, by omega, by go_num, by rw [leavesTo_no hlt HL.out]; exact hown, by rw [underTo_no HB.out]; exact hownU, hap, hb'⟩
          case measure => simp [intOf]; omega
    · have hkl : k = l.length := by omega
      subst hkl
      have hbw := bthen hb5 (Nat.le_refl _) hb
      have hfr := hfB.below hb
      obtain ⟨VA, vc, rfl, hvc, hvm⟩ := hown.form
      have hvs := hown.rd strEnc_ok
      obtain ⟨UA, uc, rfl, huc, hum⟩ := hownU.form
      have hus := hownU.rd strEnc_ok
      clear hown hownU hap hb'
      go_wp2_with fail
      refine (print_ok l _ _ _ hcap (ha.below hbw) hok HE.out).mono ?_
      rintro e w8 ⟨rfl, hb8⟩
      have hf8 := hfr.below hb8
      have hv8 := Strs.below hvs hb8
      have hu8 := Strs.below hus hb8
      have hb8 := bthen hbw (Nat.le_refl _) hb8
      go_wp2_with fail
      refine (error_any 0 0 _ (hg.below hb8) (by omega) (by omega)).mono ?_
      rintro e w9 ⟨rfl, hb9⟩
      have hf9 := hf8.below hb9
      have hv9 := Strs.below hv8 hb9
      have hu9 := Strs.below hu8 hb9
      have hb9 := bthen hb8 (Nat.le_refl _) hb9
      go_wp2_with fail
      refine (leaves_ok l _ _ _ _ hl hcap (ha.below hb9) hok HE.out).mono ?_
      rintro e w10 ⟨GA, gc, rfl, hgc, hgm, hgr, hb10⟩
      have hf10 := hf9.below hb10
      have hv10 := Strs.below hv9 hb10
      have hu10 := Strs.below hu9 hb10
      have hb10 := bthen hb9 (Nat.le_refl _) hb10
      go_wp2_with fail
      refine (error_any 0 0 _ (hg.below hb10) (by omega) (by omega)).mono ?_
      rintro e w11 ⟨rfl, hb11⟩
      have hf11 := hf10.below hb11
      have hv11 := Strs.below hv10 hb11
      have hu11 := Strs.below hu10 hb11
      have hg11 := Strs.below hgr hb11
      have hb11 := bthen hb10 (Nat.le_refl _) hb11
      go_wp2_with fail
      refine (find_ok l c i _ _ _ _ hl hcap (ha.below hb11) hok HE.out HN.out hil).mono ?_
      rintro e w12 ⟨rfl, hb12⟩
      have hf12 := hf11.below hb12
      have hv12 := Strs.below hv11 hb12
      have hu12 := Strs.below hu11 hb12
      have hg12 := Strs.below hg11 hb12
      have hb12 := bthen hb11 (Nat.le_refl _) hb12
      go_wp2_with fail
      refine (error_any 0 0 _ ((hg.below hb12).below ((Below.refl _ _).alloc (Nat.le_refl _) _)) (by omega) (by omega)).mono ?_
      rintro e w13 ⟨rfl, hb13'⟩
      have hx13 : AccAt w13 w12.heap.size l[i] := (AccAt.new w12 _).below hb13'
      have hf13 := hf12.below (bof_alloc hb13')
      have hv13 := Strs.below hv12 (bof_alloc hb13')
      have hu13 := Strs.below hu12 (bof_alloc hb13')
      have hg13 := Strs.below hg12 (bof_alloc hb13')
      have hb13 := bthen hb12 (Nat.le_refl _) (bof_alloc hb13')
      clear hb13'
      go_wp2_with fail
      refine (under_ok l c i _ _ _ _ hl hcap (ha.below hb13) hok HE.out HN.out).mono ?_
      rintro e w14 ⟨QA, qc, rfl, hqc, hqm, hqr, hb14⟩
      have hf14 := hf13.below hb14
      have hx14 := hx13.below hb14
      have hv14 := Strs.below hv13 hb14
      have hu14 := Strs.below hu13 hb14
      have hg14 := Strs.below hg13 hb14
      have hb14 := bthen hb13 (Nat.le_refl _) hb14
      go_wp2_with fail
      refine (error_any 0 0 _ (hg.below hb14) (by omega) (by omega)).mono ?_
      rintro e w15 ⟨rfl, hb15⟩
      have hf15 := hf14.below hb15
      have hx15 := hx14.below hb15
      have hv15 := Strs.below hv14 hb15
      have hu15 := Strs.below hu14 hb15
      have hg15 := Strs.below hg14 hb15
      have hq15 := Strs.below hqr hb15
      have hb15 := bthen hb14 (Nat.le_refl _) hb15
      go_wp2_with fail
      refine (texts_same (leavesTo l l.length) _ _ _ _ _ _ (Nat.le_trans (leavesTo_len l l.length) (by omega)) hg15 hv15).mono ?_
      rintro e w16 ⟨rfl, hb16⟩
      have hf16 := hf15.below hb16
      have hx16 := hx15.below hb16
      have hq16 := Strs.below hq15 hb16
      have hu16 := Strs.below hu15 hb16
      have hb16 := bthen hb15 (Nat.le_refl _) hb16
      go_wp2_with fail
      refine (texts_same (underTo l i l.length) _ _ _ _ _ _ (Nat.le_trans (underTo_len l i l.length) (by omega)) hq16 hu16).mono ?_
      rintro e w17 ⟨rfl, hb17⟩
      have hf17 := hf16.below hb17
      have hx17 := hx16.below hb17
      have hb17 := bthen hb16 (Nat.le_refl _) hb17
      obtain ⟨f0, f1, f2, f3, f4⟩ := hf17
      obtain ⟨x0, x1, x2, x3, x4⟩ := hx17
      go_wp2_with fail
      go_ret
      exact ⟨rfl, hb17⟩
end Go.Proofs.YthmjkhlndphldaaDoor

