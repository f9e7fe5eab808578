/- daylaw3.PairLeaves returns true. -/
import Derived.Test.YthmjkhlndphldaaGreatDoorPairH
import Derived.Test.YthmjkhlndphldaaGreatDoorErrAll
import Derived.Test.YthmjkhlndphldaaGreatDoorPairI
namespace Go.Proofs.YthmjkhlndphldaaGreatDoor
open Go Go.RowKit
set_option linter.unusedVariables false

set_option maxHeartbeats 4000000 in
set_option maxRecDepth 100000 in
/-- daysame.Entries of two lists of entries that say the same -/
theorem ents_same (es al : List Ent) (A M : Option Addr) (n c mc : Nat) (w : World) (hn : n ≤ 9223372036854775807) (ha : Rd w 4 Ent.enc A n es) (hm : Rd w 4 Ent.enc M n al)
    (h1 : ∀ e, e ∈ es → Rd w 3 lineEnc e.A e.n e.lines ∧ e.n ≤ 20) (h2 : ∀ e, e ∈ al → Rd w 3 lineEnc e.A e.n e.lines ∧ e.n ≤ 20) (hs : SameE es al) :
    Calls Tryz.prog 47 #[.slice A n c, .slice M n mc] w fun e w' => e = .returned (.bool true) ∧ Below w.heap.size w w' := by
  have Hn := hide ha.1
  have Hm := hide hm.1
  have Hs := hide hs
  clear hs
  go_enter Tryz.func47, Tryz.ntmps47
  go_wp2_with fail
  go_loopw [5] (fun iv wr => ∃ k : Nat, k ≤ n ∧ iv = .int .i64 k ∧ Below w.heap.size w wr) (fun iv _ => n - (intOf iv).toNat)
  case atStart => exact ⟨0, by omega, rfl, Below.refl _ _⟩
  case round =>
    obtain ⟨k, hk, rfl, hbr⟩ := hrel
    by_cases hlt : k < n
    · have hkl : k < es.length := by have := Hn.out; omega
      have hkm : k < al.length := by have := Hm.out; omega
      obtain ⟨b, off, rfl, hcs⟩ := (Rd.below ha hbr).2 (by omega)
      have q0 := hcs k 0 _ hkl rfl
      have q1 := hcs k 1 _ hkl rfl
      have q2 := hcs k 2 _ hkl rfl
      have q3 := hcs k 3 _ hkl rfl
      rw [Nat.add_zero] at q0
      obtain ⟨b', off', rfl, hcs'⟩ := (Rd.below hm hbr).2 (by omega)
      have s0 := hcs' k 0 _ hkm rfl
      have s1 := hcs' k 1 _ hkm rfl
      have s2 := hcs' k 2 _ hkm rfl
      have s3 := hcs' k 3 _ hkm rfl
      rw [Nat.add_zero] at s0
      clear hcs hcs'
      obtain ⟨hx1, hx2⟩ := h1 _ (List.getElem_mem hkl)
      obtain ⟨hy1, hy2⟩ := h2 _ (List.getElem_mem hkm)
      obtain ⟨t1, t2, t3, t4⟩ := Hs.out.at_ k hkl hkm
      have t5 : es[k].n = al[k].n := by rw [← hx1.1, ← hy1.1, t4]
      rw [← t1] at s0
      rw [← t2] at s1
      rw [← t3] at s2
      rw [← t5] at s3
      rw [← t4, ← t5] at hy1
      have hx3 : es[k].n ≤ 9223372036854775807 := by omega
      clear t1 t2 t3 t4 t5 hy2 hx2
      have hx1 := hx1.below hbr
      have hy1 := hy1.below hbr
      have k0 : (0 : Int) ≤ (k : Int) := by omega
      have k1 : (k : Int) < (n : Int) := by omega
      go_wp2_with fail
      refine wp_region_still_tail 8 (by kernel_rfl) (by kernel_rfl) ?_
      simp only [List.take_succ_cons, List.take_zero, List.drop_succ_cons, List.drop_zero]
      change wpStill _ _ wr.drew _ _ _
      repeat still_step
      refine wpStill_nil ?_
      change wpList _ _ _ _ _ wr.drew
      go_wp2_with fail
      refine (entry_same es[k].ref es[k].ent es[k].per es[k].lines _ _ _ _ _ wr.drew hx1 hy1 hx3).mono ?_
      rintro e w4 ⟨rfl, hb4⟩
      have hb4 : Below wr.heap.size wr w4 := (bdrewN (Below.refl _ wr) 1).trans hb4
      go_wp2_with fail
      go_roundw
      case rel => exact ⟨k + 1, by omega, by go_num, hbr.trans (hb4.mono hbr.size)⟩
      case measure => simp [intOf]; omega
    · go_wp2_with fail
      go_ret
      exact ⟨rfl, hbr⟩
end Go.Proofs.YthmjkhlndphldaaGreatDoor

namespace Go.Proofs.YthmjkhlndphldaaGreatDoor
open Go Go.RowKit
set_option linter.unusedVariables false

theorem refLeft_u (l : List Pr) (A : Option Addr) (n cap : Nat) (b : List Bal) (BA : Option Addr) (bn bcap : Nat) (cur : ByteArray) (w : World)
    (hl : n ≤ 9223372036854775807) (ha : Rd w 5 prEnc A n l) (hbl : bn ≤ 9223372036854775807) (hb : Rd w 4 balEnc BA bn b) (hcur : cur.size ≤ 9223372036854775807) :
    Calls Tryz.prog 43 #[.slice A n cap, .slice BA bn bcap, .string cur] w fun e w' =>
      ∃ v, e = .returned (.tuple #[v, .int .i64 (leftE l b cur)]) ∧ Own w' w.heap.size 3 1 intEnc2 v (if leftE l b cur = 0 then leftTo l b cur n else []) ∧ Below w.heap.size w w' :=
  (refLeft_any l A n cap b BA bn bcap cur w hl ha hbl hb hcur).mono fun e w' ⟨h, hb⟩ => by
    rcases h with ⟨h0, rfl⟩ | ⟨h0, v, rfl, hown⟩
    · exact ⟨_, rfl, by rw [if_neg h0]; exact Own.nil _ _ _ _ _, hb⟩
    · exact ⟨v, by rw [h0], by rw [if_pos h0]; exact hown, hb⟩
theorem pleft_u (l : List Pr) (A : Option Addr) (n cap : Nat) (b : List Bal) (BA : Option Addr) (bn bcap : Nat) (cur : ByteArray) (w : World)
    (hl : n ≤ 9223372036854775807) (ha : Rd w 5 prEnc A n l) (hbl : bn ≤ 9223372036854775807) (hb : Rd w 4 balEnc BA bn b) (hcur : cur.size ≤ 9223372036854775807) :
    Calls Tryz.prog 44 #[.slice A n cap, .slice BA bn bcap, .string cur] w fun e w' =>
      ∃ v, e = .returned (.tuple #[v, errV (leftE l b cur)]) ∧ Own w' w.heap.size 3 1 intEnc2 v (if leftE l b cur = 0 then leftTo l b cur n else []) ∧ Below w.heap.size w w' :=
  (pleft_any l A n cap b BA bn bcap cur w hl ha hbl hb hcur).mono fun e w' ⟨h, hb⟩ => by
    rcases h with ⟨h0, rfl⟩ | ⟨h0, v, rfl, hown⟩
    · exact ⟨_, by rw [errV_n h0], by rw [if_neg h0]; exact Own.nil _ _ _ _ _, hb⟩
    · exact ⟨v, by rw [errV_0 h0], by rw [if_pos h0]; exact hown, hb⟩
theorem elim_u (c : List Acc) (CA : Option Addr) (cn ccap : Nat) (l : List Pr) (A : Option Addr) (n cap : Nat) (b : List Bal) (BA : Option Addr) (bn bcap : Nat) (cur : ByteArray) (per : Int) (w : World)
    (hcl : cn ≤ 9223372036854775807) (hcc : cn ≤ ccap) (hc : Accs w CA cn c) (hcok : AccOk c) (hl : n ≤ 9223372036854775807) (ha : Rd w 5 prEnc A n l) (hbl : bn ≤ 9223372036854775807) (hb : Rd w 4 balEnc BA bn b) (hcur : cur.size ≤ 9223372036854775807) :
    Calls Tryz.prog 45 #[.slice CA cn ccap, .slice A n cap, .slice BA bn bcap, .string cur, .int .i64 per] w fun e w' =>
      ∃ v es, e = .returned (.tuple #[v, .int .i64 (elimE c l b cur per)]) ∧ Pack w' w.heap.size v es ∧ es.map Ent.core = (if elimE c l b cur per = 0 then coresTo l b cur per (2 * n) else []) ∧ Below w.heap.size w w' :=
  (elim_any c CA cn ccap l A n cap b BA bn bcap cur per w hcl hcc hc hcok hl ha hbl hb hcur).mono fun e w' ⟨h, hb⟩ => by
    rcases h with ⟨h0, rfl⟩ | ⟨h0, v, es, rfl, hp, hes⟩
    · exact ⟨_, [], rfl, Pack.nil _ _, by rw [if_neg h0]; rfl, hb⟩
    · exact ⟨v, es, by rw [h0], hp, by rw [if_pos h0]; exact hes, hb⟩
theorem entries_u (c : List Acc) (CA : Option Addr) (cn ccap : Nat) (l : List Pr) (A : Option Addr) (n cap : Nat) (b : List Bal) (BA : Option Addr) (bn bcap : Nat) (cur : ByteArray) (per : Int) (w : World)
    (hcl : cn ≤ 9223372036854775807) (hcc : cn ≤ ccap) (hc : Accs w CA cn c) (hcok : AccOk c) (hl : n ≤ 9223372036854775807) (ha : Rd w 5 prEnc A n l) (hbl : bn ≤ 9223372036854775807) (hb : Rd w 4 balEnc BA bn b) (hcur : cur.size ≤ 9223372036854775807) :
    Calls Tryz.prog 46 #[.slice CA cn ccap, .slice A n cap, .slice BA bn bcap, .string cur, .int .i64 per] w fun e w' =>
      ∃ v es, e = .returned (.tuple #[v, errV (elimE c l b cur per)]) ∧ Pack w' w.heap.size v es ∧ es.map Ent.core = (if elimE c l b cur per = 0 then coresTo l b cur per (2 * n) else []) ∧ Below w.heap.size w w' :=
  (entries_any c CA cn ccap l A n cap b BA bn bcap cur per w hcl hcc hc hcok hl ha hbl hb hcur).mono fun e w' ⟨h, hb⟩ => by
    rcases h with ⟨h0, rfl⟩ | ⟨h0, v, es, rfl, hp, hes⟩
    · exact ⟨_, [], by rw [errV_n h0], Pack.nil _ _, by rw [if_neg h0]; rfl, hb⟩
    · exact ⟨v, es, by rw [errV_0 h0], hp, by rw [if_pos h0]; exact hes, hb⟩

set_option maxHeartbeats 4000000 in
set_option maxRecDepth 100000 in
theorem leaves_any (c : List Acc) (CA : Option Addr) (cn ccap : Nat) (l : List Pr) (A : Option Addr) (n cap : Nat) (b : List Bal) (BA : Option Addr) (bn bcap : Nat) (cur : ByteArray) (per : Int) (w : World) (hg : ErrTy w)
    (hcc : cn ≤ ccap) (hcm : ccap ≤ maxLen) (hc : Accs w CA cn c) (hcok : AccOk c) (hlc : n ≤ cap) (hlm : cap ≤ maxLen) (ha : Rd w 5 prEnc A n l) (hbc : bn ≤ bcap) (hbm : bcap ≤ maxLen) (hb : Rd w 4 balEnc BA bn b) (hcur : cur.size ≤ maxLen) :
    Calls Tryz.prog 9 #[.slice CA cn ccap, .slice A n cap, .slice BA bn bcap, .string cur, .int .i64 per] w fun e w' => e = .returned (.bool true) ∧ Below w.heap.size w w' := by
  unfold maxLen at hcm hlm hbm hcur
  have hcl : cn ≤ 9223372036854775807 := by omega
  have hl : n ≤ 9223372036854775807 := by omega
  have hbl : bn ≤ 9223372036854775807 := by omega
  have hpr := pairsE_range c l
  have hlr := leftE_range l b cur
  have her := elimE_range (c := c) (l := l) (b := b) (cur := cur) (per := per)
  have P1 := fun W h1 h2 => pcheck_any c CA cn ccap l A n cap W hcl hcc h1 hcok hl h2
  have P2 := fun W h1 h2 => refPairs_any c CA cn ccap l A n cap W hcl hcc h1 hcok hl h2
  have P3 := fun W h2 h3 => refLeft_u l A n cap b BA bn bcap cur W hl h2 hbl h3 hcur
  have P4 := fun W h2 h3 => pleft_u l A n cap b BA bn bcap cur W hl h2 hbl h3 hcur
  have P5 := fun W h1 h2 h3 => elim_u c CA cn ccap l A n cap b BA bn bcap cur per W hcl hcc h1 hcok hl h2 hbl h3 hcur
  have P6 := fun W h1 h2 h3 => entries_u c CA cn ccap l A n cap b BA bn bcap cur per W hcl hcc h1 hcok hl h2 hbl h3 hcur
  generalize pairsE c l = pe at hpr P1 P2
  generalize hLL : (if leftE l b cur = 0 then leftTo l b cur n else []) = LL at P3 P4
  generalize hCC : (if elimE c l b cur per = 0 then coresTo l b cur per (2 * n) else []) = CC at P5 P6
  generalize leftE l b cur = le at hlr P3 P4
  generalize elimE c l b cur per = ee at her P5 P6
  clear hLL hCC
  go_enter Tryz.func9, Tryz.ntmps9
  go_wp2_with fail
  refine (P1 _ hc ha).mono ?_
  rintro e w1 ⟨rfl, hb1⟩
  go_wp2_with fail
  refine (P2 _ (hc.below hb1) (ha.below hb1)).mono ?_
  rintro e w2 ⟨rfl, hb2⟩
  have hb2 := bthen hb1 (Nat.le_refl _) hb2
  go_wp2_with fail
  refine (error_any pe pe _ (hg.below hb2) hpr.1 hpr.2).mono ?_
  rintro e w3 ⟨rfl, hb3⟩
  rw [beq_self_eq_true]
  have hb3 := bthen hb2 (Nat.le_refl _) hb3
  go_wp2_with fail
  refine (P3 _ (ha.below hb3) (hb.below hb3)).mono ?_
  rintro e w4 ⟨v4, rfl, hown4, hb4⟩
  have hb4 := bthen hb3 (Nat.le_refl _) hb4
  obtain ⟨A4, c4, rfl, h41, h42⟩ := hown4.form
  have hr4 := hown4.rd intEnc2_ok
  clear hown4
  go_wp2_with fail
  refine (P4 _ (ha.below hb4) (hb.below hb4)).mono ?_
  rintro e w5 ⟨v5, rfl, hown5, hb5⟩
  have hr4 := hr4.below hb5
  have hb5 := bthen hb4 (Nat.le_refl _) hb5
  obtain ⟨A5, c5, rfl, h51, h52⟩ := hown5.form
  have hr5 := hown5.rd intEnc2_ok
  clear hown5
  go_wp2_with fail
  refine (error_any le le _ (hg.below hb5) hlr.1 hlr.2).mono ?_
  rintro e w6 ⟨rfl, hb6⟩
  rw [beq_self_eq_true]
  have hr4 := hr4.below hb6
  have hr5 := hr5.below hb6
  have hb6 := bthen hb5 (Nat.le_refl _) hb6
  have hL63 : LL.length ≤ 9223372036854775807 := by unfold maxLen at h42; omega
  go_wp2_with fail
  refine (ints_same LL _ _ _ _ _ _ hr5 hr4 hL63).mono ?_
  rintro e w7 ⟨rfl, hb7⟩
  have hb7 := bthen hb6 (Nat.le_refl _) hb7
  clear hr4 hr5 h41 h42 h51 h52
  go_wp2_with fail
  refine (P5 _ (hc.below hb7) (ha.below hb7) (hb.below hb7)).mono ?_
  rintro e w8 ⟨v8, es, rfl, hp8, hes, hb8⟩
  have hb8 := bthen hb7 (Nat.le_refl _) hb8
  go_wp2_with fail
  refine (P6 _ (hc.below hb8) (ha.below hb8) (hb.below hb8)).mono ?_
  rintro e w9 ⟨v9, al, rfl, hp9, hal, hb9⟩
  have hp8 := hp8.below hb9
  have hb9 := bthen hb8 (Nat.le_refl _) hb9
  have hsame : SameE al es := hal.trans hes.symm
  clear hal hes
  obtain ⟨A8, c8, rfl, h81, h82⟩ := hp8.own.form
  obtain ⟨A9, c9, rfl, h91, h92⟩ := hp9.own.form
  go_wp2_with fail
  refine (error_any ee ee _ (hg.below hb9) her.1 her.2).mono ?_
  rintro e w10 ⟨rfl, hb10⟩
  rw [beq_self_eq_true]
  have hp8 := hp8.below hb10
  have hp9 := hp9.below hb10
  have hb10 := bthen hb9 (Nat.le_refl _) hb10
  have hr8 := hp8.own.rd entEnc_ok
  have hr9 := hp9.own.rd entEnc_ok
  have hE63 : al.length ≤ 9223372036854775807 := by unfold maxLen at h92; omega
  rw [← hsame.len] at hr8 ⊢
  have ha8 := fun e he => (⟨(hp8.all e he).1, (hp8.all e he).2.1⟩ : Rd w10 3 lineEnc e.A e.n e.lines ∧ e.n ≤ 20)
  have ha9 := fun e he => (⟨(hp9.all e he).1, (hp9.all e he).2.1⟩ : Rd w10 3 lineEnc e.A e.n e.lines ∧ e.n ≤ 20)
  clear hp8 hp9 h81 h82 h91 h92
  have HS := hide hsame
  clear hsame
  go_wp2_with fail
  refine (ents_same al es _ _ _ _ _ _ hE63 hr9 hr8 ha9 ha8 HS.out).mono ?_
  rintro e w11 ⟨rfl, hb11⟩
  have hb11 := bthen hb10 (Nat.le_refl _) hb11
  go_wp2_with fail
  go_ret
  exact ⟨by first | rfl | simp, hb11⟩
end Go.Proofs.YthmjkhlndphldaaGreatDoor
