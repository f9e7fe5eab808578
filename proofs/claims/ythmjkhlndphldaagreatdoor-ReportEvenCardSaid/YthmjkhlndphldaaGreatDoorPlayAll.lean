/- What JournalPlays leans on: daysame.Lines, daysame.Entry; At past the end; Cmp. -/
import Derived.Test.YthmjkhlndphldaaGreatDoorQbAll
import Derived.Test.YthmjkhlndphldaaGreatDoorEvenAll
import Derived.Test.YthmjkhlndphldaaGreatDoorRollAll
import Derived.Deep.RegionLaw
import Derived.Test.YthmjkhlndphldaaGreatDoorEnAll
namespace Go.Proofs.YthmjkhlndphldaaGreatDoor
open Go Go.RowKit
set_option linter.unusedVariables false

set_option maxRecDepth 100000 in
theorem lines_same (l : List Line) (A M : Option Addr) (n c mc : Nat) (w : World) (ha : Rd w 3 lineEnc A n l) (hm : Rd w 3 lineEnc M n l) (hn : n ≤ 9223372036854775807) :
    Calls Tryz.prog 79 #[.slice A n c, .slice M n mc] w fun e w' => e = .returned (.bool true) ∧ Below w.heap.size w w' := by
  have Hn := hide ha.1
  go_enter Tryz.func79, Tryz.ntmps79
  go_wp2_with fail
  go_loopw [5] (fun iv wr => ∃ k : Nat, k ≤ n ∧ iv = .int .i64 k ∧ Below w.heap.size w wr) (fun iv _ => n - (intOf iv).toNat)
  case atStart => exact ⟨0, by omega, rfl, Below.refl _ _⟩
  case round =>
    obtain ⟨k, hk, rfl, hbr⟩ := hrel
    by_cases hlt : k < n
    · have hkl : k < l.length := by have := Hn.out; omega
      obtain ⟨b, off, rfl, hcs⟩ := (Rd.below ha hbr).2 (by omega)
      have q0 := hcs k 0 _ hkl rfl
      have q1 := hcs k 1 _ hkl rfl
      have q2 := hcs k 2 _ hkl rfl
      rw [Nat.add_zero] at q0
      obtain ⟨b', off', rfl, hcs'⟩ := (Rd.below hm hbr).2 (by omega)
      have s0 := hcs' k 0 _ hkl rfl
      have s1 := hcs' k 1 _ hkl rfl
      have s2 := hcs' k 2 _ hkl rfl
      rw [Nat.add_zero] at s0
      clear hcs hcs'
      have k0 : (0 : Int) ≤ (k : Int) := by omega
      have k1 : (k : Int) < (n : Int) := by omega
      go_wp2_with fail
      go_quiet (fail)
      go_wp2_with fail
      go_roundw
      case rel => exact ⟨k + 1, by omega, by go_num, bdrewN hbr _⟩
      case measure => simp [intOf]; omega
    · go_wp2_with fail
      go_ret
      exact ⟨rfl, hbr⟩
set_option maxRecDepth 100000 in
theorem entry_same (ref : ByteArray) (ent per : Int) (l : List Line) (A M : Option Addr) (n c mc : Nat) (w : World) (ha : Rd w 3 lineEnc A n l) (hm : Rd w 3 lineEnc M n l) (hn : n ≤ 9223372036854775807) :
    Calls Tryz.prog 17 #[.agg #[.string ref, .int .i64 ent, .int .i64 per, .slice A n c], .agg #[.string ref, .int .i64 ent, .int .i64 per, .slice M n mc]] w fun e w' => e = .returned (.bool true) ∧ Below w.heap.size w w' := by
  go_enter Tryz.func17, Tryz.ntmps17
  go_wp2_with fail
  have hb0 := (EntTwo.new w ref ent per (.slice A n c) (.cells #[.string ref, .int .i64 ent, .int .i64 per, .slice M n mc] 25)).1
  have hE := (EntTwo.new w ref ent per (.slice A n c) (.cells #[.string ref, .int .i64 ent, .int .i64 per, .slice M n mc] 25)).2.1
  have hF := EntTwo.snd w ref ref ent per ent per (.slice A n c) (.slice M n mc)
  generalize (w.alloc (.cells #[.string ref, .int .i64 ent, .int .i64 per, .slice A n c] 25)).alloc (.cells #[.string ref, .int .i64 ent, .int .i64 per, .slice M n mc] 25) = W1 at hb0 hE hF ⊢
  refine (lines_same l _ _ _ _ _ _ (ha.below hb0) (hm.below hb0) hn).mono ?_
  rintro e w2 ⟨rfl, hb2⟩
  obtain ⟨e0, e1, e2, e3⟩ := hE.below hb2
  obtain ⟨f0, f1, f2, f3⟩ := hF.below hb2
  have hb2 := bthen hb0 (Nat.le_refl _) hb2
  go_wp2_with fail
  go_ret
  exact ⟨by first | rfl | simp, hb2⟩

set_option maxRecDepth 100000 in
theorem jat_none {w : World} {B g m : Nat} {v : Value} {es : List Ent} (h : Jrn w B g m v es) :
    Calls Tryz.prog 30 #[.pointer (some ⟨g, 0, none⟩), .int .i64 es.length] w
      fun e w' => e = .returned (.tuple #[.agg #[.string ⟨#[]⟩, .int .i64 0, .int .i64 0, .slice none 0 0], .iface 108 (.int .i64 6)]) ∧ Below w.heap.size w w' := by
  obtain ⟨A, c, rfl, h1, h2⟩ := h.few
  have c0 := h.c0
  have hgl := h.lt
  have k0 : (0 : Int) ≤ (es.length : Int) := by omega
  go_enter Tryz.func30, Tryz.ntmps30
  go_wp2_with fail
  refine bodyPost_ret (v := .tuple #[.agg #[.string ⟨#[]⟩, .int .i64 0, .int .i64 0, .slice none 0 0], .iface 108 (.int .i64 6)]) (by simp [results, Tryz.results30, go_sem]) rfl ⟨rfl, (Below.refl _ _).alloc (Nat.le_refl _) _⟩

set_option maxRecDepth 100000 in
theorem qCmp_same {w : World} {B By g gy : Nat} {x : Int} (hX : QAt w B g x) (hY : QAt w By gy x) (hx : x.natAbs < 79228162514264337593543950336) :
    Calls Tryz.prog 36 #[.pointer (some ⟨g, 0, none⟩), .pointer (some ⟨gy, 0, none⟩)] w fun e w' => e = .returned (.int .i64 0) ∧ Below w.heap.size w w' := by
  have c0 := hX.c0
  obtain ⟨A, c, c1, ha, hne, hc⟩ := hX.wds
  have d0 := hY.c0
  obtain ⟨YA, d, d1, hb, hne2, hd⟩ := hY.wds
  have hn := qdigs_3 hx
  have hself : qcmp x.natAbs x.natAbs = 0 := by unfold qcmp; rw [if_neg (by omega), if_pos rfl]
  cases hs : decide (x < 0) with
  | true =>
    rw [hs] at c0 d0
    clear hs
    go_enter Tryz.func36, Tryz.ntmps36
    go_wp2_with fail
    go_quiet (fail)
    go_wp2_with fail
    refine wp_region_still_tail 8 (by kernel_rfl) (by kernel_rfl) ?_
    simp only [List.take_succ_cons, List.take_zero, List.drop_succ_cons, List.drop_zero]
    change wpStill _ _ (w.drewN nq).drew _ _ _
    repeat still_step
    refine wpStill_nil ?_
    change wpList _ _ _ _ _ (w.drewN nq).drew
    go_wp2_with fail
    refine (qcmp_any x.natAbs x.natAbs A YA _ c _ d _ (ha.below (bdrewN (Below.refl _ w) (nq + 1))) (hb.below (bdrewN (Below.refl _ w) (nq + 1))) (by omega) (by omega)).mono ?_
    rintro e w1 ⟨rfl, hb1⟩
    rw [hself]
    have c0' := below_cell hb1 hX.lt c0
    have hb1 : Below w.heap.size w w1 := (bdrewN (Below.refl _ w) (nq + 1)).trans hb1
    go_wp2_with fail
    go_ret
    exact ⟨by first | rfl | simp, hb1⟩
  | false =>
    rw [hs] at c0 d0
    clear hs
    go_enter Tryz.func36, Tryz.ntmps36
    go_wp2_with fail
    go_quiet (fail)
    go_wp2_with fail
    refine wp_region_still_tail 8 (by kernel_rfl) (by kernel_rfl) ?_
    simp only [List.take_succ_cons, List.take_zero, List.drop_succ_cons, List.drop_zero]
    change wpStill _ _ (w.drewN nq).drew _ _ _
    repeat still_step
    refine wpStill_nil ?_
    change wpList _ _ _ _ _ (w.drewN nq).drew
    go_wp2_with fail
    refine (qcmp_any x.natAbs x.natAbs A YA _ c _ d _ (ha.below (bdrewN (Below.refl _ w) (nq + 1))) (hb.below (bdrewN (Below.refl _ w) (nq + 1))) (by omega) (by omega)).mono ?_
    rintro e w1 ⟨rfl, hb1⟩
    rw [hself]
    have c0' := below_cell hb1 hX.lt c0
    have hb1 : Below w.heap.size w w1 := (bdrewN (Below.refl _ w) (nq + 1)).trans hb1
    go_wp2_with fail
    go_ret
    exact ⟨by first | rfl | simp, hb1⟩
end Go.Proofs.YthmjkhlndphldaaGreatDoor

namespace Go.Proofs.YthmjkhlndphldaaGreatDoor
open Go Go.RowKit
set_option linter.unusedVariables false

/-- three blocks at most are written: m, then r, then g -/
def Chain (w w' : World) (g m : Nat) (r : Option Nat) : Prop := ∃ wa wb, w.grownBy wa (some m) ∧ wa.grownBy wb r ∧ wb.grownBy w' (some g)
theorem below_grown {w a b : World} {row : Option Nat} (h : Below w.heap.size w a) (k : a.grownBy b row) : w.grownBy b row :=
  ⟨k.os.trans h.os, k.tape.trans h.tape, k.output.trans h.output, Nat.le_trans h.size k.size, fun i hi hn => (k.block i (Nat.lt_of_lt_of_le hi h.size) hn).trans (h.block i hi)⟩
theorem Chain.own {α : Type} {w w' : World} {g m B e sz : Nat} {r : Option Nat} {enc : α → List Value} {v : Value} {l : List α} (h : Chain w w' g m r) (k : Own w B e sz enc v l) (hg : v.ownBlock ≠ some g) (hm : v.ownBlock ≠ some m) (hr : v.ownBlock = none ∨ v.ownBlock ≠ r) : Own w' B e sz enc v l := by
  obtain ⟨wa, wb, h1, h2, h3⟩ := h
  exact ((k.grown h1 (.inr hm)).grown h2 hr).grown h3 (.inr hg)

/-- what a journal holds lies in no block of this row -/
structure Apart (g m : Nat) (v : Value) (es : List Ent) (r : Option Nat) : Prop where
  g : r ≠ some g
  m : r ≠ some m
  v : v.ownBlock = none ∨ v.ownBlock ≠ r
  all : ∀ e, e ∈ es → ∀ b off s, e.A = some ⟨b, off, s⟩ → some b ≠ r
theorem Apart.none (g m : Nat) (v : Value) (es : List Ent) : Apart g m v es Option.none :=
  ⟨by simp, by simp, by cases h : v.ownBlock <;> simp, fun _ _ _ _ _ _ => by simp⟩
theorem Jrn.grown {w w' : World} {B g m : Nat} {v : Value} {es : List Ent} {r : Option Nat} (h : Jrn w B g m v es) (hg : w.grownBy w' r) (ha : Apart g m v es r) : Jrn w' B g m v es := by
  have hgl := h.lt
  have hs := hg.size
  refine ⟨h.gB, h.mB, h.gm, hg.cell h.c0 (fun e => ha.g e.symm), hg.cell h.c1 (fun e => ha.g e.symm), fun o => ?_, h.own.grown hg ha.v, h.vg, h.vm, h.refs.kept hg (fun e => ha.m e.symm), fun e he => ?_⟩
  · have y := hg.block g hgl (fun e => ha.g e.symm)
    have := h.fr o
    rw [← this]; unfold World.frozen?; simp only [y]
  · have k := h.all e he
    refine ⟨⟨k.rd.1, fun hn => ?_⟩, k.few, k.nil, k.cap, fun b off s hb => ?_⟩
    · obtain ⟨b, off, e1, hc⟩ := k.rd.2 hn
      exact ⟨b, off, e1, fun i j u hi hu => hg.cell (hc i j u hi hu) (ha.all e he b off _ e1)⟩
    · have x := k.apart b off s hb
      exact ⟨x.1, x.2.1, x.2.2.1, by omega⟩

set_option maxHeartbeats 1000000 in
set_option maxRecDepth 100000 in
theorem jpost_frame {w : World} {B g m : Nat} {v : Value} {es : List Ent} (h : Jrn w B g m v es) (hes : es.length ≤ 200) (hB : B ≤ w.heap.size)
    (c : List Acc) (CA : Option Addr) (cn ccap : Nat) (E : Ent) (hcl : cn ≤ 9223372036854775807) (hcc : cn ≤ ccap) (hc : Accs w CA cn c) (hcok : AccOk c) (hE : EntFits w E) :
    Calls Tryz.prog 24 #[.pointer (some ⟨g, 0, none⟩), .slice CA cn ccap, .agg #[.string E.ref, .int .i64 E.ent, .int .i64 E.per, .slice E.A E.n E.cap]] w
      fun e w' => (postE c es E.ref E.ent E.per E.lines ≠ 0 ∧ e = .returned (.tuple #[.int .i64 0, .iface 108 (.int .i64 (postE c es E.ref E.ent E.per E.lines))]) ∧ Jrn w' B g m v es ∧ Below w.heap.size w w') ∨
        (postE c es E.ref E.ent E.per E.lines = 0 ∧ e = .returned (.tuple #[.int .i64 es.length, .nilIface]) ∧ Below B w w' ∧ ∃ v' E', E'.ref = E.ref ∧ E'.ent = E.ent ∧ E'.per = E.per ∧ E'.lines = E.lines ∧ Jrn w' B g m v' (es ++ [E']) ∧ Chain w w' g m v.ownBlock ∧ (v'.ownBlock = v.ownBlock ∨ ∀ q, v'.ownBlock = some q → w.heap.size ≤ q) ∧ (∀ b off s, E'.A = some ⟨b, off, s⟩ → w.heap.size ≤ b)) := by
  obtain ⟨er, en, ep, EA, n, ec, el⟩ := E
  obtain ⟨h1, h2, h3, h4, h5, h6⟩ := hE
  simp only at *
  have hn63 : n ≤ 9223372036854775807 := by unfold maxLen at h3; omega
  have Hes := hide hes
  clear hes
  go_enter Tryz.func24, Tryz.ntmps24
  go_wp2_with fail
  have hbx : Below w.heap.size w (w.alloc (.cells #[.string er, .int .i64 en, .int .i64 ep, .slice EA n ec] 25)) := (Below.refl _ _).alloc (Nat.le_refl _) _
  have hX0 : EntAt (w.alloc (.cells #[.string er, .int .i64 en, .int .i64 ep, .slice EA n ec] 25)) w.heap.size er en ep (.slice EA n ec) := by unfold EntAt; simp
  refine (entCheck_any c _ _ _ er en ep el _ _ _ _ hcl hcc (hc.below hbx) hcok h1 hn63 (Rd.below h4 hbx) h6 h5).mono ?_
  rintro e w1 ⟨rfl, hb1⟩
  have hX1 := hX0.below hb1
  have hb1 := bof_alloc hb1
  have hJ1 := h.below hb1
  by_cases he : entE c er en ep el = 0
  · rw [errV_0 he]
    have HE := hide he
    obtain ⟨x0, x1, x2, x3⟩ := hX1
    have c1 := hJ1.c1
    clear he
    go_wp2_with fail
    refine wp_region_still_tail 6 (by kernel_rfl) (by kernel_rfl) ?_
    simp only [List.take_succ_cons, List.take_zero, List.drop_succ_cons, List.drop_zero]
    change wpStill _ _ w1.drew _ _ _
    repeat still_step
    refine wpStill_nil ?_
    change wpList _ _ _ _ _ w1.drew
    have hX1 : EntAt w1.drew w.heap.size er en ep (.slice EA n ec) := ⟨x0, x1, x2, x3⟩
    have hb1 : Below w.heap.size w w1.drew := bdrewN hb1 1
    have hJ1 : Jrn w1.drew B g m v es := hJ1.below (bdrewN (Below.refl _ w1) 1)
    clear x0 x1 x2 x3 c1
    generalize w1.drew = w1 at hX1 hb1 hJ1 ⊢
    obtain ⟨x0, x1, x2, x3⟩ := hX1
    have hlk := hJ1.refs.lookup er (by unfold maxLen; exact h1)
    have c0 := hJ1.c0
    have c1 := hJ1.c1
    cases hS : hasS (es.map Ent.ref).reverse er with
    | true =>
      have HP : Hid (postE c es er en ep el = 8) := by show _ = _; rw [postE, if_neg (by simpa using HE.out), if_pos hS]
      rw [hS] at hlk
      clear hS
      go_wp2_with fail
      go_ret2
      exact .inl ⟨by rw [HP.out]; decide, by rw [HP.out]; rfl, hJ1, hb1⟩
    | false =>
      rw [hS] at hlk
      obtain ⟨VA, vc, rfl, hvc, hvm⟩ := hJ1.few
      by_cases hfull : 200 ≤ es.length
      · have HP : Hid (postE c es er en ep el = 4) := by show _ = _; rw [postE, if_neg (by simpa using HE.out), if_neg (by rw [hS]; decide), if_pos hfull]
        have hf1 : (200 : Int) ≤ (es.length : Int) := by omega
        clear hS
        go_wp2_with fail
        go_ret2
        exact .inl ⟨by rw [HP.out]; decide, by rw [HP.out]; rfl, hJ1, hb1⟩
      · have HP : Hid (postE c es er en ep el = 0) := by show _ = _; rw [postE, if_neg (by simpa using HE.out), if_neg (by rw [hS]; decide), if_neg hfull]
        have hf1 : ¬ (200 : Int) ≤ (es.length : Int) := by omega
        have hf2 : (es.length : Int) < 200 := by omega
        obtain ⟨i0, hi0, hz0, hz1, hz2⟩ := info_parts ent_info
        clear hS
        go_wp2_with fail
        refine wp_region_still_tail 6 (by kernel_rfl) (by kernel_rfl) ?_
        simp only [List.take_succ_cons, List.take_zero, List.drop_succ_cons, List.drop_zero]
        change wpStill _ _ w1.drew _ _ _
        repeat still_step
        refine wpStill_nil ?_
        change wpList _ _ _ _ _ w1.drew
        have hX1 : EntAt w1.drew w.heap.size er en ep (.slice EA n ec) := ⟨x0, x1, x2, x3⟩
        have hb1 : Below w.heap.size w w1.drew := bdrewN hb1 1
        have hJ1 : Jrn w1.drew B g m (.slice VA es.length vc) es := hJ1.below (bdrewN (Below.refl _ w1) 1)
        clear x0 x1 x2 x3 c0 c1 hlk
        generalize w1.drew = w1 at hX1 hb1 hJ1 ⊢
        obtain ⟨w2, hup, href, h12⟩ := hJ1.refs.update (by unfold maxLen; omega) er (by unfold maxLen; exact h1)
        have hwx : w.heap.size < w1.heap.size := World.block_lt_of_cell? _ _ hX1.1
        have hX2 : EntAt w2 w.heap.size er en ep (.slice EA n ec) := by
          obtain ⟨x0, x1, x2, x3⟩ := hX1
          have hne : ∀ q, some (⟨w.heap.size, q, none⟩ : Addr).block ≠ some m := fun q e => by
            have e' : w.heap.size = m := by simpa using e
            have := h.refs.lt; omega
          exact ⟨h12.cell x0 (hne 0), h12.cell x1 (hne 1), h12.cell x2 (hne 2), h12.cell x3 (hne 3)⟩
        have c0 : w2.cell? ⟨g, 0, none⟩ = some (.slice VA es.length vc) := h12.cell hJ1.c0 (by simp; exact hJ1.gm)
        have f0 : w2.frozen? ⟨g, 0, none⟩ = false := by
          have y := h12.block g hJ1.lt (by simp; exact hJ1.gm)
          have := hJ1.fr 0
          rw [← this]; unfold World.frozen?; simp only [y]
        have hbB2 : Below B w w2 := (hb1.mono hB).grown h12 (Nat.le_trans hB hb1.size) (fun q e => by injection e with e; subst e; exact hJ1.mB)
        obtain ⟨x0, x1, x2, x3⟩ := hX2
        have hn20 : n ≤ 20 := by
          have r := (entE_right HE.out).high
          have := h4.1
          omega
        have hmx : m < w1.heap.size := hJ1.refs.lt
        have hbw2 : ∀ q, q < w.heap.size → q ≠ m → w2.heap[q]? = w.heap[q]? := fun q hq hm => (h12.block q (by omega) (by simp; exact hm)).trans (hb1.block q hq)
        have hr2 : Rd w2 3 lineEnc EA n el := by
          refine ⟨h4.1, fun hp => ?_⟩
          obtain ⟨b, off, e, hc'⟩ := h4.2 hp
          refine ⟨b, off, e, fun k j u hk hu => ?_⟩
          have hcell := hc' k j u hk hu
          have hbl := World.block_lt_of_cell? _ _ hcell
          have h1c := below_cell hb1 hbl hcell
          refine h12.cell h1c (fun e2 => ?_)
          have e3 : b = m := by simpa using e2
          subst e3
          obtain ⟨D, ⟨esm, clk, hm, _⟩, _⟩ := hJ1.refs
          simp [World.cell?, hm] at h1c
        go_wp2_with fail
        have hr2d : Rd w2.drew 3 lineEnc EA n el := hr2
        have hown2 : Own w2.drew B 25 4 Ent.enc (.slice VA es.length vc) es := (show Own w2 B 25 4 Ent.enc (.slice VA es.length vc) es from hJ1.own.grown h12 (.inr hJ1.vm))
        have c0d : w2.drew.cell? ⟨g, 0, none⟩ = some (.slice VA es.length vc) := c0
        have f0d : w2.drew.frozen? ⟨g, 0, none⟩ = false := f0
        have hg2 : g < w2.drew.heap.size := World.block_lt_of_cell? _ _ c0d
        have hB2 : B ≤ w2.drew.heap.size := Nat.le_trans hB hbB2.size
        have hvg := hJ1.vg
        go_region_law (first
          | (refine step_pushJ _ rfl _ _ 50 rfl B 25 i0 zeroEnt 4 56 Tryz.underlying50 hi0 hz0 hz1 hz2 rfl (by decide) entEnc_ok (.slice VA es.length vc) es (by simp [Act.eval]) (Own.alloc hown3 _) _ 1 1 [⟨er, en, ep, CA3, el.length, cc3, el⟩] (by simp [Act.eval]) (Rd.boxedAt _ entEnc_ok _ _ _ rfl _ rfl) (by intro h; cases h) (by simp only [maxLen]; omega) (by omega) (by simp; omega) ?_; intro v' w5 hown5 hg5 hat5; have c05 := hg5.cell (cell?_alloc_keep c03) (fun e => hvg e.symm); have f05 := frozen_grown (frozen_alloc_keep hg3 f03) (by simp; omega) hg5 hvg; obtain ⟨VA5, vc5, rfl, hvc5, hvm5⟩ := hown5.form)
          | (go_simp; go_at_call 86; refine (jclone_any er en ep el EA n ec _ hr2d hn20 h6).mono ?_; rintro e w3 ⟨CA3, cc3, rfl, hownC, hb3⟩; have c03 := below_cell hb3 hg2 c0d; have f03 := (hb3.frozen (p := ⟨g, 0, none⟩) hg2).trans f0d; have hown3 := hown2.below hb3; have hg3 := Nat.lt_of_lt_of_le hg2 hb3.size; have hB3 := Nat.le_trans hB2 hb3.size))
        all_goals go_wp2_with fail
        all_goals
          go_ret2
          have e1 : (es ++ [(⟨er, en, ep, CA3, el.length, cc3, el⟩ : Ent)]).length = es.length + 1 := by simp
          rw [e1] at hown5 hat5
          have h23 : Below w2.heap.size w2 w3 := (bdrewN (Below.refl w2.heap.size w2) 1).trans hb3
          have hel : el.length ≤ 20 := (entE_right HE.out).high
          have hws2 : w.heap.size ≤ w2.heap.size := Nat.le_trans hb1.size h12.size
          have hws3 : w.heap.size ≤ w3.heap.size := Nat.le_trans hws2 h23.size
          have hch : Chain w (w5.setCell ⟨g, 0, none⟩ (.slice VA5 (es.length + 1) vc5)) g m (Value.ownBlock (.slice VA es.length vc)) := by
            refine ⟨w2, w5, below_grown hb1 h12, below_grown (h23.alloc h23.size _) hg5, only_setCell (only_refl _ _) _ _⟩
          refine .inr ⟨HP.out, rfl, ?_, _, ⟨er, en, ep, CA3, el.length, cc3, el⟩, rfl, rfl, rfl, rfl, Jrn.push (n := 0) (c := 0) _ hJ1 href h12 h23 hownC hel hown5 hg5 hat5, hch, ?_, ?_⟩
          rotate_left
          · rcases hat5 with e | e
            · exact .inl e
            · exact .inr fun q hq => by rw [e] at hq; injection hq with hq; simp at hq; omega
          · intro b off s hb
            have := (hownC.block b (by simp only at hb; simp [Value.ownBlock, hb])).1
            have h2d : w2.drew.heap.size = w2.heap.size := rfl
            omega
          exact (((hbB2.trans (h23.mono hB2)).alloc hB3 _).grown hg5 (by simp; omega) (fun q e => (hown3.block q e).1)).setCell hJ1.gB _
  · rw [errV_n he]
    have HP : Hid (postE c es er en ep el = entE c er en ep el) := by show _ = _; rw [postE, if_pos he]
    have HE := hide he
    clear he
    go_wp2_with fail
    go_ret2
    exact .inl ⟨by rw [HP.out]; exact HE.out, by rw [HP.out]; rfl, hJ1, hb1⟩
end Go.Proofs.YthmjkhlndphldaaGreatDoor

namespace Go.Proofs.YthmjkhlndphldaaGreatDoor
open Go Go.RowKit
set_option linter.unusedVariables false

/-- what an entry says -/
def Ent.core (e : Ent) : ByteArray × Int × Int × List Line := (e.ref, e.ent, e.per, e.lines)
def SameE (es al : List Ent) : Prop := es.map Ent.core = al.map Ent.core
section
variable {es al : List Ent}
theorem SameE.len (h : SameE es al) : es.length = al.length := by
  have := congrArg List.length h
  simpa using this
theorem SameE.at_ (h : SameE es al) (i : Nat) (h1 : i < es.length) (h2 : i < al.length) : es[i].ref = al[i].ref ∧ es[i].ent = al[i].ent ∧ es[i].per = al[i].per ∧ es[i].lines = al[i].lines := by
  have e := congrArg (fun l => l[i]?) h
  simp only [List.getElem?_map, List.getElem?_eq_getElem h1, List.getElem?_eq_getElem h2, Option.map_some, Option.some.injEq, Ent.core, Prod.mk.injEq] at e
  exact e
theorem SameE.push (h : SameE es al) {E' E : Ent} (h1 : E'.ref = E.ref) (h2 : E'.ent = E.ent) (h3 : E'.per = E.per) (h4 : E'.lines = E.lines) : SameE (es ++ [E']) (al ++ [E]) := by
  unfold SameE at *
  rw [List.map_append, List.map_append, h]
  simp [Ent.core, h1, h2, h3, h4]
theorem SameE.refs (h : SameE es al) : es.map Ent.ref = al.map Ent.ref := by
  have e := congrArg (List.map (fun x => x.1)) h
  simpa [List.map_map, Function.comp_def, Ent.core] using e
theorem linesTo_core (es : List Ent) (k : Nat) : linesTo es k = ((es.map Ent.core).take k).flatMap (fun x => x.2.2.2) := by
  unfold linesTo
  rw [← List.map_take, List.flatMap_map]; rfl
theorem SameE.linesTo (h : SameE es al) (k : Nat) : linesTo es k = linesTo al k := by
  rw [linesTo_core, linesTo_core, h]
theorem SameE.ofTo (h : SameE es al) (a b : Int) (k : Nat) : ofTo es a b k = ofTo al a b k := by
  unfold Proofs.YthmjkhlndphldaaGreatDoor.ofTo
  congr 1
  refine List.filter_congr fun i _ => ?_
  by_cases hi : i < es.length
  · have hi2 : i < al.length := by rw [← h.len]; exact hi
    obtain ⟨_, h2, h3, _⟩ := h.at_ i hi hi2
    rw [List.getElem?_eq_getElem hi, List.getElem?_eq_getElem hi2]
    simp only [ofB, h2, h3]
  · rw [List.getElem?_eq_none (by omega), List.getElem?_eq_none (by have := h.len; omega)]
end
/-- is a ref among those of the first k? -/
def refTo (al : List Ent) (ref : ByteArray) (k : Nat) : Bool := (al.take k).any fun e => e.ref.toList == ref.toList
theorem refTo_succ {al : List Ent} {ref : ByteArray} {k : Nat} (hk : k < al.length) : refTo al ref (k + 1) = (refTo al ref k || (al[k].ref.toList == ref.toList)) := by
  unfold refTo
  rw [List.take_succ_eq_append_getElem hk, List.any_append]
  simp
theorem refTo_more {al : List Ent} {ref : ByteArray} {k : Nat} (h : refTo al ref k = true) : refTo al ref al.length = true := by
  unfold refTo at *
  rw [List.any_eq_true] at *
  obtain ⟨e, he, h1⟩ := h
  exact ⟨e, by rw [List.take_length]; exact List.mem_of_mem_take he, h1⟩
theorem refTo_all {es al : List Ent} (h : SameE es al) (ref : ByteArray) : refTo al ref al.length = hasS (es.map Ent.ref).reverse ref := by
  unfold refTo hasS
  rw [List.take_length, List.any_reverse, h.refs, List.any_map]
  congr 1
  funext e
  simp only [Function.comp_def, beq_toList]
def scnE (e0 : Int) (b : Bool) : Int := if e0 ≠ 0 then e0 else if b = true then 8 else 0
theorem scnE_n {e0 : Int} {b : Bool} (h : e0 ≠ 0) : scnE e0 b = e0 := if_pos h
theorem scnE_0 {b : Bool} : scnE 0 b = if b = true then 8 else 0 := by unfold scnE; rw [if_neg (by simp)]
theorem scan_end {al : List Ent} {ref : ByteArray} {e0 : Int} {k : Nat} (h : k = al.length ∨ scnE e0 (refTo al ref k) ≠ 0) : scnE e0 (refTo al ref k) = scnE e0 (refTo al ref al.length) := by
  rcases h with rfl | h
  · rfl
  · by_cases h0 : e0 = 0
    · subst h0
      rw [scnE_0] at h
      have hb : refTo al ref k = true := by
        cases hb : refTo al ref k with
        | true => rfl
        | false => rw [hb] at h; simp at h
      rw [hb, refTo_more hb]
    · rw [scnE_n h0, scnE_n h0]
theorem post_scan {c : List Acc} {es al : List Ent} {ref : ByteArray} {ent per : Int} {l : List Line} (h : SameE es al) (hes : es.length < 200) : postE c es ref ent per l = scnE (entE c ref ent per l) (refTo al ref al.length) := by
  rw [refTo_all h]
  unfold postE scnE
  by_cases h0 : entE c ref ent per l ≠ 0
  · rw [if_pos h0, if_pos h0]
  · rw [if_neg h0, if_neg h0]
    by_cases h1 : hasS (es.map Ent.ref).reverse ref = true
    · rw [if_pos h1, if_pos h1]
    · rw [if_neg h1, if_neg h1, if_neg (by omega)]
theorem Jrn.apart_new {w : World} {B g m : Nat} {v : Value} {es : List Ent} (h : Jrn w B g m v es) {q : Nat} (hq : w.heap.size ≤ q) : Apart g m v es (some q) := by
  have hg := h.lt
  have hm := h.refs.lt
  refine ⟨fun e => by injection e with e; omega, fun e => by injection e with e; omega, .inr fun e => ?_, fun e he b off s hb e2 => ?_⟩
  · have := (h.own.block q e).2; omega
  · have := ((h.all e he).apart b off s hb).2.2.2
    injection e2 with e2; omega
theorem Apart.post {g m N : Nat} {v v' : Value} {es : List Ent} {E' : Ent} {r : Option Nat} (h : Apart g m v es r) (hr : ∀ q, r = some q → q < N) (hv : v'.ownBlock = v.ownBlock ∨ ∀ q, v'.ownBlock = some q → N ≤ q) (hE : ∀ b off s, E'.A = some ⟨b, off, s⟩ → N ≤ b) : Apart g m v' (es ++ [E']) r := by
  refine ⟨h.g, h.m, ?_, fun e he b off s hb e2 => ?_⟩
  · rcases hv with hv | hv
    · rw [hv]; exact h.v
    · cases hq : v'.ownBlock with
      | none => exact .inl rfl
      | some q => exact .inr fun e => by have := hv q hq; have := hr q e.symm; omega
  · rcases List.mem_append.1 he with he | he
    · exact h.all e he b off s hb e2
    · have he : e = E' := by simpa using he
      subst he
      have := hE b off s hb
      have := hr b e2.symm
      omega
theorem apart_back {g m : Nat} {v av : Value} {es : List Ent} (h : Apart g m v es av.ownBlock) : av.ownBlock = none ∨ av.ownBlock ≠ v.ownBlock := by
  rcases h.v with h | h
  · rw [h]; cases av.ownBlock <;> simp
  · exact .inr fun e => h e.symm
theorem Apart.pushed {w : World} {B g m : Nat} {v av av' : Value} {es : List Ent} (h : Apart g m v es av.ownBlock) (hJ : Jrn w B g m v es) (hat : av'.ownBlock = av.ownBlock ∨ av'.ownBlock = some w.heap.size) : Apart g m v es av'.ownBlock := by
  rcases hat with e | e
  · rw [e]; exact h
  · rw [e]; exact hJ.apart_new (Nat.le_refl _)
theorem ofTo_any {al : List Ent} {a b : Int} {k : Nat} (hk : k < al.length) : ofTo al a b (k + 1) = if ofB a b al[k] = true then ofTo al a b k ++ [(k : Int)] else ofTo al a b k := by
  cases h : ofB a b al[k] with
  | true => rw [if_pos rfl, ofTo_yes hk h]
  | false => rw [if_neg (by decide), ofTo_no hk h]
theorem linesAt_bnd {m : Int} {es : List Ent} (h : ∀ e, e ∈ es → Bnd m e.lines) (k j : Nat) : Bnd m (linesAt es k j) := by
  intro x hx
  unfold linesAt at hx
  rcases List.mem_append.1 hx with hx | hx
  · exact linesTo_bnd h k x hx
  · cases he : es[k]? with
    | none => rw [he] at hx; cases hx
    | some e =>
      rw [he] at hx
      exact h e (List.mem_of_getElem? he) x (List.mem_of_mem_take hx)
/-- the number at gd, where a slice of the call's own grows -/
theorem QAt.pushed {w w' : World} {B gd : Nat} {x : Int} {ov ov' : Value} (h : QAt w B gd x) (hf : QFree w gd ov.ownBlock) (hg : w.grownBy w' ov.ownBlock) (hat : ov'.ownBlock = ov.ownBlock ∨ ov'.ownBlock = some w.heap.size) :
    QAt w' B gd x ∧ QFree w' gd ov'.ownBlock ∧ ∀ r, QFree w gd r → QFree w' gd r := by
  obtain ⟨h1, h2⟩ := h.grown hf hg
  refine ⟨h1, ?_, h2⟩
  rcases hat with e | e
  · rw [e]; exact h2 _ hf
  · rw [e]; exact h2 _ (QFree.new h (Nat.le_refl _))
/-- both numbers, and the slice, apart from each other -/
structure Two (w : World) (B gd gc : Nat) (ov : Value) (x y : Int) : Prop where
  d : QAt w B gd x
  c : QAt w B gc y
  dc : QFree w gd (some gc)
  cd : QFree w gc (some gd)
  od : QFree w gd ov.ownBlock
  oc : QFree w gc ov.ownBlock
theorem Two.below {w w' : World} {B gd gc : Nat} {ov : Value} {x y : Int} (h : Two w B gd gc ov x y) (hb : Below w.heap.size w w') : Two w' B gd gc ov x y :=
  ⟨h.d.below hb, h.c.below hb, h.dc.below h.d hb, h.cd.below h.c hb, h.od.below h.d hb, h.oc.below h.c hb⟩
theorem Two.pushed {w w' : World} {B gd gc : Nat} {ov ov' : Value} {x y : Int} (h : Two w B gd gc ov x y) (hg : w.grownBy w' ov.ownBlock) (hat : ov'.ownBlock = ov.ownBlock ∨ ov'.ownBlock = some w.heap.size) : Two w' B gd gc ov' x y := by
  obtain ⟨h1, h2, h3⟩ := h.d.pushed h.od hg hat
  obtain ⟨k1, k2, k3⟩ := h.c.pushed h.oc hg hat
  exact ⟨h1, k1, h3 _ h.dc, k3 _ h.cd, h2, k2⟩
theorem Two.added {w w' : World} {B gd gc : Nat} {ov : Value} {x y x' : Int} (h : Two w B gd gc ov x y) (hov : ∀ q, ov.ownBlock = some q → q < w.heap.size) (hd : QAt w' B gd x') (hg : w.grownBy w' (some gd)) (hF : ∀ r : Option Nat, r ≠ some gd → (∀ q, r = some q → q < w.heap.size) → QFree w' gd r) : Two w' B gd gc ov x' y := by
  obtain ⟨k1, k2⟩ := h.c.grown h.cd hg
  exact ⟨hd, k1, hF _ h.dc.1 (fun q e => by injection e with e; rw [← e]; exact h.c.lt), k2 _ h.cd, hF _ h.od.1 hov, k2 _ h.oc⟩
theorem Two.swap {w : World} {B gd gc : Nat} {ov : Value} {x y : Int} (h : Two w B gd gc ov x y) : Two w B gc gd ov y x := ⟨h.c, h.d, h.cd, h.dc, h.oc, h.od⟩
def LineAt (w : World) (g : Nat) (a c : ByteArray) (n : Int) : Prop := w.cell? ⟨g, 0, none⟩ = some (.string a) ∧ w.cell? ⟨g, 1, none⟩ = some (.string c) ∧ w.cell? ⟨g, 2, none⟩ = some (.int .i64 n)
theorem LineAt.neu (w : World) (a c : ByteArray) (n : Int) : LineAt (w.alloc (.cells #[.string a, .string c, .int .i64 n] 35)) w.heap.size a c n := by
  unfold LineAt; simp
theorem sum_push (l : List Int) (x : Int) : (l ++ [x]).sum = l.sum + x := by rw [List.sum_append]; simp
end Go.Proofs.YthmjkhlndphldaaGreatDoor
