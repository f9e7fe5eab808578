/- report.Trial: what it returns. -/
import Derived.Test.YtjojjicpdfmopaaGreatDoorTrlC
import Derived.Deep.CutRange
import Derived.BigQuiet
import Derived.Deep.RegionHeld3
import Derived.Deep.RegionWith
import Derived.Deep.DeepFit
namespace Go.Proofs.YtjojjicpdfmopaaGreatDoor
open Go Go.RowKit
set_option linter.unusedVariables false

set_option maxRecDepth 100000 in
theorem trial_bad (c : List Acc) (S : List Bal) (CA A : Option Addr) (cn ccap n cap : Nat) (e : Int) (p : Nat) (w : World) (hcl : cn ≤ 9223372036854775807) (hcc : cn ≤ ccap) (hc : Accs w CA cn c) (hcok : AccOk c) (hl : n ≤ 9223372036854775807) (ha : Rd w 4 balEnc A n S) (hr : rcE c S e ≠ 0) :
    Calls Tryz.prog 4 #[.slice CA cn ccap, .slice A n cap, .int .i64 e, .int .i64 (p : Int)] w fun en w' => (∃ r, en = .returned r ∧ TrPost c S e p r) ∧ Below w.heap.size w w' := by
  have HR := hide hr
  clear hr
  go_enter Tryz.func4, Tryz.ntmps4
  go_wp2_with fail
  refine (rcheck_any c CA cn ccap S A n cap e w hcl hcc hc hcok hl ha).mono ?_
  rintro en w1 ⟨rfl, hb1⟩
  rw [errV_n HR.out]
  go_wp2_with fail
  go_ret2
  exact ⟨⟨_, rfl, .inl ⟨rcE c S e, HR.out, by rw [errV_n HR.out]; rfl, fun h => HR.out h.1⟩⟩, hb1⟩

set_option maxHeartbeats 4000000 in
set_option maxRecDepth 100000 in
theorem trial_ok (c : List Acc) (S : List Bal) (CA A : Option Addr) (cn ccap n cap : Nat) (e : Int) (p : Nat) (w : World) (hcl : cn ≤ 9223372036854775807) (hcc : cn ≤ ccap) (hc : Accs w CA cn c) (hcok : AccOk c) (hl : n ≤ 9223372036854775807) (ha : Rd w 4 balEnc A n S) (hp : p ≤ 6) (hz : Sized c S)
    (hlf : w.cell? ⟨2, 0, none⟩ = some (.int .i64 8)) (hr : rcE c S e = 0) :
    Calls Tryz.prog 4 #[.slice CA cn ccap, .slice A n cap, .int .i64 e, .int .i64 (p : Int)] w fun en w' => (∃ r, en = .returned r ∧ TrPost c S e p r) ∧ Below w.heap.size w w' := by
  obtain ⟨i0, hi0, hz0, hz1, hz2⟩ := info_parts str_info
  obtain ⟨i1, hi1, hy0, hy1, hy2⟩ := info_parts int_infoT
  have HR := hide hr
  have hn : S.length = n := ha.1
  have HN := hide hn
  have HZ := hide hz
  have HP := hide hp
  have hlw := World.block_lt_of_cell? _ _ hlf
  have h200 : n ≤ 200 := by
    have h2 := (rcE_0 hr).2.1
    unfold balsE at h2
    by_cases h3 : 200 < S.length
    · rw [if_pos h3] at h2; cases h2
    · omega
  go_enter Tryz.func4, Tryz.ntmps4
  go_wp2_with fail
  refine (rcheck_any c CA cn ccap S A n cap e w hcl hcc hc hcok hl ha).mono ?_
  rintro en w1 ⟨rfl, hb1⟩
  rw [errV_0 HR.out]
  have hl1 := below_cell hb1 hlw hlf
  have hs1 := hb1.size
  clear hr hn hz
  go_wp2_with fail
  refine (show_any 0 p w1 (by omega) hp hl1).mono ?_
  rintro en w2 ⟨rfl, hb2⟩
  have hl2 := below_cell hb2 (by omega) hl1
  have hB2 := bthen hb1 (Nat.le_refl _) hb2
  clear hl1 hb2 hb1
  have hmm := @run_makeMap Tryz.prog
  go_wp2_with fail
  go_loopw [16, 53] (fun kv iv wr => ∃ k : Nat, k ≤ n ∧ iv = .int .i64 k ∧ Hid (St wr w2.heap.size w2.heap.size (w2.heap.size + 1) kv (curIn e (S.take k)) (curIn e (S.take k)) (debF e (S.take k)) (creF e (S.take k)) (accT c p e (S.take k))) ∧ Hid (found c e (S.take k)) ∧ Below w2.heap.size w2 wr) (fun _ iv _ => n - (intOf iv).toNat)
  case atStart => exact ⟨0, by omega, rfl, St.start w2 _ _, fun x hx => absurd hx (by simp), ((Below.refl _ _).alloc (Nat.le_refl _) _).alloc (by simp) _⟩
  case round =>
    obtain ⟨k, hk, rfl, HS, HF, hbr⟩ := hrel
    have hbw := bthen hB2 (Nat.le_refl _) hbr
    by_cases hlt : k < n
    · have hkl : k < S.length := by have := HN.out; omega
      obtain ⟨b, off, rfl, hcs⟩ := (Rd.below ha hbw).2 (by omega)
      have q0 := hcs k 0 _ hkl rfl
      have q1 := hcs k 1 _ hkl rfl
      have q2 := hcs k 2 _ hkl rfl
      have q3 := hcs k 3 _ hkl rfl
      rw [Nat.add_zero] at q0
      clear hcs
      have HTK := hide (take_step hkl)
      by_cases hx : S[k].ent = e
      · have HX := hide hx
        have hx1 : (S[k].ent != e) = false := by simp [hx]
        have hx2 : decide (S[k].ent ≠ e) = false := by simp [hx]
        have hBx0 := Bx.made wr e S[k]
        go_upto_region 18 with fail
        refine (trIndex c S[k].acc CA cn ccap wr.heap.size _ hcl ((hc.below hbw).alloc _) (by simp)).mono ?_
        rintro en w3 ⟨rfl, hb3⟩
        have hbx := bof_alloc hb3
        have hBx := hBx0.below hb3
        have hB3 := hbr.trans (hbx.mono hbr.size)
        have hcw3 := hc.below (hbw.trans (hbx.mono hbw.size))
        obtain ⟨x0, x1, x2, x3⟩ := hBx.cells
        have hcsz := (HZ.out.1 S[k] (List.getElem_mem hkl)).2.1
        have hcm : S[k].cur.size ≤ maxLen := by unfold maxLen; omega
        clear hBx0 hb3
        by_cases hi : 0 ≤ idxI c S[k].acc
        · obtain ⟨j, hj, hj1, hj2, hj3⟩ := idx_found hi
          rw [hj1]
          have j0 : ¬ (j : Int) < 0 := by omega
          obtain ⟨q, hlk, hq⟩ : ∃ q : Option Addr, (Instr.lookup 44 (.map (some (w2.heap.size + 1))) (.string S[k].cur) false).run Tryz.prog w3 = .ok (.pointer q) w3 ∧ ((q = none ∧ S[k].cur ∉ curIn e (S.take k)) ∨ ∃ G v0 v1, q = some ⟨G, 0, none⟩ ∧ S[k].cur ∈ curIn e (S.take k) ∧ TAt w3 w2.heap.size w2.heap.size (w2.heap.size + 1) _ (curIn e (S.take k)) (curIn e (S.take k)) (debF e (S.take k)) (creF e (S.take k)) (accT c p e (S.take k)) S[k].cur G v0 v1 ∧ Asd wr.heap.size G v0 v1) := by
            by_cases hm : S[k].cur ∈ curIn e (S.take k)
            · obtain ⟨G, v0, v1, hT, _⟩ := HS.out.find hm hcm
              exact ⟨_, (hT.below hbx).look hcm (curIn_nodup _ _), .inr ⟨G, v0, v1, rfl, hm, hT.below hbx, hT.asd (Nat.le_refl _)⟩⟩
            · exact ⟨none, (HS.out.below hbx).miss hm hcm, .inl ⟨rfl, hm⟩⟩
          go_upto_if 72 with fail
          go_cut [16, 20] from 54 to 133 (fun s16 s20 wx => ∃ (G : Nat) (v0 v1 : Value), s20 = .pointer (some ⟨G, 0, none⟩) ∧ Hid (TAt wx w2.heap.size w2.heap.size (w2.heap.size + 1) s16 (curIn e (S.take k ++ [S[k]])) (curIn e (S.take k ++ [S[k]])) (debF e (S.take k)) (creF e (S.take k)) (accT c p e (S.take k)) S[k].cur G v0 v1) ∧ Hid (Bx wx wr.heap.size e S[k]) ∧ Hid (Asd wr.heap.size G v0 v1) ∧ Below w2.heap.size w2 wx)
          case first =>
            rcases hq with ⟨rfl, hm⟩ | ⟨G, v0, v1, rfl, hm, hT3, hA⟩
            rotate_left
            · have hA := hide hA
              go_wp2_with fail
              go_meet
              refine ⟨G, v0, v1, rfl, ?_, hBx, hA, hB3⟩
              rw [curIn_old HX.out hm]; exact hT3
            · clear hlk
              have hkl2 : (curIn e (S.take k)).length ≤ 200 := by
                have h3 := curIn_len (e := e) (S := S.take k)
                rw [List.length_take] at h3; omega
              have hblr := HS.out.kown.block
              have hx3 : wr.heap.size < w3.heap.size := hBx.lt
              have ha1 := (Below.refl w3.heap.size w3).alloc (Nat.le_refl _) (.cells #[.slice none 0 0, .slice none 0 0] 53)
              obtain ⟨w4, hru, hT4, hg4, hs4, hM1, hM2⟩ := HS.out.new (W := w3.alloc (.cells #[.slice none 0 0, .slice none 0 0] 53)) (f := w3.heap.size) hbr.size (hbx.alloc hbx.size _) (heap_alloc_new w3 _) hbx.size hm hcm (by unfold maxLen; omega) (debF_none hm) (creF_none hm)
              have hBxa := hBx.below ha1
              have hBx4 : Bx w4 wr.heap.size e S[k] := hBxa.grown hg4 (fun e => by injection e with e; omega)
              have hBa : Below w2.heap.size w2 (w3.alloc (.cells #[.slice none 0 0, .slice none 0 0] 53)) := hB3.alloc hB3.size _
              have hB4 : Below w2.heap.size w2 w4 := bgrown hBa hg4 hBa.size (fun i e => by injection e with e; omega)
              have y2 := hBxa.cells.2.2.1
              have z2 := hBx4.cells.2.2.1
              have hk4 := hT4.kown
              have hs4' := hB4.size
              clear hBxa hBa ha1 hs4
              go_wp2_with (at_builtin; go_loud (refine wpList_push _ rfl _ _ 39 rfl w2.heap.size 9 i0 (.string ⟨#[]⟩) 1 16 Tryz.underlying39 hi0 hz0 hz1 hz2 rfl (by decide) strEnc_ok _ (curIn e (S.take k)) rfl (hk4.alloc _) _ 1 1 [S[k].cur] rfl (Rd.boxed _ strEnc_ok _ _ _ rfl) (by intro h; cases h) (by simp only [maxLen]; omega) (by omega) (by simp; omega) ?_); intro v' w5 hown5 hg5 hat5)
              go_meet
              have ha4 := (Below.refl w4.heap.size w4).alloc (Nat.le_refl _) (.cells #[.string S[k].cur] 9)
              refine ⟨w3.heap.size, .slice none 0 0, .slice none 0 0, rfl, ?_, (hBx4.below ha4).grown hg5 (fun e => by have := (hblr _ e).2; omega), ⟨by omega, by simp [Value.ownBlock], by simp [Value.ownBlock]⟩, bgrown (hB4.alloc hs4' _) hg5 (by simp; omega) (fun i e => (hblr i e).1)⟩
              rw [curIn_new HX.out hm]
              exact (hT4.below ha4).key hg5 hown5 hat5
          case rest =>
          rename World => W3
          obtain ⟨G, v0, v1, rfl, HT, HBx, HA, hB4⟩ := hcut
          have hbsz : w2.heap.size < wr.heap.size := by
            have h1 := HS.out
            obtain ⟨_, _, _, _, _, _, h1⟩ := h1
            exact h1.bl.lt
          clear hlk hq hBx x0 x1 x2 x3 hcw3 hbx hB3 HS q0 q1 q2 q3 hbw hbr
          obtain ⟨x0, x1, x2, x3⟩ := HBx.out.cells
          obtain ⟨am, ham⟩ : ∃ am, am = S[k].amt := ⟨_, rfl⟩
          have HAM := hide ham
          have HA64 : Hid (am.natAbs ≤ 1000000000000000000) := by
            have h1 := balsE_may (rcE_0 HR.out).2.1 S[k] (List.getElem_mem hkl)
            show am.natAbs ≤ _
            rw [ham]
            unfold mayB inB at h1
            simp at h1; omega
          rw [← ham] at x3
          clear ham
          obtain ⟨sd, hsd⟩ : ∃ sd : ByteArray, sd = ⟨#[if am < 0 then 67 else 68]⟩ := ⟨_, rfl⟩
          have HSD := hide hsd
          clear hsd
          go_upto_region 23 with fail
          go_quiet (fail)
          have hbd : Below W3.heap.size W3 (W3.drewN nq) := bdrewN (Below.refl _ W3) nq
          have HT4 := hide (HT.out.below hbd)
          have HBx4 := hide (HBx.out.below hbd)
          have hB5 : Below w2.heap.size w2 (W3.drewN nq) := bdrewN hB4 nq
          clear x0 x1 x2 x3 hbd hB4 HT HBx
          generalize W3.drewN nq = W4 at HT4 HBx4 hB5 ⊢
          go_upto_if 87 with fail
          go_cut [21, 22] from 54 to 133 (fun s21 s22 wx => s21 = .string sd ∧ s22 = .int .i64 (am.natAbs : Nat) ∧ Hid (St wx w2.heap.size w2.heap.size (w2.heap.size + 1) _ (curIn e (S.take k ++ [S[k]])) (curIn e (S.take k ++ [S[k]])) (debF e (S.take k ++ [S[k]])) (creF e (S.take k ++ [S[k]])) (accT c p e (S.take k))) ∧ Hid (Bx wx wr.heap.size e S[k]) ∧ Below w2.heap.size w2 wx)
          case first =>
            have hA64 := HA64.out
            by_cases hneg : am < 0
            · have hw : IntKind.i64.wrap (-am) = -am := IntWalk.i64_in _ (by omega)
              obtain ⟨g0, g1, f0, f1, hGB, hGl⟩ := HT4.out.cells
              have hv := HT4.out.cre
              have hap := HT4.out.apart.2
              have hAs := hide HA.out
              have hs5 := hB5.size
              have hln : (creF e (S.take k) S[k].cur).length ≤ 200 := by
                have h3 : (creF e (S.take k) S[k].cur).length ≤ (S.take k).length := creds_len
                rw [List.length_take] at h3; omega
              go_wp2_with (at_builtin; go_loud (refine wpList_push _ rfl _ _ 51 rfl w2.heap.size 3 i1 (.int .i64 0) 1 8 Tryz.underlying51 hi1 hy0 hy1 hy2 rfl (by decide) intEnc2_ok _ (creF e (S.take k) S[k].cur) rfl (hv.alloc _) _ 1 1 [-am] rfl (Rd.boxed _ intEnc2_ok _ _ _ rfl) (by intro h; cases h) (by simp only [maxLen]; omega) (by omega) (by simp; omega) ?_); intro v' w5 hown5 hg5 hat5; obtain ⟨A5, c5, rfl, _, _⟩ := hown5.form; rw [List.length_append, List.length_singleton] at hown5 hat5 ⊢; have hh5 := (hg5.block G (by simp; omega) (fun e => hap e.symm)).trans ((heap_alloc_old W4 _ hGl).trans HT4.out.heap); have k0 := (Lib.cell_of_heap hh5 1); have k1 := Lib.frozen_of_heap hh5 1; have k2 : w5.cell? ⟨G, 1, none⟩ = some v1 := k0; clear k0)
              go_meet
              have ha4 := (Below.refl W4.heap.size W4).alloc (Nat.le_refl _) (.cells #[.int .i64 (-am)] 3)
              have hgB : ∀ i, v1.ownBlock = some i → w2.heap.size ≤ i := fun i e => (hv.block i e).1
              refine ⟨by rw [HSD.out, if_pos hneg], by rw [show ((am.natAbs : Nat) : Int) = -am from by omega], ?_, ?_, ?_⟩
              · refine TAt.pushC (n := -am) (HT4.out.below ha4) (curIn_nodup _ _) hg5 hown5 hat5 ?_ (fun y hy => creF_ne hy) (fun y => debF_off (by rw [← HAM.out]; exact hneg) y)
                rw [creF_on HX.out (by rw [← HAM.out]; exact hneg), HAM.out]
              · exact (((HBx4.out.below ha4).grown hg5 hAs.out.2.2).grown (row := some G) (only_setCell (only_refl _ _) _ _) (fun e => hAs.out.1 (by injection e)))
              · exact (bgrown (hB5.alloc hs5 _) hg5 (by simp; omega) hgB).setCell (p := ⟨G, 1, none⟩) hGB _
            · have hge : 0 ≤ am := by omega
              obtain ⟨g0, g1, f0, f1, hGB, hGl⟩ := HT4.out.cells
              have hv := HT4.out.deb
              have hap := HT4.out.apart.1
              have hAs := hide HA.out
              have hs5 := hB5.size
              have hln : (debF e (S.take k) S[k].cur).length ≤ 200 := by
                have h3 : (debF e (S.take k) S[k].cur).length ≤ (S.take k).length := debs_len
                rw [List.length_take] at h3; omega
              go_wp2_with (at_builtin; go_loud (refine wpList_push _ rfl _ _ 51 rfl w2.heap.size 3 i1 (.int .i64 0) 1 8 Tryz.underlying51 hi1 hy0 hy1 hy2 rfl (by decide) intEnc2_ok _ (debF e (S.take k) S[k].cur) rfl (hv.alloc _) _ 1 1 [am] rfl (Rd.boxed _ intEnc2_ok _ _ _ rfl) (by intro h; cases h) (by simp only [maxLen]; omega) (by omega) (by simp; omega) ?_); intro v' w5 hown5 hg5 hat5; obtain ⟨A5, c5, rfl, _, _⟩ := hown5.form; rw [List.length_append, List.length_singleton] at hown5 hat5 ⊢; have hh5 := (hg5.block G (by simp; omega) (fun e => hap e.symm)).trans ((heap_alloc_old W4 _ hGl).trans HT4.out.heap); have k0 := (Lib.cell_of_heap hh5 0); have k1 := Lib.frozen_of_heap hh5 0; have k2 : w5.cell? ⟨G, 0, none⟩ = some v0 := k0; clear k0)
              go_meet
              have ha4 := (Below.refl W4.heap.size W4).alloc (Nat.le_refl _) (.cells #[.int .i64 (am)] 3)
              have hgB : ∀ i, v0.ownBlock = some i → w2.heap.size ≤ i := fun i e => (hv.block i e).1
              refine ⟨by rw [HSD.out, if_neg (Int.not_lt.2 hge)], by rw [show ((am.natAbs : Nat) : Int) = am from by omega], ?_, ?_, ?_⟩
              · refine TAt.pushD (n := am) (HT4.out.below ha4) (curIn_nodup _ _) hg5 hown5 hat5 ?_ (fun y hy => debF_ne hy) (fun y => creF_off (by rw [← HAM.out]; exact (Int.not_lt.2 hge)) y)
                rw [debF_on HX.out (by rw [← HAM.out]; exact (Int.not_lt.2 hge)), HAM.out]
              · exact (((HBx4.out.below ha4).grown hg5 hAs.out.2.1).grown (row := some G) (only_setCell (only_refl _ _) _ _) (fun e => hAs.out.1 (by injection e)))
              · exact (bgrown (hB5.alloc hs5 _) hg5 (by simp; omega) hgB).setCell (p := ⟨G, 0, none⟩) hGB _
          case rest =>
          rename World => W5
          obtain ⟨rfl, rfl, HS5, HBx5, hB5⟩ := hcut
          have hA64 := HA64.out
          have hlf5 := below_cell hB5 (Nat.lt_of_lt_of_le hlw hB2.size) hl2
          go_wp2_with fail
          refine (show_any am.natAbs p W5 (by omega) HP.out hlf5).mono ?_
          rintro en w6 ⟨rfl, hb6⟩
          have HS6 := hide (HS5.out.below hb6)
          obtain ⟨x0, x1, x2, x3⟩ := (HBx5.out.below hb6).cells
          have hB6 := bthen hB5 (Nat.le_refl _) hb6
          have hs6 := hB6.size
          obtain ⟨cb, co, rfl, hcs⟩ := (hc.below (bthen hB2 (Nat.le_refl _) hB6)).at_ (by have := hc.1; omega)
          obtain ⟨z0, z1, z2, z3, z4⟩ := hcs j hj
          have j1 : (0 : Int) ≤ (j : Int) := by omega
          have j2 : (j : Int) < (cn : Int) := by have := hc.1; omega
          have hcbl : cb < w.heap.size := by
            obtain ⟨b2, o2, e2, hc2⟩ := hc.at_ (by have := hc.1; omega)
            injection e2 with e2
            injection e2 with e2 _
            rw [e2]
            exact World.block_lt_of_cell? _ _ (hc2 j hj).1
          clear hcs hB5 HS5 hlf5
          go_upto_region 31 with fail
          have hw5 : wordsL [S[k].acc, c[j].name, S[k].cur, sd, showS am.natAbs p] = balL c p S[k] (accName c S[k].acc) := by
            rw [hj3, HSD.out, HAM.out]; rfl
          have hwl : (joinL (wordsL [S[k].acc, c[j].name, S[k].cur, sd, showS am.natAbs p])).length ≤ 1000000000 := by
            rw [hw5]
            obtain ⟨a1, a2, a3⟩ := HZ.out.1 S[k] (List.getElem_mem hkl)
            exact Nat.le_trans (balL_len a1 a2 (name_len HZ.out.2 _) a3 HP.out) (by decide)
          have htl : (accT c p e (S.take k)).length ≤ 100000000000000 := by
            refine Nat.le_trans (accT_len (sized_take HZ.out k) HP.out) ?_
            rw [List.length_take]
            exact Nat.le_trans (Nat.mul_le_mul_right _ (show min k S.length ≤ 200 by omega)) (by decide)
          have HWL := hide hwl
          have HTL := hide htl
          have HW5 := hide hw5
          clear hwl htl hw5 hA64
          have HST := hide (st_step (n := 5) [S[k].acc, c[j].name, S[k].cur, sd, showS am.natAbs p] HS6.out hB6 rfl (by decide) (by decide) HWL.out HTL.out (HBx5.out.below hb6) (by have := hbsz; omega) (Nat.lt_of_lt_of_le hcbl hB2.size) z1)
          have HST0 := hide (HST.out (w6.alloc (.cells #[.string S[k].acc, .string c[j].name, .string S[k].cur, .string sd, .string (showS am.natAbs p)] 9)).drew (bdrewN ((Below.refl _ w6).alloc (Nat.le_refl _) _) 1) ((Rd.lit w6 strEnc_ok _ 5 rfl _ _ rfl).below (bdrewN (Below.refl _ _) 1)))
          clear HWL HTL HST
          go_region_held3 (fun w' => w'.cell? ⟨wr.heap.size, 1, none⟩ = some (.string S[k].acc) ∧ w'.cell? ⟨wr.heap.size, 2, none⟩ = some (.string S[k].cur) ∧ w'.cell? ⟨cb, co + j * 5 + 1, none⟩ = some (.string c[j].name)) (first | exact hS8 | go_keep)
            (first | (go_at_call 9; go_loud (refine HST0.out.mono ?_); rintro en w8 ⟨rfl, HQ8, hS8⟩))
          all_goals
            go_wp2_with fail
            go_roundw
            case rel =>
              refine ⟨k + 1, by omega, by go_num, ?_, ?_, HQ8.out.2⟩
              · show St _ _ _ _ _ _ _ _ _ _
                rw [HTK.out, accT_own HX.out, ← HW5.out]; exact HQ8.out.1
              · show found _ _ _
                rw [HTK.out]; exact found_snoc.2 ⟨HF.out, fun _ => hi⟩
            case measure => simp [intOf]; omega
        · have hi' : idxI c S[k].acc < 0 := by omega
          go_wp2_with fail
          go_ret2
          exact ⟨⟨_, rfl, .inl ⟨6, by decide, rfl, fun h => absurd (h.2.1 S[k] (List.getElem_mem hkl) HX.out) (by omega)⟩⟩, hbw.trans (hbx.mono hbw.size)⟩
      · have HX := hide hx
        go_wp2_with fail
        go_roundw
        case rel =>
          refine ⟨k + 1, by omega, by go_num, ?_, ?_, hbr.alloc hbr.size _⟩
          · rw [HTK.out, accT_not HX.out, debF_not HX.out, creF_not HX.out, curIn_not HX.out]; exact HS.out.below ((Below.refl _ _).alloc (Nat.le_refl _) _)
          · show found _ _ _
            rw [HTK.out]; exact found_snoc.2 ⟨HF.out, fun h => absurd h HX.out⟩
        case measure => simp [intOf]; omega
    · have hkn : k = S.length := by have := HN.out; omega
      subst hkn
      rw [List.take_length] at HS HF
      have hown := HS.out.kown
      obtain ⟨KA, kc, rfl, hkc, hkm⟩ := hown.form
      have hk200 : (curIn e S).length ≤ 200 := Nat.le_trans curIn_len (by omega)
      go_wp2_with fail
      refine (sort_strs (curIn e S) _ _ wr hown (by omega)).mono ?_
      rintro en w3 ⟨rfl, ks, hperm, hks, hgr⟩
      have HS3 := hide (HS.out.key hgr hks (.inl rfl))
      have hB3 := bgrown hbr hgr hbr.size (fun i e => (hown.block i e).1)
      have hkl := hperm.length_eq
      have HPM := hide hperm
      rw [← hkl] at HS3 hks hk200 hkc ⊢
      clear hgr hown HS hbr hbw hkl hlt hk hperm
      go_wp2_with fail
      go_loopw [138] (fun iv wq => ∃ q : Nat, q ≤ ks.length ∧ iv = .int .i64 q ∧ Hid (St wq w2.heap.size w2.heap.size (w2.heap.size + 1) (.slice KA ks.length kc) (curIn e S) ks (debF e S) (creF e S) (accT c p e S ++ totT p e S (ks.take q))) ∧ Hid (∀ y, y ∈ ks.take q → sumOk e S y) ∧ Below w2.heap.size w2 wq) (fun iv _ => ks.length - (intOf iv).toNat)
      case atStart => exact ⟨0, by omega, rfl, by show St _ _ _ _ _ _ _ _ _ _; simpa [totT] using HS3.out, fun y hy => absurd hy (by simp), hB3⟩
      case round =>
        obtain ⟨q, hq, rfl, HSq, HOq, hbq⟩ := hrel
        by_cases hlt : q < ks.length
        · have hrd := (HSq.out.kown.rd strEnc_ok).2 (by omega)
          obtain ⟨kb, ko, rfl, hcs⟩ := hrd
          have q0 := hcs q 0 _ hlt rfl
          rw [Nat.mul_one, Nat.add_zero] at q0
          clear hcs
          have hym : ks[q] ∈ curIn e S := HPM.out.mem_iff.1 (List.getElem_mem hlt)
          obtain ⟨y, hy⟩ : ∃ y, y = ks[q] := ⟨_, rfl⟩
          rw [← hy] at q0 hym
          have HY := hide hy
          clear hy
          have hysz : y.size ≤ 1048576 := by
            obtain ⟨x, hx, _, rfl⟩ := (curIn_mem e S y).1 hym
            exact (HZ.out.1 x hx).2.1
          obtain ⟨G, v0, v1, hT, hlk⟩ := HSq.out.find hym (by unfold maxLen; omega)
          obtain ⟨g0, g1, _, _, hGB, hGl⟩ := hT.cells
          obtain ⟨DA, dc, rfl, _, _⟩ := hT.deb.form
          obtain ⟨XA, xc, rfl, _, _⟩ := hT.cre.form
          have HTq := hide hT
          clear hT
          go_upto_region 38 with fail
          clear q0
          have hTd := HTq.out.below (bdrewN (Below.refl _ wr) 1)
          have hlkd : (Instr.lookup 44 (.map (some (w2.heap.size + 1))) (.string y) false).run Tryz.prog wr.drew = .ok (.pointer (some ⟨G, 0, none⟩)) wr.drew := hTd.look (by unfold maxLen; omega) (curIn_nodup _ _)
          have HTd := hide hTd
          clear hTd
          go_cut [154, 155, 156] from 139 to 189 (fun s154 s155 s156 wx => s154 = .slice (some ⟨wr.heap.size, 0, none⟩) 2 2 ∧ s155 = .int .i64 2 ∧ s156 = .int .i64 0 ∧ wx = (wr.alloc (.cells #[.slice DA (debF e S y).length dc, .slice XA (creF e S y).length xc] 51)).drew)
          case first =>
            go_region_held3 (fun w' => w'.cell? ⟨G, 0, none⟩ = some (.slice DA (debF e S y).length dc) ∧ w'.cell? ⟨G, 1, none⟩ = some (.slice XA (creF e S y).length xc)) (first | go_keep) (fail)
            all_goals
              go_wp2_with fail
              go_meet
              exact ⟨rfl, rfl, rfl, rfl⟩
          case rest =>
          rename World => W4
          obtain ⟨rfl, rfl, rfl, hW4⟩ := hcut
          have hb4 : Below wr.heap.size wr W4 := by rw [hW4]; exact bdrewN ((Below.refl _ wr).alloc (Nat.le_refl _) _) 1
          have e0 : W4.cell? ⟨wr.heap.size, 0, none⟩ = some (.slice DA (debF e S y).length dc) := by rw [hW4]; simp
          have e1 : W4.cell? ⟨wr.heap.size, 1, none⟩ = some (.slice XA (creF e S y).length xc) := by rw [hW4]; simp
          have hs4 : W4.heap.size = wr.heap.size + 1 := by rw [hW4]; simp
          have hT4 := hide (HTq.out.below hb4)
          have hB4 := bthen hbq (Nat.le_refl _) hb4
          have HS4 := hide hs4
          clear hW4 hs4 g0 g1 hlkd HTd HTq hb4
          go_wp2_with fail
          obtain ⟨X0, hX0⟩ : ∃ X : Nat, X = (debF e S y).sum.toNat := ⟨_, rfl⟩
          obtain ⟨X1, hX1⟩ : ∃ X : Nat, X = (creF e S y).sum.toNat := ⟨_, rfl⟩
          have HX0 := hide hX0
          have HX1 := hide hX1
          clear hX0 hX1
          go_loopw [27, 156] (fun bv jv wi => ∃ j : Nat, j ≤ 2 ∧ jv = .int .i64 j ∧ Own wi W4.heap.size 9 1 strEnc bv ([showS X0 p, showS X1 p].take j) ∧ Hid (1 ≤ j → in64 (debF e S y).sum = true) ∧ Hid (2 ≤ j → in64 (creF e S y).sum = true) ∧ Below W4.heap.size W4 wi) (fun _ jv _ => 2 - (intOf jv).toNat)
          case atStart => exact ⟨0, by omega, rfl, Own.nil _ _ _ _ _, (fun h => absurd h (by omega)), (fun h => absurd h (by omega)), Below.refl _ _⟩
          case round =>
            obtain ⟨j, hj, rfl, hbo, HD, HC, hbi⟩ := hrel
            have hTi := hT4.out.below hbi
            have e0i := below_cell hbi (by have := HS4.out; omega) e0
            have e1i := below_cell hbi (by have := HS4.out; omega) e1
            have hBi := bthen hB4 (Nat.le_refl _) hbi
            have hlfi := below_cell hBi (Nat.lt_of_lt_of_le hlw hB2.size) hl2
            have hcase : j = 0 ∨ j = 1 ∨ j = 2 := by omega
            rcases hcase with rfl | rfl | rfl
            · have hln : (debF e S y).length ≤ 200 := Nat.le_trans debs_len (by have := HN.out; omega)
              have hr := hTi.deb.rd intEnc2_ok
              have hi64 : Ints64 (debF e S y) := debs_ints (balsE_may (rcE_0 HR.out).2.1)
              go_wp2_with fail
              refine (msum_any (debF e S y) DA _ dc _ hr (by omega) hi64).mono ?_
              rintro en w5 ⟨rfl, hb5⟩
              by_cases hv : in64 (debF e S y).sum = true
              · have HV := hide hv
                obtain ⟨hV, hE, hmx⟩ := in64_nat hv debs_nonneg
                have hV : smV (debF e S y).sum = (X0 : Int) := by rw [HX0.out]; exact hV
                have hmx : X0 ≤ 9223372036854775807 := by rw [HX0.out]; exact hmx
                rw [hV, hE]
                have hlf5 := below_cell (bthen hBi (Nat.le_refl _) hb5) (Nat.lt_of_lt_of_le hlw hB2.size) hl2
                have hbo5 := hbo.below hb5
                have hbi5 := bthen hbi (Nat.le_refl _) hb5
                clear hV hE hv hr hi64
                go_wp2_with fail
                refine (show_any X0 p w5 hmx HP.out hlf5).mono ?_
                rintro en w6 ⟨rfl, hb6⟩
                have hbo6 := hbo5.below hb6
                have hbi6 := bthen hbi5 (Nat.le_refl _) hb6
                have hs6 := hbi6.size
                go_wp2_with (at_builtin; go_loud (refine wpList_push _ rfl _ _ 39 rfl W4.heap.size 9 i0 (.string ⟨#[]⟩) 1 16 Tryz.underlying39 hi0 hz0 hz1 hz2 rfl (by decide) strEnc_ok _ [] rfl (hbo6.alloc _) _ 1 1 [showS X0 p] rfl (Rd.boxed _ strEnc_ok _ _ _ rfl) (by intro h; cases h) (show 0 + 1 ≤ maxLen from by decide) (show (0 + 1) * 16 ≤ 140737488355328 from by decide) (by simp; omega) ?_); intro v' w7 hown7 hg7 hat7)
                go_roundw
                case rel => exact ⟨1, by omega, rfl, hown7, (fun _ => HV.out), (fun h => absurd h (by omega)), bgrown (hbi6.alloc hs6 _) hg7 (by simp; omega) (fun i e => (hbo6.block i e).1)⟩
                case measure => simp [intOf]
              · rw [in64_bad hv]
                have HV := hide hv
                go_wp2_with fail
                go_ret2
                exact ⟨⟨_, rfl, .inl ⟨10, by decide, rfl, fun h => HV.out (h.2.2 y hym).1⟩⟩, bthen hB2 (Nat.le_refl _) (bthen hBi (Nat.le_refl _) hb5)⟩
            · have hln : (creF e S y).length ≤ 200 := Nat.le_trans creds_len (by have := HN.out; omega)
              have hr := hTi.cre.rd intEnc2_ok
              have hi64 : Ints64 (creF e S y) := creds_ints (balsE_may (rcE_0 HR.out).2.1)
              go_wp2_with fail
              refine (msum_any (creF e S y) XA _ xc _ hr (by omega) hi64).mono ?_
              rintro en w5 ⟨rfl, hb5⟩
              by_cases hv : in64 (creF e S y).sum = true
              · have HV := hide hv
                obtain ⟨hV, hE, hmx⟩ := in64_nat hv creds_nonneg
                have hV : smV (creF e S y).sum = (X1 : Int) := by rw [HX1.out]; exact hV
                have hmx : X1 ≤ 9223372036854775807 := by rw [HX1.out]; exact hmx
                rw [hV, hE]
                have hlf5 := below_cell (bthen hBi (Nat.le_refl _) hb5) (Nat.lt_of_lt_of_le hlw hB2.size) hl2
                have hbo5 := hbo.below hb5
                have hbi5 := bthen hbi (Nat.le_refl _) hb5
                clear hV hE hv hr hi64
                go_wp2_with fail
                refine (show_any X1 p w5 hmx HP.out hlf5).mono ?_
                rintro en w6 ⟨rfl, hb6⟩
                have hbo6 := hbo5.below hb6
                have hbi6 := bthen hbi5 (Nat.le_refl _) hb6
                have hs6 := hbi6.size
                go_wp2_with (at_builtin; go_loud (refine wpList_push _ rfl _ _ 39 rfl W4.heap.size 9 i0 (.string ⟨#[]⟩) 1 16 Tryz.underlying39 hi0 hz0 hz1 hz2 rfl (by decide) strEnc_ok _ [showS X0 p] rfl (hbo6.alloc _) _ 1 1 [showS X1 p] rfl (Rd.boxed _ strEnc_ok _ _ _ rfl) (by intro h; cases h) (show 1 + 1 ≤ maxLen from by decide) (show (1 + 1) * 16 ≤ 140737488355328 from by decide) (by simp; omega) ?_); intro v' w7 hown7 hg7 hat7)
                go_roundw
                case rel => exact ⟨2, by omega, rfl, hown7, (fun _ => HD.out (by omega)), (fun _ => HV.out), bgrown (hbi6.alloc hs6 _) hg7 (by simp; omega) (fun i e => (hbo6.block i e).1)⟩
                case measure => simp [intOf]
              · rw [in64_bad hv]
                have HV := hide hv
                go_wp2_with fail
                go_ret2
                exact ⟨⟨_, rfl, .inl ⟨10, by decide, rfl, fun h => HV.out (h.2.2 y hym).2⟩⟩, bthen hB2 (Nat.le_refl _) (bthen hBi (Nat.le_refl _) hb5)⟩
            · have hbo2 : Own _ W4.heap.size 9 1 strEnc _ [showS X0 p, showS X1 p] := hbo
              have HOk := hide (show sumOk e S y from ⟨HD.out (by omega), HC.out (by omega)⟩)
              rcases hbo2.2 with ⟨_, h0⟩ | ⟨g9, c9, cur, rfl, hB9, hg9, hc9, _, hcs9, ht9⟩
              · exact absurd h0 (Nat.succ_ne_zero 1)
              have hcl : 2 ≤ cur.toList.length := by
                have h9 := congrArg List.length ht9
                rw [List.length_take] at h9
                have h10 : (([showS X0 p, showS X1 p] : List ByteArray).flatMap strEnc).length = 2 := rfl
                rw [h10] at h9
                have h11 : (([showS X0 p, showS X1 p] : List ByteArray).length * 1) = 2 := rfl
                rw [h11] at h9
                omega
              have hc0 : cur[0]? = some (.string (showS X0 p)) := by
                have h9 := congrArg (fun l : List Value => l[0]?) ht9
                simp only [List.getElem?_take] at h9
                rw [← Array.getElem?_toList]
                simpa [strEnc] using h9
              have hc1 : cur[1]? = some (.string (showS X1 p)) := by
                have h9 := congrArg (fun l : List Value => l[1]?) ht9
                simp only [List.getElem?_take] at h9
                rw [← Array.getElem?_toList]
                simpa [strEnc] using h9
              have f0 := (Lib.cell_of_heap hg9 0).trans hc0
              have f1 := (Lib.cell_of_heap hg9 1).trans hc1
              have hb2 := hB4.size
              have hw4 : wordsL [⟨#[116, 111, 116, 97, 108]⟩, y, showS X0 p, showS X1 p] = totL p e S y := by rw [HX0.out, HX1.out]; rfl
              have hwl : (joinL (wordsL [⟨#[116, 111, 116, 97, 108]⟩, y, showS X0 p, showS X1 p])).length ≤ 1000000000 := by
                rw [hw4]; exact Nat.le_trans (totL_len hysz HOk.out HP.out) (by decide)
              have htl : (accT c p e S ++ totT p e S (ks.take q)).length ≤ 100000000000000 := by
                rw [List.length_append]
                have h1 := accT_len (p := p) (e := e) HZ.out HP.out
                have h2 := totT_len (p := p) (e := e) (S := S) (ks := ks.take q) (fun z hz => ⟨by
                  obtain ⟨x, hx, _, rfl⟩ := (curIn_mem e S z).1 (HPM.out.mem_iff.1 (List.mem_of_mem_take hz))
                  exact (HZ.out.1 x hx).2.1, HOq.out z hz⟩) HP.out
                have h3 : (ks.take q).length * 5300000 ≤ 200 * 5300000 := Nat.mul_le_mul_right _ (by rw [List.length_take]; omega)
                have h4 : S.length * 5300000 ≤ 200 * 5300000 := Nat.mul_le_mul_right _ (by have := HN.out; omega)
                exact Nat.le_trans (Nat.add_le_add (Nat.le_trans h1 h4) (Nat.le_trans h2 h3)) (by decide)
              have HST := hide (st_step2 (n := 4) [⟨#[116, 111, 116, 97, 108]⟩, y, showS X0 p, showS X1 p] hTi.st hBi rfl (by decide) (by decide) hwl htl hg9 (by have := HS4.out; have := hbq.size; omega) f0 f1)
              have HST0 := hide (HST.out (World.drew (World.alloc _ (.cells #[.string ⟨#[116, 111, 116, 97, 108]⟩, .string y, .string (showS X0 p), .string (showS X1 p)] 9))) (bdrewN ((Below.refl _ _).alloc (Nat.le_refl _) _) 1) ((Rd.lit _ strEnc_ok _ 4 rfl _ _ rfl).below (bdrewN (Below.refl _ _) 1)))
              have HW4 := hide hw4
              clear hwl htl HST hw4 hcl hc0 hc1 ht9 hcs9 hg9 hbo hbo2 e0i e1i
              go_upto_region 47 with fail
              go_region_held3 (fun w' => w'.cell? ⟨g9, 0, none⟩ = some (.string (showS X0 p)) ∧ w'.cell? ⟨g9, 1, none⟩ = some (.string (showS X1 p))) (first | exact hS8 | go_keep)
                (first | (go_at_call 9; go_loud (refine HST0.out.mono ?_); rintro en w8 ⟨rfl, HQ8, hS8⟩))
              all_goals
                go_wp2_with fail
                go_roundw
                case rel =>
                  refine ⟨q + 1, by omega, by go_num, ?_, ?_, HQ8.out.2⟩
                  · show St _ _ _ _ _ _ _ _ _ _
                    rw [List.take_succ_eq_append_getElem hlt, ← HY.out, totT_snoc, ← HW4.out, ← List.append_assoc]; exact HQ8.out.1
                  · show ∀ z, _ → _
                    rw [List.take_succ_eq_append_getElem hlt, ← HY.out]
                    intro z hz
                    rcases List.mem_append.1 hz with h | h
                    · exact HOq.out z h
                    · obtain rfl := List.mem_singleton.1 h; exact HOk.out
                case measure => simp [intOf]; omega
        · have hqn : q = ks.length := by omega
          subst hqn
          rw [List.take_length] at HSq HOq
          have hbl : ∃ vb pb, Bl wr w2.heap.size w2.heap.size vb pb (accT c p e S ++ totT p e S ks) := by
            obtain ⟨_, _, _, _, vb, pb, h1⟩ := HSq.out
            exact ⟨vb, pb, h1.bl⟩
          obtain ⟨vb, pb, hbl⟩ := hbl
          go_wp2_with fail
          refine (Tryz.Builder_String_any w2.heap.size w2.heap.size _ _ hbl.is hbq.size).mono ?_
          rintro en w9 ⟨rfl, hb9⟩
          go_wp2_with fail
          go_ret2
          exact ⟨⟨_, rfl, .inr ⟨⟨HR.out, HF.out, fun y hy => HOq.out y (HPM.out.mem_iff.2 hy)⟩, ks, HPM.out, rfl⟩⟩, hB2.trans ((hbq.trans hb9).mono hB2.size)⟩
end Go.Proofs.YtjojjicpdfmopaaGreatDoor
