/- Great numbers: (Int).Sub into itself. -/
import Derived.Test.YtbdbpcllndajgaaGreatDoorMulX
import Derived.Test.YtbdbpcllndajgaaGreatDoorDwE
import Derived.LaidEqlPtr
namespace Go.Proofs.YtbdbpcllndajgaaGreatDoor
open Go Go.RowKit
set_option linter.unusedVariables false

theorem BigAt.put_frame {w0 w w' : World} {B g : Nat} {V V' : Value} {x r : Int} (h : BigAt w B g V x) (hG : Gave w w' B V V' (wordsOf r.natAbs)) (hh : w.heap = w0.heap) :
    (∀ (u v : Value) (b : Nat), b < w0.heap.size → b ≠ g → V.ownBlock ≠ some b → ((w'.setCell ⟨g, 1, none⟩ u).setCell ⟨g, 0, none⟩ v).heap[b]? = w0.heap[b]?) ∧ (V'.ownBlock = V.ownBlock ∨ ∃ k, V'.ownBlock = some k ∧ w0.heap.size ≤ k) ∧ ∀ u v : Value, Blk w0 g → Blk ((w'.setCell ⟨g, 1, none⟩ u).setCell ⟨g, 0, none⟩ v) g := by
  refine ⟨?_, ?_, ?_⟩
  · intro u v b h1 h2 h3
    rw [← hh] at h1 ⊢
    exact (Below.heap_setCell _ ⟨g, 0, none⟩ v b h2).trans ((Below.heap_setCell _ ⟨g, 1, none⟩ u b h2).trans (hG.grown.block b h1 (fun e => h3 e.symm)))
  · rw [← hh]; exact hG.at_
  · intro u v hb
    have h1 : Blk w g := by obtain ⟨cs, t, e⟩ := hb; exact ⟨cs, t, by rw [hh]; exact e⟩
    exact ((h1.grown hG.grown h.vg).setCell g 1 u).setCell g 0 v
set_option maxRecDepth 100000 in
theorem natSub_00 (B c yc : Nat) (A YA : Option Addr) (w : World) (h : Wds w B (.slice A 0 c) []) :
    Calls Tryz.prog 103 #[.slice A 0 c, .slice A 0 c, .slice YA 0 yc] w fun e w' => ∃ V', e = .returned V' ∧ Gave w w' B (.slice A 0 c) V' [] := by
  go_enter Tryz.func103, Tryz.ntmps103
  go_wp2_with fail
  go_ret
  exact ⟨_, rfl, Gave.same h 0⟩
theorem natSubV0 (B a b n c yn yc : Nat) (A YA : Option Addr) (w : World) (ha : a < W64 * W64) (hab : b ≤ a) (h : Wds w B (.slice A n c) (wordsOf a)) (hn : n = (wordsOf a).length) (hy : YWds w YA yn b) (hyc : yn ≤ yc) :
    Calls Tryz.prog 103 #[.slice A n c, .slice A n c, .slice YA yn yc] w fun e w' => ∃ V', e = .returned V' ∧ Gave w w' B (.slice A n c) V' (wordsOf (a - b)) := by
  by_cases h0 : a = 0
  · subst h0
    obtain rfl : b = 0 := by omega
    rw [wordsOf_0] at h hn
    obtain rfl : n = 0 := hn
    obtain rfl : yn = 0 := by rcases hy.cases with ⟨_, e⟩ | ⟨e, _⟩ <;> omega
    exact natSub_00 B c yc A YA w h
  · exact natSubV B a b n c yn yc A YA w ha hab h0 h hn hy hyc

set_option maxHeartbeats 8000000 in
set_option maxRecDepth 100000 in
theorem bigSub_any (B g gy yn yc : Nat) (V : Value) (x y : Int) (YA : Option Addr) (w : World) (hBw : B ≤ w.heap.size) (h : BigAt w B g V x) (hy : BigRd w gy y YA yn yc) (hv : x.natAbs + y.natAbs < W64 * W64) :
    Calls Tryz.prog 58 #[.pointer (some ⟨g, 0, none⟩), .pointer (some ⟨g, 0, none⟩), .pointer (some ⟨gy, 0, none⟩)] w
      fun e w' => e = .returned (.pointer (some ⟨g, 0, none⟩)) ∧ ∃ V', BigAt w' B g V' (x - y) ∧ Below B w w' ∧ (∀ b, b < w.heap.size → b ≠ g → V.ownBlock ≠ some b → w'.heap[b]? = w.heap[b]?) ∧ (V'.ownBlock = V.ownBlock ∨ ∃ k, V'.ownBlock = some k ∧ w.heap.size ≤ k) ∧ (Blk w g → Blk w' g) := by
  obtain ⟨A, c, rfl⟩ := h.form
  have c0 := h.c0
  have c1 := h.c1
  have y0 := hy.c0
  have y1 := hy.c1
  by_cases hx : x < 0
  · by_cases hy' : ¬ y < 0
    · have dx : decide (x < 0) = true := by simp; omega
      have dy : decide (y < 0) = false := by simp; omega
      have hr : (x - y).natAbs = x.natAbs + y.natAbs := by omega
      have hdr : decide (x - y < 0) = true := by simp; omega
      have hnz : x.natAbs + y.natAbs ≠ 0 := by omega
      rw [dx] at c0
      rw [dy] at y0
      go_enter Tryz.func58, Tryz.ntmps58
      go_wp2_with fail
      go_quiet (fail)
      rename Nat => nW
      have hW : BigAt (w.drewN (nW + 1)) B g (.slice A (wordsOf x.natAbs).length c) x := h.below (bdrewN (Below.refl _ w) (nW + 1))
      have hYW : YWds (w.drewN (nW + 1)) YA yn y.natAbs := ⟨hy.wds.1, hy.wds.2⟩
      have hWb : Below B w (w.drewN (nW + 1)) := bdrewN (Below.refl B w) (nW + 1)
      have hWh : Hid ((w.drewN (nW + 1)).heap = w.heap) := hide rfl
      have hWs : B ≤ (w.drewN (nW + 1)).heap.size := hBw
      go_wp2_with fail
      go_region_law (go_simp; go_at_call 101; refine (natAddV B x.natAbs y.natAbs _ c yn yc A YA _ hWs hv hW.wds rfl hYW hy.cap).mono ?_; rintro e w3 ⟨V3, rfl, hG⟩; obtain ⟨k0, k1, kf0, kf1, A3, cc3, rfl⟩ := hW.kept hG)
      all_goals
        have hlen : (0 : Int) < ((wordsOf (x.natAbs + y.natAbs)).length : Int) := by
          have := words_pos (v := x.natAbs + y.natAbs) hnz
          omega
        have hG2 : Gave (w.drewN (nW + 1)) w3 B (.slice A (wordsOf x.natAbs).length c) (.slice A3 (wordsOf (x.natAbs + y.natAbs)).length cc3) (wordsOf (x - y).natAbs) := by rw [hr]; exact hG
        go_wp2_with fail
      all_goals
        go_ret
        have hp := hW.put hG2
        rw [hdr] at hp
        exact ⟨rfl, _, hp, hW.put_below (r := x - y) hG2 hWb hWs (Nat.le_refl _) _, fun b h1 h2 h3 => (hW.put_frame hG2 hWh.out).1 _ _ b h1 h2 h3, (hW.put_frame hG2 hWh.out).2.1, (hW.put_frame hG2 hWh.out).2.2 _ _⟩
    · by_cases hxy : y.natAbs ≤ x.natAbs
      · have dx : decide (x < 0) = true := by simp; omega
        have dy : decide (y < 0) = true := by simp; omega
        have hr : (x - y).natAbs = x.natAbs - y.natAbs := by omega
        have hv2 : x.natAbs < W64 * W64 := by omega
        have hcm : (0 : Int) ≤ cmpN x.natAbs y.natAbs := by unfold cmpN; split <;> (try split) <;> omega
        rw [dx] at c0
        rw [dy] at y0
        go_enter Tryz.func58, Tryz.ntmps58
        go_wp2_with fail
        go_quiet (fail)
        go_wp2_with fail
        rename Nat => nW
        have hWa : BigAt (w.drewN nW) B g (.slice A (wordsOf x.natAbs).length c) x := h.below (bdrewN (Below.refl _ w) nW)
        have hYa : BigRd (w.drewN nW) gy y YA yn yc := ⟨hy.c0, hy.c1, ⟨hy.wds.1, hy.wds.2⟩, hy.cap⟩
        have hWb : Below B w (w.drewN nW) := bdrewN (Below.refl B w) nW
        have hWh : Hid ((w.drewN nW).heap = w.heap) := hide rfl
        have hWs : B ≤ (w.drewN nW).heap.size := hBw
        clear c0 c1 y0 y1
        generalize w.drewN nW = wa at hWa hYa hWb hWs hWh ⊢
        have c0 := hWa.c0
        have c1 := hWa.c1
        have y0 := hYa.c0
        have y1 := hYa.c1
        rw [dx] at c0
        rw [dy] at y0
        refine wp_region_still_tail 8 (by kernel_rfl) (by kernel_rfl) ?_
        simp only [List.take_succ_cons, List.take_zero, List.drop_succ_cons, List.drop_zero]
        change wpStill _ _ wa.drew _ _ _
        repeat still_step
        refine wpStill_nil ?_
        change wpList _ _ _ _ _ wa.drew
        have hWa : BigAt wa.drew B g (.slice A (wordsOf x.natAbs).length c) x := hWa.below (bdrewN (Below.refl _ wa) 1)
        have hYa : BigRd wa.drew gy y YA yn yc := ⟨hYa.c0, hYa.c1, ⟨hYa.wds.1, hYa.wds.2⟩, hYa.cap⟩
        have hWb : Below B w wa.drew := bdrewN hWb 1
        have hWh : Hid (wa.drew.heap = w.heap) := hWh
        have hWs : B ≤ wa.drew.heap.size := hWs
        clear c0 c1 y0 y1
        generalize wa.drew = wb at hWa hYa hWb hWs hWh ⊢
        go_wp2_with fail
        refine (natCmpV B x.natAbs y.natAbs _ c yn yc A YA _ hv2 hWa.wds rfl hYa.wds hYa.cap).mono ?_
        rintro e w3 ⟨rfl, n3, rfl⟩
        have hWa : BigAt (wb.drewN n3) B g (.slice A (wordsOf x.natAbs).length c) x := hWa.below (bdrewN (Below.refl _ wb) n3)
        have hYa : BigRd (wb.drewN n3) gy y YA yn yc := ⟨hYa.c0, hYa.c1, ⟨hYa.wds.1, hYa.wds.2⟩, hYa.cap⟩
        have hWb : Below B w (wb.drewN n3) := bdrewN hWb n3
        have hWh : Hid ((wb.drewN n3).heap = w.heap) := hWh
        have hWs : B ≤ (wb.drewN n3).heap.size := hWs
        generalize wb.drewN n3 = wc at hWa hYa hWb hWs hWh ⊢
        have c0 := hWa.c0
        have c1 := hWa.c1
        have y0 := hYa.c0
        have y1 := hYa.c1
        rw [dx] at c0
        rw [dy] at y0
        go_wp2_with fail
        have hW : BigAt wc.drew B g (.slice A (wordsOf x.natAbs).length c) x := hWa.below (bdrewN (Below.refl _ wc) 1)
        have hYW : YWds wc.drew YA yn y.natAbs := ⟨hYa.wds.1, hYa.wds.2⟩
        have hWb : Below B w wc.drew := bdrewN hWb 1
        have hWh : Hid (wc.drew.heap = w.heap) := hWh
        have hWs : B ≤ wc.drew.heap.size := hWs
        go_region_law (go_simp; go_at_call 103; refine (natSubV0 B x.natAbs y.natAbs _ c yn yc A YA _ hv2 hxy hW.wds rfl hYW hy.cap).mono ?_; rintro e w3 ⟨V3, rfl, hG⟩; obtain ⟨k0, k1, kf0, kf1, A3, cc3, rfl⟩ := hW.kept hG)
        all_goals
          have hG2 : Gave wc.drew w3 B (.slice A (wordsOf x.natAbs).length c) (.slice A3 (wordsOf (x.natAbs - y.natAbs)).length cc3) (wordsOf (x - y).natAbs) := by rw [hr]; exact hG
          have hp := hW.put hG2
          have hpb := fun b => hW.put_below (r := x - y) hG2 hWb hWs (Nat.le_refl _) b
          have hpf := hide (hW.put_frame hG2 hWh.out)
          by_cases hz : x.natAbs - y.natAbs = 0
          · have hz0 : (wordsOf (x.natAbs - y.natAbs)).length = 0 := by rw [hz]; rfl
            have hdr : decide (x - y < 0) = false := by simp; omega
            rw [hdr] at hp
            rw [hz0] at hp hpb hpf ⊢
            clear hG hG2
            go_wp2_with fail
            go_ret
            exact ⟨rfl, _, hp, hpb _, fun b h1 h2 h3 => hpf.out.1 _ _ b h1 h2 h3, hpf.out.2.1, hpf.out.2.2 _ _⟩
          · have hlen : (0 : Int) < ((wordsOf (x.natAbs - y.natAbs)).length : Int) := by
              have := words_pos (v := x.natAbs - y.natAbs) hz
              omega
            have hdr : decide (x - y < 0) = true := by simp; omega
            rw [hdr] at hp
            clear hG hG2
            go_wp2_with fail
            all_goals
              go_ret
              exact ⟨rfl, _, hp, hpb _, fun b h1 h2 h3 => hpf.out.1 _ _ b h1 h2 h3, hpf.out.2.1, hpf.out.2.2 _ _⟩
      · have dx : decide (x < 0) = true := by simp; omega
        have dy : decide (y < 0) = true := by simp; omega
        have hr : (x - y).natAbs = y.natAbs - x.natAbs := by omega
        have hv2 : x.natAbs < W64 * W64 := by omega

        have hcm : ¬ (0 : Int) ≤ cmpN x.natAbs y.natAbs := by unfold cmpN; split <;> (try split) <;> omega
        rw [dx] at c0
        rw [dy] at y0
        go_enter Tryz.func58, Tryz.ntmps58
        go_wp2_with fail
        go_quiet (fail)
        go_wp2_with fail
        rename Nat => nW
        have hWa : BigAt (w.drewN nW) B g (.slice A (wordsOf x.natAbs).length c) x := h.below (bdrewN (Below.refl _ w) nW)
        have hYa : BigRd (w.drewN nW) gy y YA yn yc := ⟨hy.c0, hy.c1, ⟨hy.wds.1, hy.wds.2⟩, hy.cap⟩
        have hWb : Below B w (w.drewN nW) := bdrewN (Below.refl B w) nW
        have hWh : Hid ((w.drewN nW).heap = w.heap) := hide rfl
        have hWs : B ≤ (w.drewN nW).heap.size := hBw
        clear c0 c1 y0 y1
        generalize w.drewN nW = wa at hWa hYa hWb hWs hWh ⊢
        have c0 := hWa.c0
        have c1 := hWa.c1
        have y0 := hYa.c0
        have y1 := hYa.c1
        rw [dx] at c0
        rw [dy] at y0
        refine wp_region_still_tail 8 (by kernel_rfl) (by kernel_rfl) ?_
        simp only [List.take_succ_cons, List.take_zero, List.drop_succ_cons, List.drop_zero]
        change wpStill _ _ wa.drew _ _ _
        repeat still_step
        refine wpStill_nil ?_
        change wpList _ _ _ _ _ wa.drew
        have hWa : BigAt wa.drew B g (.slice A (wordsOf x.natAbs).length c) x := hWa.below (bdrewN (Below.refl _ wa) 1)
        have hYa : BigRd wa.drew gy y YA yn yc := ⟨hYa.c0, hYa.c1, ⟨hYa.wds.1, hYa.wds.2⟩, hYa.cap⟩
        have hWb : Below B w wa.drew := bdrewN hWb 1
        have hWh : Hid (wa.drew.heap = w.heap) := hWh
        have hWs : B ≤ wa.drew.heap.size := hWs
        clear c0 c1 y0 y1
        generalize wa.drew = wb at hWa hYa hWb hWs hWh ⊢
        go_wp2_with fail
        refine (natCmpV B x.natAbs y.natAbs _ c yn yc A YA _ hv2 hWa.wds rfl hYa.wds hYa.cap).mono ?_
        rintro e w3 ⟨rfl, n3, rfl⟩
        have hWa : BigAt (wb.drewN n3) B g (.slice A (wordsOf x.natAbs).length c) x := hWa.below (bdrewN (Below.refl _ wb) n3)
        have hYa : BigRd (wb.drewN n3) gy y YA yn yc := ⟨hYa.c0, hYa.c1, ⟨hYa.wds.1, hYa.wds.2⟩, hYa.cap⟩
        have hWb : Below B w (wb.drewN n3) := bdrewN hWb n3
        have hWh : Hid ((wb.drewN n3).heap = w.heap) := hWh
        have hWs : B ≤ (wb.drewN n3).heap.size := hWs
        generalize wb.drewN n3 = wc at hWa hYa hWb hWs hWh ⊢
        have c0 := hWa.c0
        have c1 := hWa.c1
        have y0 := hYa.c0
        have y1 := hYa.c1
        rw [dx] at c0
        rw [dy] at y0
        go_wp2_with fail
        have hW : BigAt wc.drew B g (.slice A (wordsOf x.natAbs).length c) x := hWa.below (bdrewN (Below.refl _ wc) 1)
        have hYW : YWds wc.drew YA yn y.natAbs := ⟨hYa.wds.1, hYa.wds.2⟩
        have hWb : Below B w wc.drew := bdrewN hWb 1
        have hWh : Hid (wc.drew.heap = w.heap) := hWh
        have hWs : B ≤ wc.drew.heap.size := hWs
        go_region_law (go_simp; go_at_call 103; refine (natSubT B x.natAbs y.natAbs _ c yn yc A YA _ hWs (by omega) hW.wds rfl hYW hy.cap).mono ?_; rintro e w3 ⟨V3, rfl, hG⟩; obtain ⟨k0, k1, kf0, kf1, A3, cc3, rfl⟩ := hW.kept hG)
        all_goals
          have hG2 : Gave wc.drew w3 B (.slice A (wordsOf x.natAbs).length c) (.slice A3 (wordsOf (y.natAbs - x.natAbs)).length cc3) (wordsOf (x - y).natAbs) := by rw [hr]; exact hG
          have hp := hW.put hG2
          have hpb := fun b => hW.put_below (r := x - y) hG2 hWb hWs (Nat.le_refl _) b
          have hpf := hide (hW.put_frame hG2 hWh.out)
          have hlen : (0 : Int) < ((wordsOf (y.natAbs - x.natAbs)).length : Int) := by
            have := words_pos (v := y.natAbs - x.natAbs) (by omega)
            omega
          have hdr : decide (x - y < 0) = false := by simp; omega
          rw [hdr] at hp
          clear hG hG2
          go_wp2_with fail
        all_goals
          go_ret
          exact ⟨rfl, _, hp, hpb _, fun b h1 h2 h3 => hpf.out.1 _ _ b h1 h2 h3, hpf.out.2.1, hpf.out.2.2 _ _⟩
  · by_cases hy' : ¬ y < 0
    · by_cases hxy : y.natAbs ≤ x.natAbs
      · have dx : decide (x < 0) = false := by simp; omega
        have dy : decide (y < 0) = false := by simp; omega
        have hr : (x - y).natAbs = x.natAbs - y.natAbs := by omega
        have hv2 : x.natAbs < W64 * W64 := by omega
        have hcm : (0 : Int) ≤ cmpN x.natAbs y.natAbs := by unfold cmpN; split <;> (try split) <;> omega
        rw [dx] at c0
        rw [dy] at y0
        go_enter Tryz.func58, Tryz.ntmps58
        go_wp2_with fail
        go_quiet (fail)
        go_wp2_with fail
        rename Nat => nW
        have hWa : BigAt (w.drewN nW) B g (.slice A (wordsOf x.natAbs).length c) x := h.below (bdrewN (Below.refl _ w) nW)
        have hYa : BigRd (w.drewN nW) gy y YA yn yc := ⟨hy.c0, hy.c1, ⟨hy.wds.1, hy.wds.2⟩, hy.cap⟩
        have hWb : Below B w (w.drewN nW) := bdrewN (Below.refl B w) nW
        have hWh : Hid ((w.drewN nW).heap = w.heap) := hide rfl
        have hWs : B ≤ (w.drewN nW).heap.size := hBw
        clear c0 c1 y0 y1
        generalize w.drewN nW = wa at hWa hYa hWb hWs hWh ⊢
        have c0 := hWa.c0
        have c1 := hWa.c1
        have y0 := hYa.c0
        have y1 := hYa.c1
        rw [dx] at c0
        rw [dy] at y0
        refine wp_region_still_tail 8 (by kernel_rfl) (by kernel_rfl) ?_
        simp only [List.take_succ_cons, List.take_zero, List.drop_succ_cons, List.drop_zero]
        change wpStill _ _ wa.drew _ _ _
        repeat still_step
        refine wpStill_nil ?_
        change wpList _ _ _ _ _ wa.drew
        have hWa : BigAt wa.drew B g (.slice A (wordsOf x.natAbs).length c) x := hWa.below (bdrewN (Below.refl _ wa) 1)
        have hYa : BigRd wa.drew gy y YA yn yc := ⟨hYa.c0, hYa.c1, ⟨hYa.wds.1, hYa.wds.2⟩, hYa.cap⟩
        have hWb : Below B w wa.drew := bdrewN hWb 1
        have hWh : Hid (wa.drew.heap = w.heap) := hWh
        have hWs : B ≤ wa.drew.heap.size := hWs
        clear c0 c1 y0 y1
        generalize wa.drew = wb at hWa hYa hWb hWs hWh ⊢
        go_wp2_with fail
        refine (natCmpV B x.natAbs y.natAbs _ c yn yc A YA _ hv2 hWa.wds rfl hYa.wds hYa.cap).mono ?_
        rintro e w3 ⟨rfl, n3, rfl⟩
        have hWa : BigAt (wb.drewN n3) B g (.slice A (wordsOf x.natAbs).length c) x := hWa.below (bdrewN (Below.refl _ wb) n3)
        have hYa : BigRd (wb.drewN n3) gy y YA yn yc := ⟨hYa.c0, hYa.c1, ⟨hYa.wds.1, hYa.wds.2⟩, hYa.cap⟩
        have hWb : Below B w (wb.drewN n3) := bdrewN hWb n3
        have hWh : Hid ((wb.drewN n3).heap = w.heap) := hWh
        have hWs : B ≤ (wb.drewN n3).heap.size := hWs
        generalize wb.drewN n3 = wc at hWa hYa hWb hWs hWh ⊢
        have c0 := hWa.c0
        have c1 := hWa.c1
        have y0 := hYa.c0
        have y1 := hYa.c1
        rw [dx] at c0
        rw [dy] at y0
        go_wp2_with fail
        have hW : BigAt wc.drew B g (.slice A (wordsOf x.natAbs).length c) x := hWa.below (bdrewN (Below.refl _ wc) 1)
        have hYW : YWds wc.drew YA yn y.natAbs := ⟨hYa.wds.1, hYa.wds.2⟩
        have hWb : Below B w wc.drew := bdrewN hWb 1
        have hWh : Hid (wc.drew.heap = w.heap) := hWh
        have hWs : B ≤ wc.drew.heap.size := hWs
        go_region_law (go_simp; go_at_call 103; refine (natSubV0 B x.natAbs y.natAbs _ c yn yc A YA _ hv2 hxy hW.wds rfl hYW hy.cap).mono ?_; rintro e w3 ⟨V3, rfl, hG⟩; obtain ⟨k0, k1, kf0, kf1, A3, cc3, rfl⟩ := hW.kept hG)
        all_goals
          have hG2 : Gave wc.drew w3 B (.slice A (wordsOf x.natAbs).length c) (.slice A3 (wordsOf (x.natAbs - y.natAbs)).length cc3) (wordsOf (x - y).natAbs) := by rw [hr]; exact hG
          have hp := hW.put hG2
          have hpb := fun b => hW.put_below (r := x - y) hG2 hWb hWs (Nat.le_refl _) b
          have hpf := hide (hW.put_frame hG2 hWh.out)
          by_cases hz : x.natAbs - y.natAbs = 0
          · have hz0 : (wordsOf (x.natAbs - y.natAbs)).length = 0 := by rw [hz]; rfl
            have hdr : decide (x - y < 0) = false := by simp; omega
            rw [hdr] at hp
            rw [hz0] at hp hpb hpf ⊢
            clear hG hG2
            go_wp2_with fail
            go_ret
            exact ⟨rfl, _, hp, hpb _, fun b h1 h2 h3 => hpf.out.1 _ _ b h1 h2 h3, hpf.out.2.1, hpf.out.2.2 _ _⟩
          · have hlen : (0 : Int) < ((wordsOf (x.natAbs - y.natAbs)).length : Int) := by
              have := words_pos (v := x.natAbs - y.natAbs) hz
              omega
            have hdr : decide (x - y < 0) = false := by simp; omega
            rw [hdr] at hp
            clear hG hG2
            go_wp2_with fail
            all_goals
              go_ret
              exact ⟨rfl, _, hp, hpb _, fun b h1 h2 h3 => hpf.out.1 _ _ b h1 h2 h3, hpf.out.2.1, hpf.out.2.2 _ _⟩
      · have dx : decide (x < 0) = false := by simp; omega
        have dy : decide (y < 0) = false := by simp; omega
        have hr : (x - y).natAbs = y.natAbs - x.natAbs := by omega
        have hv2 : x.natAbs < W64 * W64 := by omega

        have hcm : ¬ (0 : Int) ≤ cmpN x.natAbs y.natAbs := by unfold cmpN; split <;> (try split) <;> omega
        rw [dx] at c0
        rw [dy] at y0
        go_enter Tryz.func58, Tryz.ntmps58
        go_wp2_with fail
        go_quiet (fail)
        go_wp2_with fail
        rename Nat => nW
        have hWa : BigAt (w.drewN nW) B g (.slice A (wordsOf x.natAbs).length c) x := h.below (bdrewN (Below.refl _ w) nW)
        have hYa : BigRd (w.drewN nW) gy y YA yn yc := ⟨hy.c0, hy.c1, ⟨hy.wds.1, hy.wds.2⟩, hy.cap⟩
        have hWb : Below B w (w.drewN nW) := bdrewN (Below.refl B w) nW
        have hWh : Hid ((w.drewN nW).heap = w.heap) := hide rfl
        have hWs : B ≤ (w.drewN nW).heap.size := hBw
        clear c0 c1 y0 y1
        generalize w.drewN nW = wa at hWa hYa hWb hWs hWh ⊢
        have c0 := hWa.c0
        have c1 := hWa.c1
        have y0 := hYa.c0
        have y1 := hYa.c1
        rw [dx] at c0
        rw [dy] at y0
        refine wp_region_still_tail 8 (by kernel_rfl) (by kernel_rfl) ?_
        simp only [List.take_succ_cons, List.take_zero, List.drop_succ_cons, List.drop_zero]
        change wpStill _ _ wa.drew _ _ _
        repeat still_step
        refine wpStill_nil ?_
        change wpList _ _ _ _ _ wa.drew
        have hWa : BigAt wa.drew B g (.slice A (wordsOf x.natAbs).length c) x := hWa.below (bdrewN (Below.refl _ wa) 1)
        have hYa : BigRd wa.drew gy y YA yn yc := ⟨hYa.c0, hYa.c1, ⟨hYa.wds.1, hYa.wds.2⟩, hYa.cap⟩
        have hWb : Below B w wa.drew := bdrewN hWb 1
        have hWh : Hid (wa.drew.heap = w.heap) := hWh
        have hWs : B ≤ wa.drew.heap.size := hWs
        clear c0 c1 y0 y1
        generalize wa.drew = wb at hWa hYa hWb hWs hWh ⊢
        go_wp2_with fail
        refine (natCmpV B x.natAbs y.natAbs _ c yn yc A YA _ hv2 hWa.wds rfl hYa.wds hYa.cap).mono ?_
        rintro e w3 ⟨rfl, n3, rfl⟩
        have hWa : BigAt (wb.drewN n3) B g (.slice A (wordsOf x.natAbs).length c) x := hWa.below (bdrewN (Below.refl _ wb) n3)
        have hYa : BigRd (wb.drewN n3) gy y YA yn yc := ⟨hYa.c0, hYa.c1, ⟨hYa.wds.1, hYa.wds.2⟩, hYa.cap⟩
        have hWb : Below B w (wb.drewN n3) := bdrewN hWb n3
        have hWh : Hid ((wb.drewN n3).heap = w.heap) := hWh
        have hWs : B ≤ (wb.drewN n3).heap.size := hWs
        generalize wb.drewN n3 = wc at hWa hYa hWb hWs hWh ⊢
        have c0 := hWa.c0
        have c1 := hWa.c1
        have y0 := hYa.c0
        have y1 := hYa.c1
        rw [dx] at c0
        rw [dy] at y0
        go_wp2_with fail
        have hW : BigAt wc.drew B g (.slice A (wordsOf x.natAbs).length c) x := hWa.below (bdrewN (Below.refl _ wc) 1)
        have hYW : YWds wc.drew YA yn y.natAbs := ⟨hYa.wds.1, hYa.wds.2⟩
        have hWb : Below B w wc.drew := bdrewN hWb 1
        have hWh : Hid (wc.drew.heap = w.heap) := hWh
        have hWs : B ≤ wc.drew.heap.size := hWs
        go_region_law (go_simp; go_at_call 103; refine (natSubT B x.natAbs y.natAbs _ c yn yc A YA _ hWs (by omega) hW.wds rfl hYW hy.cap).mono ?_; rintro e w3 ⟨V3, rfl, hG⟩; obtain ⟨k0, k1, kf0, kf1, A3, cc3, rfl⟩ := hW.kept hG)
        all_goals
          have hG2 : Gave wc.drew w3 B (.slice A (wordsOf x.natAbs).length c) (.slice A3 (wordsOf (y.natAbs - x.natAbs)).length cc3) (wordsOf (x - y).natAbs) := by rw [hr]; exact hG
          have hp := hW.put hG2
          have hpb := fun b => hW.put_below (r := x - y) hG2 hWb hWs (Nat.le_refl _) b
          have hpf := hide (hW.put_frame hG2 hWh.out)
          have hlen : (0 : Int) < ((wordsOf (y.natAbs - x.natAbs)).length : Int) := by
            have := words_pos (v := y.natAbs - x.natAbs) (by omega)
            omega
          have hdr : decide (x - y < 0) = true := by simp; omega
          rw [hdr] at hp
          clear hG hG2
          go_wp2_with fail
        all_goals
          go_ret
          exact ⟨rfl, _, hp, hpb _, fun b h1 h2 h3 => hpf.out.1 _ _ b h1 h2 h3, hpf.out.2.1, hpf.out.2.2 _ _⟩
    · have dx : decide (x < 0) = false := by simp; omega
      have dy : decide (y < 0) = true := by simp; omega
      have hr : (x - y).natAbs = x.natAbs + y.natAbs := by omega
      have hdr : decide (x - y < 0) = false := by simp; omega
      rw [dx] at c0
      rw [dy] at y0
      go_enter Tryz.func58, Tryz.ntmps58
      go_wp2_with fail
      go_quiet (fail)
      rename Nat => nW
      have hW : BigAt (w.drewN (nW + 1)) B g (.slice A (wordsOf x.natAbs).length c) x := h.below (bdrewN (Below.refl _ w) (nW + 1))
      have hYW : YWds (w.drewN (nW + 1)) YA yn y.natAbs := ⟨hy.wds.1, hy.wds.2⟩
      have hWb : Below B w (w.drewN (nW + 1)) := bdrewN (Below.refl B w) (nW + 1)
      have hWh : Hid ((w.drewN (nW + 1)).heap = w.heap) := hide rfl
      have hWs : B ≤ (w.drewN (nW + 1)).heap.size := hBw
      go_wp2_with fail
      go_region_law (go_simp; go_at_call 101; refine (natAddV B x.natAbs y.natAbs _ c yn yc A YA _ hWs hv hW.wds rfl hYW hy.cap).mono ?_; rintro e w3 ⟨V3, rfl, hG⟩; obtain ⟨k0, k1, kf0, kf1, A3, cc3, rfl⟩ := hW.kept hG)
      all_goals
        have hG2 : Gave (w.drewN (nW + 1)) w3 B (.slice A (wordsOf x.natAbs).length c) (.slice A3 (wordsOf (x.natAbs + y.natAbs)).length cc3) (wordsOf (x - y).natAbs) := by rw [hr]; exact hG
        go_wp2_with fail
      all_goals
        go_ret
        have hp := hW.put hG2
        rw [hdr] at hp
        exact ⟨rfl, _, hp, hW.put_below (r := x - y) hG2 hWb hWs (Nat.le_refl _) _, fun b h1 h2 h3 => (hW.put_frame hG2 hWh.out).1 _ _ b h1 h2 h3, (hW.put_frame hG2 hWh.out).2.1, (hW.put_frame hG2 hWh.out).2.2 _ _⟩

/-- a number of one word that is read -/
theorem BigAt.read {w : World} {B g : Nat} {V : Value} {x : Int} (h : BigAt w B g V x) (hx : x.natAbs < W64) : ∃ A n c, V = .slice A n c ∧ BigRd w g x A n c := by
  obtain ⟨A, c, e, _⟩ := h.wds.cap
  subst e
  refine ⟨A, _, c, rfl, h.c0, h.c1, ⟨h.wds.own.rd wEnc_ok, hx⟩, ?_⟩
  rcases h.wds.own.2 with ⟨hv, h0⟩ | ⟨g', cap, cur, hv, hB, hg, hc, hm, hs, ht⟩
  · injection hv with _ h2 _; omega
  · injection hv with _ _ h3
    omega
end Go.Proofs.YtbdbpcllndajgaaGreatDoor

namespace Go.Proofs.YtbdbpcllndajgaaGreatDoor
open Go Go.RowKit
set_option linter.unusedVariables false
set_option linter.unusedSimpArgs false

theorem BigAt.lowerK {w : World} {B B' g : Nat} {V : Value} {x : Int} (h : BigAt w B g V x) (hB : B' ≤ B) : BigAt w B' g V x := ⟨Nat.le_trans hB h.gB, h.c0, h.c1, h.fr, ⟨own_lower h.wds.own hB, h.wds.cap⟩, h.vg⟩
theorem BigAt.grownK {w w' : World} {B g q : Nat} {V : Value} {x : Int} (h : BigAt w B g V x) (hg : w.grownBy w' (some q)) (h1 : g ≠ q) (h2 : V.ownBlock ≠ some q) : BigAt w' B g V x :=
  ⟨h.gB, hg.cell h.c0 (by simp [h1]), hg.cell h.c1 (by simp [h1]), fun j => frozen_grown2 (h.fr j) h.lt hg (by simp; exact fun e => h1 e.symm), ⟨h.wds.own.grown hg (.inr h2), h.wds.cap⟩, h.vg⟩
theorem BigRd.belowK {w w' : World} {g : Nat} {y : Int} {YA : Option Addr} {yn yc : Nat} (h : BigRd w g y YA yn yc) (hb : Below w.heap.size w w') : BigRd w' g y YA yn yc :=
  ⟨below_cell hb (World.block_lt_of_cell? _ _ h.c0) h.c0, below_cell hb (World.block_lt_of_cell? _ _ h.c1) h.c1, ⟨h.wds.1.below hb, h.wds.2⟩, h.cap⟩
theorem ptr_info : ∃ j, Tryz.prog.info? 98 = some j ∧ j.size ≠ 0 := by
  cases hi : Tryz.prog.info? 98 with
  | none => have := bigInt_info; rw [hi] at this; cases this
  | some j =>
    have hs : j.size = 2 := by have := bigInt_info; rw [hi] at this; simpa using this
    exact ⟨j, rfl, by omega⟩
theorem ptr_sameK (g : Nat) (w : World) : (binOp .eql 93 (.pointer (some ⟨g, 0, none⟩)) (.pointer (some ⟨g, 0, none⟩))).run Tryz.prog w = .ok (.bool true) w := by
  obtain ⟨j, hi, _⟩ := ptr_info
  exact run_eql_ptr_same w _ Tryz.underlying93 hi
theorem ptr_neq_same (g : Nat) (w : World) : (binOp .neq 93 (.pointer (some ⟨g, 0, none⟩)) (.pointer (some ⟨g, 0, none⟩))).run Tryz.prog w = .ok (.bool false) w := by
  obtain ⟨j, hi, _⟩ := ptr_info
  have h : ∀ d : Nat, (Op.equalIn (d + 1) 93 (.pointer (some ⟨g, 0, none⟩)) (.pointer (some ⟨g, 0, none⟩))).run Tryz.prog w = .ok true w := fun d => by
    simp [Op.equalIn, run_underlying Tryz.underlying93, sizeOf, typeInfo, hi, run_sameAddr_same]
  simp only [binOp]
  simp [Op.equal, Op.maxDepth, h 9999]
theorem ptr_neq_other {w : World} {g q : Nat} (hne : g ≠ q) (hg : Blk w g) (hq : Blk w q) : (binOp .neq 93 (.pointer (some ⟨g, 0, none⟩)) (.pointer (some ⟨q, 0, none⟩))).run Tryz.prog w = .ok (.bool true) w := by
  obtain ⟨j, hi, hs⟩ := ptr_info
  obtain ⟨cs, t, e⟩ := hg
  obtain ⟨ds, u, f⟩ := hq
  have hn : (⟨g, 0, none⟩ : Addr) ≠ ⟨q, 0, none⟩ := by intro k; injection k with k; exact hne k
  have h : ∀ d : Nat, (Op.equalIn (d + 1) 93 (.pointer (some ⟨g, 0, none⟩)) (.pointer (some ⟨q, 0, none⟩))).run Tryz.prog w = .ok false w := fun d => by
    simp [Op.equalIn, run_underlying Tryz.underlying93, sizeOf, typeInfo, hi, hs, run_sameAddr_other w hn e f]
  simp only [binOp]
  simp [Op.equal, Op.maxDepth, h 9999]
theorem BigAt.absd {w : World} {B g : Nat} {V : Value} {x : Int} (h : BigAt w B g V x) (k : Nat) : BigAt ((w.drewN k).setCell ⟨g, 0, none⟩ (.bool false)) B g V (x.natAbs : Int) := by
  have hd : decide ((x.natAbs : Int) < 0) = false := decide_eq_false (by omega)
  have hw : Wds (w.drewN k) B V (wordsOf x.natAbs) := ⟨h.wds.own.below (bdrewN (Below.refl _ _) k), h.wds.cap⟩
  refine ⟨h.gB, ?_, ?_, fun q => ?_, ?_, h.vg⟩
  · rw [hd]; exact World.cell?_setCell_same _ ⟨g, 0, none⟩ _ h.c0
  · exact (World.cell?_setCell_other _ _ _ _ (by simp)).trans h.c1
  · show ((w.drewN k).setCell _ _).frozen? _ = false
    have : (w.drewN k).frozen? ⟨g, q, none⟩ = false := h.fr q
    simp [this]
  · rw [Int.natAbs_natCast]
    exact Wds.setCellD hw h.vg 0 _
set_option maxRecDepth 100000 in
theorem bigSet_same (g : Nat) (w : World) : Calls Tryz.prog 100 #[.pointer (some ⟨g, 0, none⟩), .pointer (some ⟨g, 0, none⟩)] w fun e w' => e = .returned (.pointer (some ⟨g, 0, none⟩)) ∧ w' = w := by
  have hpo := ptr_neq_same g w
  go_enter Tryz.func100, Tryz.ntmps100
  go_wp2_with fail
  go_ret
  exact ⟨rfl, rfl⟩
set_option maxRecDepth 100000 in
theorem bigAbs_self (B g : Nat) (V : Value) (x : Int) (w : World) (h : BigAt w B g V x) :
    Calls Tryz.prog 57 #[.pointer (some ⟨g, 0, none⟩), .pointer (some ⟨g, 0, none⟩)] w fun e w' => e = .returned (.pointer (some ⟨g, 0, none⟩)) ∧ w' = w.setCell ⟨g, 0, none⟩ (.bool false) := by
  have c0 := h.c0
  have f0 := h.fr 0
  clear h
  go_enter Tryz.func57, Tryz.ntmps57
  go_wp2_with fail
  refine (bigSet_same g _).mono ?_
  rintro e w1 ⟨rfl, rfl⟩
  go_wp2_with fail
  go_ret
  exact ⟨rfl, rfl⟩
theorem Gave.ofFresh {w w' : World} {B : Nat} {V' : Value} {ws : List Nat} (hB : B ≤ w.heap.size) (h : Fresh w w' V' ws) : Gave w w' B (.slice none 0 0) V' ws := by
  refine ⟨⟨own_lower h.1.own hB, h.1.cap⟩, below_grown h.2, ?_⟩
  cases hb : V'.ownBlock with
  | none => exact .inl (by simp [Value.ownBlock])
  | some k => exact .inr ⟨k, rfl, (h.1.own.block k hb).1⟩
theorem BigAt.made (w : World) (x : Int) (b : Bool) (hx : decide (x < 0) = b) (hx0 : x ≠ 0) (h1 : x.natAbs < W64) :
    BigAt ((w.alloc (.cells #[.int .u64 (x.natAbs : Int)] 194)).alloc (.cells #[.bool b, .slice (some ⟨w.heap.size, 0, none⟩) 1 1] 98)) w.heap.size (w.heap.size + 1) (.slice (some ⟨w.heap.size, 0, none⟩) 1 1) x := by
  have e : w.heap.size + 1 = (w.alloc (.cells #[.int .u64 (x.natAbs : Int)] 194)).heap.size := by simp
  have hr : RowIs (w.alloc (.cells #[.int .u64 (x.natAbs : Int)] 194)) w.heap.size #[.int .u64 (x.natAbs : Int)] := by unfold RowIs; exact heap_alloc_new w _
  have hl : w.heap.size < (w.alloc (.cells #[.int .u64 (x.natAbs : Int)] 194)).heap.size := by simp
  rw [e]
  generalize w.alloc (.cells #[.int .u64 (x.natAbs : Int)] 194) = w1 at hr hl ⊢
  have hr2 : RowIs (w1.alloc (.cells #[.bool b, .slice (some ⟨w.heap.size, 0, none⟩) 1 1] 98)) w.heap.size #[.int .u64 (x.natAbs : Int)] :=
    (((Below.refl w1.heap.size w1).alloc (Nat.le_refl _) _).block _ hl).trans hr
  refine ⟨by omega, by rw [hx]; simp, by simp, fun q => by simp, ?_, by simp [Value.ownBlock]; omega⟩
  rw [wordsOf_1 (by omega) h1]
  exact Wds.ofRow (ws := [x.natAbs]) hr2 rfl rfl (Nat.le_refl _) (by simp) (by unfold maxLen; omega) (.inl (Nat.le_refl _))
set_option maxRecDepth 100000 in
/-- a new number, the caller's own -/
theorem newInt_own (x : Int) (w : World) (h0 : -9223372036854775808 ≤ x) (h1 : x ≤ 9223372036854775807) :
    Calls Tryz.prog 90 #[.int .i64 x] w fun e w' => ∃ g V, e = .returned (.pointer (some ⟨g, 0, none⟩)) ∧ BigAt w' w.heap.size g V x ∧ Blk w' g ∧ Below w.heap.size w w' := by
  have BN : ∀ (o : Obj) (cs : Array Value), Blk ((w.alloc o).alloc (.cells cs 98)) (w.heap.size + 1) := fun o cs => by
    have := Blk.new (w.alloc o) cs 98
    rwa [show (w.alloc o).heap.size = w.heap.size + 1 by simp] at this
  by_cases hx : x < 0
  · have hd : decide (x < 0) = true := by simpa using hx
    have hN := BigAt.made w x true hd (by omega) (by unfold W64; omega)
    have hw := wrap_neg x h0 hx
    have hxe : (x == 0) = false := by rw [beq_eq_false_iff_ne]; omega
    go_enter Tryz.func90, Tryz.ntmps90
    go_wp2_with fail
    go_ret
    exact ⟨_, _, rfl, by simpa only [hw] using hN, BN _ _, ((Below.refl _ _).alloc (Nat.le_refl _) _).alloc (by simp) _⟩
  · by_cases hx0 : x = 0
    · subst hx0
      go_enter Tryz.func90, Tryz.ntmps90
      go_wp2_with fail
      go_ret
      exact ⟨_, rfl, ⟨_, BigAt.new w⟩, Blk.new _ _ _, (Below.refl _ _).alloc (Nat.le_refl _) _⟩
    · have hd : decide (x < 0) = false := by simpa using hx
      have hN := BigAt.made w x false hd hx0 (by unfold W64; omega)
      have hw : (x.natAbs : Int) = x := by omega
      rw [hw] at hN
      go_enter Tryz.func90, Tryz.ntmps90
      go_wp2_with fail
      go_ret
      exact ⟨_, rfl, ⟨_, hN⟩, BN _ _, ((Below.refl _ _).alloc (Nat.le_refl _) _).alloc (by simp) _⟩
theorem big1_own (x : Int) (w : World) (h0 : -9223372036854775808 ≤ x) (h1 : x ≤ 9223372036854775807) :
    Calls Tryz.prog 53 #[.int .i64 x] w fun e w' => ∃ g V, e = .returned (.pointer (some ⟨g, 0, none⟩)) ∧ BigAt w' w.heap.size g V x ∧ Blk w' g ∧ Below w.heap.size w w' := by
  go_enter Tryz.func53, Tryz.ntmps53
  go_wp2_with fail
  refine (newInt_own x _ h0 h1).mono ?_
  rintro e w1 ⟨g, V, rfl, hR, hk, hb⟩
  go_wp2_with fail
  go_ret
  exact ⟨g, V, rfl, hR, hk, hb⟩
set_option maxHeartbeats 1000000 in
set_option maxRecDepth 100000 in
theorem bigSet_new (B g gx xn xc : Nat) (x : Int) (XA : Option Addr) (w : World) (hBw : B ≤ w.heap.size) (h : BigAt w B g (.slice none 0 0) 0) (hx : BigRd w gx x XA xn xc) (hne : g ≠ gx) (b1 : Blk w g) (b2 : Blk w gx) :
    Calls Tryz.prog 100 #[.pointer (some ⟨g, 0, none⟩), .pointer (some ⟨gx, 0, none⟩)] w fun e w' => e = .returned (.pointer (some ⟨g, 0, none⟩)) ∧ ∃ V', BigAt w' B g V' x ∧ Below B w w' := by
  have hpo := ptr_neq_other (w := w) hne b1 b2
  have z1 := h.c1
  have x1 := hx.c1
  have x0 := hx.c0
  have hngx : ¬ g = gx := hne
  have HK : Hid (∀ w' V', Fresh w.drew w' V' (wordsOf x.natAbs) → (∃ A c, V' = .slice A (wordsOf x.natAbs).length c) ∧ w'.cell? ⟨g, 0, none⟩ = some (.bool false) ∧ w'.cell? ⟨g, 1, none⟩ = some (.slice none 0 0) ∧ w'.frozen? ⟨g, 0, none⟩ = false ∧ w'.frozen? ⟨g, 1, none⟩ = false ∧ w'.cell? ⟨gx, 0, none⟩ = some (.bool (decide (x < 0)))) := by
    intro w' V' hF
    have hb : Below w.heap.size w w' := (bdrewN (Below.refl _ w) 1).trans hF.2
    obtain ⟨A, c, e, _⟩ := hF.1.cap
    exact ⟨⟨A, c, e⟩, below_cell hb h.lt h.c0, below_cell hb h.lt h.c1, (hb.frozen (p := ⟨g, 0, none⟩) h.lt).trans (h.fr 0), (hb.frozen (p := ⟨g, 1, none⟩) h.lt).trans (h.fr 1), below_cell hb (World.block_lt_of_cell? _ _ x0) x0⟩
  have HS : Hid (Calls Tryz.prog 145 #[.slice none 0 0, .slice XA xn xc] w.drew fun e w' => ∃ V', e = .returned V' ∧ Fresh w.drew w' V' (wordsOf x.natAbs)) := natSet_new x.natAbs xn xc XA w.drew ⟨hx.wds.1, hx.wds.2⟩
  have HP : Hid (∀ w' V', Fresh w.drew w' V' (wordsOf x.natAbs) → BigAt ((w'.setCell ⟨g, 1, none⟩ V').setCell ⟨g, 0, none⟩ (.bool (decide (x < 0)))) B g V' x ∧ Below B w ((w'.setCell ⟨g, 1, none⟩ V').setCell ⟨g, 0, none⟩ (.bool (decide (x < 0))))) := by
    intro w' V' hF
    have hW : BigAt w.drew B g (.slice none 0 0) 0 := h.below (bdrewN (Below.refl _ w) 1)
    have hG := Gave.ofFresh (B := B) (show B ≤ w.drew.heap.size from hBw) hF
    exact ⟨hW.put hG, hW.put_below hG (bdrewN (Below.refl B w) 1) hBw (Nat.le_refl _) _⟩
  obtain ⟨bx, hbx⟩ : ∃ b, b = decide (x < 0) := ⟨_, rfl⟩
  rw [← hbx] at HK HP
  clear h hx b1 b2 hne hBw x0 hbx
  go_enter Tryz.func100, Tryz.ntmps100
  go_wp2_with fail
  clear hpo
  go_region_law (go_simp; go_at_call 145; refine HS.out.mono ?_; rintro e w3 ⟨V3, rfl, hF⟩; obtain ⟨⟨A3, cc3, rfl⟩, k0, k1, kf0, kf1, kx⟩ := HK.out _ _ hF; have HF := hide hF; clear hF)
  all_goals
    go_wp2_with fail
  all_goals
    go_ret
    exact ⟨rfl, _, HP.out _ _ HF.out⟩
/-- the amount of a number, in a new one -/
theorem bigAbs_new (B g gx xn xc : Nat) (x : Int) (XA : Option Addr) (w : World) (hBw : B ≤ w.heap.size) (h : BigAt w B g (.slice none 0 0) 0) (hx : BigRd w gx x XA xn xc) (hne : g ≠ gx) (b1 : Blk w g) (b2 : Blk w gx) :
    Calls Tryz.prog 57 #[.pointer (some ⟨g, 0, none⟩), .pointer (some ⟨gx, 0, none⟩)] w fun e w' => e = .returned (.pointer (some ⟨g, 0, none⟩)) ∧ ∃ V', BigAt w' B g V' (x.natAbs : Int) ∧ Below B w w' := by
  have HS := hide (bigSet_new B g gx xn xc x XA w hBw h hx hne b1 b2)
  have hBg := hide h.gB
  clear h hx hne b1 b2
  go_enter Tryz.func57, Tryz.ntmps57
  go_wp2_with fail
  refine HS.out.mono ?_
  rintro e w1 ⟨rfl, V', hB, hb⟩
  have c0 := hB.c0
  have f0 := hB.fr 0
  have HB := hide hB
  clear hB
  go_wp2_with fail
  go_ret
  exact ⟨rfl, V', HB.out.absd 0, hb.setCell hBg.out _⟩
set_option maxHeartbeats 1000000 in
set_option maxRecDepth 100000 in
/-- two numbers that are not below 0, held against each other -/
theorem bigCmp_pos (B gx gy yn yc x y : Nat) (V : Value) (YA : Option Addr) (w : World) (hx : BigAt w B gx V (x : Int)) (hxl : x < W64 * W64) (hy : BigRd w gy (y : Int) YA yn yc) (b1 : Blk w gx) (b2 : Blk w gy) (hxy : gx = gy → x = y) :
    Calls Tryz.prog 61 #[.pointer (some ⟨gx, 0, none⟩), .pointer (some ⟨gy, 0, none⟩)] w fun e w' => e = .returned (.int .i64 (cmpN x y)) ∧ ∃ k, w' = w.drewN k := by
  by_cases hg : gx = gy
  · obtain rfl := hxy hg
    subst hg
    have hpo := ptr_sameK gx w
    have hc : cmpN x x = 0 := by unfold cmpN; simp
    rw [hc]
    clear hx hy b1 b2 hxy
    go_enter Tryz.func61, Tryz.ntmps61
    go_wp2_with fail
    go_ret
    exact ⟨rfl, 0, rfl⟩
  · have hpo := ptr_other hg b1 b2
    obtain ⟨A, c, rfl⟩ := hx.form
    have c0 := hx.c0
    have c1 := hx.c1
    have y0 := hy.c0
    have y1 := hy.c1
    have d1 : decide ((x : Int) < 0) = false := decide_eq_false (by omega)
    have d2 : decide ((y : Int) < 0) = false := decide_eq_false (by omega)
    rw [d1] at c0
    rw [d2] at y0
    have hw := hx.wds
    rw [Int.natAbs_natCast] at hw c1
    have HC : Hid (∀ W : World, W.heap = w.heap → Calls Tryz.prog 102 #[.slice A (wordsOf x).length c, .slice YA yn yc] W fun e w' => e = .returned (.int .i64 (cmpN x y)) ∧ ∃ n, w' = W.drewN n) := fun W e =>
      natCmpV B x y _ c yn yc A YA W hxl (hw.alike e) rfl (by have := hy.wds; rw [Int.natAbs_natCast] at this; exact this.alike e) hy.cap
    clear hx hy b1 b2 hxy hg hw d1 d2 hxl
    go_enter Tryz.func61, Tryz.ntmps61
    go_wp2_with fail
    clear hpo
    go_quiet (fail)
    have z0 : (w.drewN nq).cell? ⟨gx, 0, none⟩ = some (.bool false) := c0
    have z1 : (w.drewN nq).cell? ⟨gx, 1, none⟩ = some (.slice A (wordsOf x).length c) := c1
    have y1 : (w.drewN nq).cell? ⟨gy, 1, none⟩ = some (.slice YA yn yc) := y1
    have hwf : ∃ k, w.drewN nq = w.drewN k := ⟨nq, rfl⟩
    have hwh : Hid ((w.drewN nq).heap = w.heap) := hide rfl
    generalize w.drewN nq = wa at z0 z1 y1 hwf hwh ⊢
    have HWF := hide hwf
    clear hwf c0 c1 y0
    go_wp2_with fail
    go_quiet ((go_at_call 102; exact Calls.quiet_of (HC.out _ hwh.out)))
    have z0 : (wa.drewN nq).cell? ⟨gx, 0, none⟩ = some (.bool false) := z0
    go_wp2_with fail
    go_ret
    obtain ⟨k0, hk⟩ := HWF.out
    exact ⟨rfl, k0 + nq, by rw [hk, drewN_add]⟩
end Go.Proofs.YtbdbpcllndajgaaGreatDoor
