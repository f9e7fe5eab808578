/- Great numbers: (Int).Sub into itself. -/
import Derived.Test.YtjojjicpdfmopaaGreatDoorMulX
namespace Go.Proofs.YtjojjicpdfmopaaGreatDoor
open Go Go.RowKit
set_option linter.unusedVariables false

theorem BigAt.put_frame {w0 w w' : World} {B g : Nat} {V V' : Value} {x r : Int} (h : BigAt w B g V x) (hG : Gave w w' B V V' (wordsOf r.natAbs)) (hh : w.heap = w0.heap) :
    (∀ (u v : Value) (b : Nat), b < w0.heap.size → b ≠ g → V.ownBlock ≠ some b → ((w'.setCell ⟨g, 1, none⟩ u).setCell ⟨g, 0, none⟩ v).heap[b]? = w0.heap[b]?) ∧ (V'.ownBlock = V.ownBlock ∨ ∃ k, V'.ownBlock = some k ∧ w0.heap.size ≤ k) ∧ ∀ u v : Value, Blk w0 g → Blk ((w'.setCell ⟨g, 1, none⟩ u).setCell ⟨g, 0, none⟩ v) g := by
  refine ⟨?_, ?_, ?_⟩
  · intro u v b h1 h2 h3
    rw [← hh] at h1 ⊢
    exact (Below.heap_setCell _ ⟨g, 0, none⟩ v b h2).trans ((Below.heap_setCell _ ⟨g, 1, none⟩ u b h2).trans (hG.grown.block b h1 (fun e => h3 e.symm)))
  · rw [← hh]; exact hG.at_
  · intro u v hb
    have h1 : Blk w g := by obtain ⟨cs, t, e⟩ := hb; exact ⟨cs, t, by rw [hh]; exact e⟩
    exact ((h1.grown hG.grown h.vg).setCell g 1 u).setCell g 0 v
set_option maxRecDepth 100000 in
theorem natSub_00 (B c yc : Nat) (A YA : Option Addr) (w : World) (h : Wds w B (.slice A 0 c) []) :
    Calls Tryz.prog 61 #[.slice A 0 c, .slice A 0 c, .slice YA 0 yc] w fun e w' => ∃ V', e = .returned V' ∧ Gave w w' B (.slice A 0 c) V' [] := by
  go_enter Tryz.func61, Tryz.ntmps61
  go_wp2_with fail
  go_ret
  exact ⟨_, rfl, Gave.same h 0⟩
theorem natSubV0 (B a b n c yn yc : Nat) (A YA : Option Addr) (w : World) (ha : a < W64 * W64) (hab : b ≤ a) (h : Wds w B (.slice A n c) (wordsOf a)) (hn : n = (wordsOf a).length) (hy : YWds w YA yn b) (hyc : yn ≤ yc) :
    Calls Tryz.prog 61 #[.slice A n c, .slice A n c, .slice YA yn yc] w fun e w' => ∃ V', e = .returned V' ∧ Gave w w' B (.slice A n c) V' (wordsOf (a - b)) := by
  by_cases h0 : a = 0
  · subst h0
    obtain rfl : b = 0 := by omega
    rw [wordsOf_0] at h hn
    obtain rfl : n = 0 := hn
    obtain rfl : yn = 0 := by rcases hy.cases with ⟨_, e⟩ | ⟨e, _⟩ <;> omega
    exact natSub_00 B c yc A YA w h
  · exact natSubV B a b n c yn yc A YA w ha hab h0 h hn hy hyc

set_option maxHeartbeats 8000000 in
set_option maxRecDepth 100000 in
theorem bigSub_any (B g gy yn yc : Nat) (V : Value) (x y : Int) (YA : Option Addr) (w : World) (hBw : B ≤ w.heap.size) (h : BigAt w B g V x) (hy : BigRd w gy y YA yn yc) (hv : x.natAbs + y.natAbs < W64 * W64) :
    Calls Tryz.prog 191 #[.pointer (some ⟨g, 0, none⟩), .pointer (some ⟨g, 0, none⟩), .pointer (some ⟨gy, 0, none⟩)] w
      fun e w' => e = .returned (.pointer (some ⟨g, 0, none⟩)) ∧ ∃ V', BigAt w' B g V' (x - y) ∧ Below B w w' ∧ (∀ b, b < w.heap.size → b ≠ g → V.ownBlock ≠ some b → w'.heap[b]? = w.heap[b]?) ∧ (V'.ownBlock = V.ownBlock ∨ ∃ k, V'.ownBlock = some k ∧ w.heap.size ≤ k) ∧ (Blk w g → Blk w' g) := by
  obtain ⟨A, c, rfl⟩ := h.form
  have c0 := h.c0
  have c1 := h.c1
  have y0 := hy.c0
  have y1 := hy.c1
  by_cases hx : x < 0
  · by_cases hy' : ¬ y < 0
    · have dx : decide (x < 0) = true := by simp; omega
      have dy : decide (y < 0) = false := by simp; omega
      have hr : (x - y).natAbs = x.natAbs + y.natAbs := by omega
      have hdr : decide (x - y < 0) = true := by simp; omega
      have hnz : x.natAbs + y.natAbs ≠ 0 := by omega
      rw [dx] at c0
      rw [dy] at y0
      go_enter Tryz.func191, Tryz.ntmps191
      go_wp2_with fail
      go_quiet (fail)
      rename Nat => nW
      have hW : BigAt (w.drewN (nW + 1)) B g (.slice A (wordsOf x.natAbs).length c) x := h.below (bdrewN (Below.refl _ w) (nW + 1))
      have hYW : YWds (w.drewN (nW + 1)) YA yn y.natAbs := ⟨hy.wds.1, hy.wds.2⟩
      have hWb : Below B w (w.drewN (nW + 1)) := bdrewN (Below.refl B w) (nW + 1)
      have hWh : Hid ((w.drewN (nW + 1)).heap = w.heap) := hide rfl
      have hWs : B ≤ (w.drewN (nW + 1)).heap.size := hBw
      go_wp2_with fail
      go_region_law (go_simp; go_at_call 59; refine (natAddV B x.natAbs y.natAbs _ c yn yc A YA _ hWs hv hW.wds rfl hYW hy.cap).mono ?_; rintro e w3 ⟨V3, rfl, hG⟩; obtain ⟨k0, k1, kf0, kf1, A3, cc3, rfl⟩ := hW.kept hG)
      all_goals
        have hlen : (0 : Int) < ((wordsOf (x.natAbs + y.natAbs)).length : Int) := by
          have := words_pos (v := x.natAbs + y.natAbs) hnz
          omega
        have hG2 : Gave (w.drewN (nW + 1)) w3 B (.slice A (wordsOf x.natAbs).length c) (.slice A3 (wordsOf (x.natAbs + y.natAbs)).length cc3) (wordsOf (x - y).natAbs) := by rw [hr]; exact hG
        go_wp2_with fail
      all_goals
        go_ret
        have hp := hW.put hG2
        rw [hdr] at hp
        exact ⟨rfl, _, hp, hW.put_below (r := x - y) hG2 hWb hWs (Nat.le_refl _) _, fun b h1 h2 h3 => (hW.put_frame hG2 hWh.out).1 _ _ b h1 h2 h3, (hW.put_frame hG2 hWh.out).2.1, (hW.put_frame hG2 hWh.out).2.2 _ _⟩
    · by_cases hxy : y.natAbs ≤ x.natAbs
      · have dx : decide (x < 0) = true := by simp; omega
        have dy : decide (y < 0) = true := by simp; omega
        have hr : (x - y).natAbs = x.natAbs - y.natAbs := by omega
        have hv2 : x.natAbs < W64 * W64 := by omega
        have hcm : (0 : Int) ≤ cmpN x.natAbs y.natAbs := by unfold cmpN; split <;> (try split) <;> omega
        rw [dx] at c0
        rw [dy] at y0
        go_enter Tryz.func191, Tryz.ntmps191
        go_wp2_with fail
        go_quiet (fail)
        go_wp2_with fail
        rename Nat => nW
        have hWa : BigAt (w.drewN nW) B g (.slice A (wordsOf x.natAbs).length c) x := h.below (bdrewN (Below.refl _ w) nW)
        have hYa : BigRd (w.drewN nW) gy y YA yn yc := ⟨hy.c0, hy.c1, ⟨hy.wds.1, hy.wds.2⟩, hy.cap⟩
        have hWb : Below B w (w.drewN nW) := bdrewN (Below.refl B w) nW
        have hWh : Hid ((w.drewN nW).heap = w.heap) := hide rfl
        have hWs : B ≤ (w.drewN nW).heap.size := hBw
        clear c0 c1 y0 y1
        generalize w.drewN nW = wa at hWa hYa hWb hWs hWh ⊢
        have c0 := hWa.c0
        have c1 := hWa.c1
        have y0 := hYa.c0
        have y1 := hYa.c1
        rw [dx] at c0
        rw [dy] at y0
        refine wp_region_still_tail 8 (by kernel_rfl) (by kernel_rfl) ?_
        simp only [List.take_succ_cons, List.take_zero, List.drop_succ_cons, List.drop_zero]
        change wpStill _ _ wa.drew _ _ _
        repeat still_step
        refine wpStill_nil ?_
        change wpList _ _ _ _ _ wa.drew
        have hWa : BigAt wa.drew B g (.slice A (wordsOf x.natAbs).length c) x := hWa.below (bdrewN (Below.refl _ wa) 1)
        have hYa : BigRd wa.drew gy y YA yn yc := ⟨hYa.c0, hYa.c1, ⟨hYa.wds.1, hYa.wds.2⟩, hYa.cap⟩
        have hWb : Below B w wa.drew := bdrewN hWb 1
        have hWh : Hid (wa.drew.heap = w.heap) := hWh
        have hWs : B ≤ wa.drew.heap.size := hWs
        clear c0 c1 y0 y1
        generalize wa.drew = wb at hWa hYa hWb hWs hWh ⊢
        go_wp2_with fail
        refine (natCmpV B x.natAbs y.natAbs _ c yn yc A YA _ hv2 hWa.wds rfl hYa.wds hYa.cap).mono ?_
        rintro e w3 ⟨rfl, n3, rfl⟩
        have hWa : BigAt (wb.drewN n3) B g (.slice A (wordsOf x.natAbs).length c) x := hWa.below (bdrewN (Below.refl _ wb) n3)
        have hYa : BigRd (wb.drewN n3) gy y YA yn yc := ⟨hYa.c0, hYa.c1, ⟨hYa.wds.1, hYa.wds.2⟩, hYa.cap⟩
        have hWb : Below B w (wb.drewN n3) := bdrewN hWb n3
        have hWh : Hid ((wb.drewN n3).heap = w.heap) := hWh
        have hWs : B ≤ (wb.drewN n3).heap.size := hWs
        generalize wb.drewN n3 = wc at hWa hYa hWb hWs hWh ⊢
        have c0 := hWa.c0
        have c1 := hWa.c1
        have y0 := hYa.c0
        have y1 := hYa.c1
        rw [dx] at c0
        rw [dy] at y0
        go_wp2_with fail
        have hW : BigAt wc.drew B g (.slice A (wordsOf x.natAbs).length c) x := hWa.below (bdrewN (Below.refl _ wc) 1)
        have hYW : YWds wc.drew YA yn y.natAbs := ⟨hYa.wds.1, hYa.wds.2⟩
        have hWb : Below B w wc.drew := bdrewN hWb 1
        have hWh : Hid (wc.drew.heap = w.heap) := hWh
        have hWs : B ≤ wc.drew.heap.size := hWs
        go_region_law (go_simp; go_at_call 61; refine (natSubV0 B x.natAbs y.natAbs _ c yn yc A YA _ hv2 hxy hW.wds rfl hYW hy.cap).mono ?_; rintro e w3 ⟨V3, rfl, hG⟩; obtain ⟨k0, k1, kf0, kf1, A3, cc3, rfl⟩ := hW.kept hG)
        all_goals
          have hG2 : Gave wc.drew w3 B (.slice A (wordsOf x.natAbs).length c) (.slice A3 (wordsOf (x.natAbs - y.natAbs)).length cc3) (wordsOf (x - y).natAbs) := by rw [hr]; exact hG
          have hp := hW.put hG2
          have hpb := fun b => hW.put_below (r := x - y) hG2 hWb hWs (Nat.le_refl _) b
          have hpf := hide (hW.put_frame hG2 hWh.out)
          by_cases hz : x.natAbs - y.natAbs = 0
          · have hz0 : (wordsOf (x.natAbs - y.natAbs)).length = 0 := by rw [hz]; rfl
            have hdr : decide (x - y < 0) = false := by simp; omega
            rw [hdr] at hp
            rw [hz0] at hp hpb hpf ⊢
            clear hG hG2
            go_wp2_with fail
            go_ret
            exact ⟨rfl, _, hp, hpb _, fun b h1 h2 h3 => hpf.out.1 _ _ b h1 h2 h3, hpf.out.2.1, hpf.out.2.2 _ _⟩
          · have hlen : (0 : Int) < ((wordsOf (x.natAbs - y.natAbs)).length : Int) := by
              have := words_pos (v := x.natAbs - y.natAbs) hz
              omega
            have hdr : decide (x - y < 0) = true := by simp; omega
            rw [hdr] at hp
            clear hG hG2
            go_wp2_with fail
            all_goals
              go_ret
              exact ⟨rfl, _, hp, hpb _, fun b h1 h2 h3 => hpf.out.1 _ _ b h1 h2 h3, hpf.out.2.1, hpf.out.2.2 _ _⟩
      · have dx : decide (x < 0) = true := by simp; omega
        have dy : decide (y < 0) = true := by simp; omega
        have hr : (x - y).natAbs = y.natAbs - x.natAbs := by omega
        have hv2 : x.natAbs < W64 * W64 := by omega

        have hcm : ¬ (0 : Int) ≤ cmpN x.natAbs y.natAbs := by unfold cmpN; split <;> (try split) <;> omega
        rw [dx] at c0
        rw [dy] at y0
        go_enter Tryz.func191, Tryz.ntmps191
        go_wp2_with fail
        go_quiet (fail)
        go_wp2_with fail
        rename Nat => nW
        have hWa : BigAt (w.drewN nW) B g (.slice A (wordsOf x.natAbs).length c) x := h.below (bdrewN (Below.refl _ w) nW)
        have hYa : BigRd (w.drewN nW) gy y YA yn yc := ⟨hy.c0, hy.c1, ⟨hy.wds.1, hy.wds.2⟩, hy.cap⟩
        have hWb : Below B w (w.drewN nW) := bdrewN (Below.refl B w) nW
        have hWh : Hid ((w.drewN nW).heap = w.heap) := hide rfl
        have hWs : B ≤ (w.drewN nW).heap.size := hBw
        clear c0 c1 y0 y1
        generalize w.drewN nW = wa at hWa hYa hWb hWs hWh ⊢
        have c0 := hWa.c0
        have c1 := hWa.c1
        have y0 := hYa.c0
        have y1 := hYa.c1
        rw [dx] at c0
        rw [dy] at y0
        refine wp_region_still_tail 8 (by kernel_rfl) (by kernel_rfl) ?_
        simp only [List.take_succ_cons, List.take_zero, List.drop_succ_cons, List.drop_zero]
        change wpStill _ _ wa.drew _ _ _
        repeat still_step
        refine wpStill_nil ?_
        change wpList _ _ _ _ _ wa.drew
        have hWa : BigAt wa.drew B g (.slice A (wordsOf x.natAbs).length c) x := hWa.below (bdrewN (Below.refl _ wa) 1)
        have hYa : BigRd wa.drew gy y YA yn yc := ⟨hYa.c0, hYa.c1, ⟨hYa.wds.1, hYa.wds.2⟩, hYa.cap⟩
        have hWb : Below B w wa.drew := bdrewN hWb 1
        have hWh : Hid (wa.drew.heap = w.heap) := hWh
        have hWs : B ≤ wa.drew.heap.size := hWs
        clear c0 c1 y0 y1
        generalize wa.drew = wb at hWa hYa hWb hWs hWh ⊢
        go_wp2_with fail
        refine (natCmpV B x.natAbs y.natAbs _ c yn yc A YA _ hv2 hWa.wds rfl hYa.wds hYa.cap).mono ?_
        rintro e w3 ⟨rfl, n3, rfl⟩
        have hWa : BigAt (wb.drewN n3) B g (.slice A (wordsOf x.natAbs).length c) x := hWa.below (bdrewN (Below.refl _ wb) n3)
        have hYa : BigRd (wb.drewN n3) gy y YA yn yc := ⟨hYa.c0, hYa.c1, ⟨hYa.wds.1, hYa.wds.2⟩, hYa.cap⟩
        have hWb : Below B w (wb.drewN n3) := bdrewN hWb n3
        have hWh : Hid ((wb.drewN n3).heap = w.heap) := hWh
        have hWs : B ≤ (wb.drewN n3).heap.size := hWs
        generalize wb.drewN n3 = wc at hWa hYa hWb hWs hWh ⊢
        have c0 := hWa.c0
        have c1 := hWa.c1
        have y0 := hYa.c0
        have y1 := hYa.c1
        rw [dx] at c0
        rw [dy] at y0
        go_wp2_with fail
        have hW : BigAt wc.drew B g (.slice A (wordsOf x.natAbs).length c) x := hWa.below (bdrewN (Below.refl _ wc) 1)
        have hYW : YWds wc.drew YA yn y.natAbs := ⟨hYa.wds.1, hYa.wds.2⟩
        have hWb : Below B w wc.drew := bdrewN hWb 1
        have hWh : Hid (wc.drew.heap = w.heap) := hWh
        have hWs : B ≤ wc.drew.heap.size := hWs
        go_region_law (go_simp; go_at_call 61; refine (natSubT B x.natAbs y.natAbs _ c yn yc A YA _ hWs (by omega) hW.wds rfl hYW hy.cap).mono ?_; rintro e w3 ⟨V3, rfl, hG⟩; obtain ⟨k0, k1, kf0, kf1, A3, cc3, rfl⟩ := hW.kept hG)
        all_goals
          have hG2 : Gave wc.drew w3 B (.slice A (wordsOf x.natAbs).length c) (.slice A3 (wordsOf (y.natAbs - x.natAbs)).length cc3) (wordsOf (x - y).natAbs) := by rw [hr]; exact hG
          have hp := hW.put hG2
          have hpb := fun b => hW.put_below (r := x - y) hG2 hWb hWs (Nat.le_refl _) b
          have hpf := hide (hW.put_frame hG2 hWh.out)
          have hlen : (0 : Int) < ((wordsOf (y.natAbs - x.natAbs)).length : Int) := by
            have := words_pos (v := y.natAbs - x.natAbs) (by omega)
            omega
          have hdr : decide (x - y < 0) = false := by simp; omega
          rw [hdr] at hp
          clear hG hG2
          go_wp2_with fail
        all_goals
          go_ret
          exact ⟨rfl, _, hp, hpb _, fun b h1 h2 h3 => hpf.out.1 _ _ b h1 h2 h3, hpf.out.2.1, hpf.out.2.2 _ _⟩
  · by_cases hy' : ¬ y < 0
    · by_cases hxy : y.natAbs ≤ x.natAbs
      · have dx : decide (x < 0) = false := by simp; omega
        have dy : decide (y < 0) = false := by simp; omega
        have hr : (x - y).natAbs = x.natAbs - y.natAbs := by omega
        have hv2 : x.natAbs < W64 * W64 := by omega
        have hcm : (0 : Int) ≤ cmpN x.natAbs y.natAbs := by unfold cmpN; split <;> (try split) <;> omega
        rw [dx] at c0
        rw [dy] at y0
        go_enter Tryz.func191, Tryz.ntmps191
        go_wp2_with fail
        go_quiet (fail)
        go_wp2_with fail
        rename Nat => nW
        have hWa : BigAt (w.drewN nW) B g (.slice A (wordsOf x.natAbs).length c) x := h.below (bdrewN (Below.refl _ w) nW)
        have hYa : BigRd (w.drewN nW) gy y YA yn yc := ⟨hy.c0, hy.c1, ⟨hy.wds.1, hy.wds.2⟩, hy.cap⟩
        have hWb : Below B w (w.drewN nW) := bdrewN (Below.refl B w) nW
        have hWh : Hid ((w.drewN nW).heap = w.heap) := hide rfl
        have hWs : B ≤ (w.drewN nW).heap.size := hBw
        clear c0 c1 y0 y1
        generalize w.drewN nW = wa at hWa hYa hWb hWs hWh ⊢
        have c0 := hWa.c0
        have c1 := hWa.c1
        have y0 := hYa.c0
        have y1 := hYa.c1
        rw [dx] at c0
        rw [dy] at y0
        refine wp_region_still_tail 8 (by kernel_rfl) (by kernel_rfl) ?_
        simp only [List.take_succ_cons, List.take_zero, List.drop_succ_cons, List.drop_zero]
        change wpStill _ _ wa.drew _ _ _
        repeat still_step
        refine wpStill_nil ?_
        change wpList _ _ _ _ _ wa.drew
        have hWa : BigAt wa.drew B g (.slice A (wordsOf x.natAbs).length c) x := hWa.below (bdrewN (Below.refl _ wa) 1)
        have hYa : BigRd wa.drew gy y YA yn yc := ⟨hYa.c0, hYa.c1, ⟨hYa.wds.1, hYa.wds.2⟩, hYa.cap⟩
        have hWb : Below B w wa.drew := bdrewN hWb 1
        have hWh : Hid (wa.drew.heap = w.heap) := hWh
        have hWs : B ≤ wa.drew.heap.size := hWs
        clear c0 c1 y0 y1
        generalize wa.drew = wb at hWa hYa hWb hWs hWh ⊢
        go_wp2_with fail
        refine (natCmpV B x.natAbs y.natAbs _ c yn yc A YA _ hv2 hWa.wds rfl hYa.wds hYa.cap).mono ?_
        rintro e w3 ⟨rfl, n3, rfl⟩
        have hWa : BigAt (wb.drewN n3) B g (.slice A (wordsOf x.natAbs).length c) x := hWa.below (bdrewN (Below.refl _ wb) n3)
        have hYa : BigRd (wb.drewN n3) gy y YA yn yc := ⟨hYa.c0, hYa.c1, ⟨hYa.wds.1, hYa.wds.2⟩, hYa.cap⟩
        have hWb : Below B w (wb.drewN n3) := bdrewN hWb n3
        have hWh : Hid ((wb.drewN n3).heap = w.heap) := hWh
        have hWs : B ≤ (wb.drewN n3).heap.size := hWs
        generalize wb.drewN n3 = wc at hWa hYa hWb hWs hWh ⊢
        have c0 := hWa.c0
        have c1 := hWa.c1
        have y0 := hYa.c0
        have y1 := hYa.c1
        rw [dx] at c0
        rw [dy] at y0
        go_wp2_with fail
        have hW : BigAt wc.drew B g (.slice A (wordsOf x.natAbs).length c) x := hWa.below (bdrewN (Below.refl _ wc) 1)
        have hYW : YWds wc.drew YA yn y.natAbs := ⟨hYa.wds.1, hYa.wds.2⟩
        have hWb : Below B w wc.drew := bdrewN hWb 1
        have hWh : Hid (wc.drew.heap = w.heap) := hWh
        have hWs : B ≤ wc.drew.heap.size := hWs
        go_region_law (go_simp; go_at_call 61; refine (natSubV0 B x.natAbs y.natAbs _ c yn yc A YA _ hv2 hxy hW.wds rfl hYW hy.cap).mono ?_; rintro e w3 ⟨V3, rfl, hG⟩; obtain ⟨k0, k1, kf0, kf1, A3, cc3, rfl⟩ := hW.kept hG)
        all_goals
          have hG2 : Gave wc.drew w3 B (.slice A (wordsOf x.natAbs).length c) (.slice A3 (wordsOf (x.natAbs - y.natAbs)).length cc3) (wordsOf (x - y).natAbs) := by rw [hr]; exact hG
          have hp := hW.put hG2
          have hpb := fun b => hW.put_below (r := x - y) hG2 hWb hWs (Nat.le_refl _) b
          have hpf := hide (hW.put_frame hG2 hWh.out)
          by_cases hz : x.natAbs - y.natAbs = 0
          · have hz0 : (wordsOf (x.natAbs - y.natAbs)).length = 0 := by rw [hz]; rfl
            have hdr : decide (x - y < 0) = false := by simp; omega
            rw [hdr] at hp
            rw [hz0] at hp hpb hpf ⊢
            clear hG hG2
            go_wp2_with fail
            go_ret
            exact ⟨rfl, _, hp, hpb _, fun b h1 h2 h3 => hpf.out.1 _ _ b h1 h2 h3, hpf.out.2.1, hpf.out.2.2 _ _⟩
          · have hlen : (0 : Int) < ((wordsOf (x.natAbs - y.natAbs)).length : Int) := by
              have := words_pos (v := x.natAbs - y.natAbs) hz
              omega
            have hdr : decide (x - y < 0) = false := by simp; omega
            rw [hdr] at hp
            clear hG hG2
            go_wp2_with fail
            all_goals
              go_ret
              exact ⟨rfl, _, hp, hpb _, fun b h1 h2 h3 => hpf.out.1 _ _ b h1 h2 h3, hpf.out.2.1, hpf.out.2.2 _ _⟩
      · have dx : decide (x < 0) = false := by simp; omega
        have dy : decide (y < 0) = false := by simp; omega
        have hr : (x - y).natAbs = y.natAbs - x.natAbs := by omega
        have hv2 : x.natAbs < W64 * W64 := by omega

        have hcm : ¬ (0 : Int) ≤ cmpN x.natAbs y.natAbs := by unfold cmpN; split <;> (try split) <;> omega
        rw [dx] at c0
        rw [dy] at y0
        go_enter Tryz.func191, Tryz.ntmps191
        go_wp2_with fail
        go_quiet (fail)
        go_wp2_with fail
        rename Nat => nW
        have hWa : BigAt (w.drewN nW) B g (.slice A (wordsOf x.natAbs).length c) x := h.below (bdrewN (Below.refl _ w) nW)
        have hYa : BigRd (w.drewN nW) gy y YA yn yc := ⟨hy.c0, hy.c1, ⟨hy.wds.1, hy.wds.2⟩, hy.cap⟩
        have hWb : Below B w (w.drewN nW) := bdrewN (Below.refl B w) nW
        have hWh : Hid ((w.drewN nW).heap = w.heap) := hide rfl
        have hWs : B ≤ (w.drewN nW).heap.size := hBw
        clear c0 c1 y0 y1
        generalize w.drewN nW = wa at hWa hYa hWb hWs hWh ⊢
        have c0 := hWa.c0
        have c1 := hWa.c1
        have y0 := hYa.c0
        have y1 := hYa.c1
        rw [dx] at c0
        rw [dy] at y0
        refine wp_region_still_tail 8 (by kernel_rfl) (by kernel_rfl) ?_
        simp only [List.take_succ_cons, List.take_zero, List.drop_succ_cons, List.drop_zero]
        change wpStill _ _ wa.drew _ _ _
        repeat still_step
        refine wpStill_nil ?_
        change wpList _ _ _ _ _ wa.drew
        have hWa : BigAt wa.drew B g (.slice A (wordsOf x.natAbs).length c) x := hWa.below (bdrewN (Below.refl _ wa) 1)
        have hYa : BigRd wa.drew gy y YA yn yc := ⟨hYa.c0, hYa.c1, ⟨hYa.wds.1, hYa.wds.2⟩, hYa.cap⟩
        have hWb : Below B w wa.drew := bdrewN hWb 1
        have hWh : Hid (wa.drew.heap = w.heap) := hWh
        have hWs : B ≤ wa.drew.heap.size := hWs
        clear c0 c1 y0 y1
        generalize wa.drew = wb at hWa hYa hWb hWs hWh ⊢
        go_wp2_with fail
        refine (natCmpV B x.natAbs y.natAbs _ c yn yc A YA _ hv2 hWa.wds rfl hYa.wds hYa.cap).mono ?_
        rintro e w3 ⟨rfl, n3, rfl⟩
        have hWa : BigAt (wb.drewN n3) B g (.slice A (wordsOf x.natAbs).length c) x := hWa.below (bdrewN (Below.refl _ wb) n3)
        have hYa : BigRd (wb.drewN n3) gy y YA yn yc := ⟨hYa.c0, hYa.c1, ⟨hYa.wds.1, hYa.wds.2⟩, hYa.cap⟩
        have hWb : Below B w (wb.drewN n3) := bdrewN hWb n3
        have hWh : Hid ((wb.drewN n3).heap = w.heap) := hWh
        have hWs : B ≤ (wb.drewN n3).heap.size := hWs
        generalize wb.drewN n3 = wc at hWa hYa hWb hWs hWh ⊢
        have c0 := hWa.c0
        have c1 := hWa.c1
        have y0 := hYa.c0
        have y1 := hYa.c1
        rw [dx] at c0
        rw [dy] at y0
        go_wp2_with fail
        have hW : BigAt wc.drew B g (.slice A (wordsOf x.natAbs).length c) x := hWa.below (bdrewN (Below.refl _ wc) 1)
        have hYW : YWds wc.drew YA yn y.natAbs := ⟨hYa.wds.1, hYa.wds.2⟩
        have hWb : Below B w wc.drew := bdrewN hWb 1
        have hWh : Hid (wc.drew.heap = w.heap) := hWh
        have hWs : B ≤ wc.drew.heap.size := hWs
        go_region_law (go_simp; go_at_call 61; refine (natSubT B x.natAbs y.natAbs _ c yn yc A YA _ hWs (by omega) hW.wds rfl hYW hy.cap).mono ?_; rintro e w3 ⟨V3, rfl, hG⟩; obtain ⟨k0, k1, kf0, kf1, A3, cc3, rfl⟩ := hW.kept hG)
        all_goals
          have hG2 : Gave wc.drew w3 B (.slice A (wordsOf x.natAbs).length c) (.slice A3 (wordsOf (y.natAbs - x.natAbs)).length cc3) (wordsOf (x - y).natAbs) := by rw [hr]; exact hG
          have hp := hW.put hG2
          have hpb := fun b => hW.put_below (r := x - y) hG2 hWb hWs (Nat.le_refl _) b
          have hpf := hide (hW.put_frame hG2 hWh.out)
          have hlen : (0 : Int) < ((wordsOf (y.natAbs - x.natAbs)).length : Int) := by
            have := words_pos (v := y.natAbs - x.natAbs) (by omega)
            omega
          have hdr : decide (x - y < 0) = true := by simp; omega
          rw [hdr] at hp
          clear hG hG2
          go_wp2_with fail
        all_goals
          go_ret
          exact ⟨rfl, _, hp, hpb _, fun b h1 h2 h3 => hpf.out.1 _ _ b h1 h2 h3, hpf.out.2.1, hpf.out.2.2 _ _⟩
    · have dx : decide (x < 0) = false := by simp; omega
      have dy : decide (y < 0) = true := by simp; omega
      have hr : (x - y).natAbs = x.natAbs + y.natAbs := by omega
      have hdr : decide (x - y < 0) = false := by simp; omega
      rw [dx] at c0
      rw [dy] at y0
      go_enter Tryz.func191, Tryz.ntmps191
      go_wp2_with fail
      go_quiet (fail)
      rename Nat => nW
      have hW : BigAt (w.drewN (nW + 1)) B g (.slice A (wordsOf x.natAbs).length c) x := h.below (bdrewN (Below.refl _ w) (nW + 1))
      have hYW : YWds (w.drewN (nW + 1)) YA yn y.natAbs := ⟨hy.wds.1, hy.wds.2⟩
      have hWb : Below B w (w.drewN (nW + 1)) := bdrewN (Below.refl B w) (nW + 1)
      have hWh : Hid ((w.drewN (nW + 1)).heap = w.heap) := hide rfl
      have hWs : B ≤ (w.drewN (nW + 1)).heap.size := hBw
      go_wp2_with fail
      go_region_law (go_simp; go_at_call 59; refine (natAddV B x.natAbs y.natAbs _ c yn yc A YA _ hWs hv hW.wds rfl hYW hy.cap).mono ?_; rintro e w3 ⟨V3, rfl, hG⟩; obtain ⟨k0, k1, kf0, kf1, A3, cc3, rfl⟩ := hW.kept hG)
      all_goals
        have hG2 : Gave (w.drewN (nW + 1)) w3 B (.slice A (wordsOf x.natAbs).length c) (.slice A3 (wordsOf (x.natAbs + y.natAbs)).length cc3) (wordsOf (x - y).natAbs) := by rw [hr]; exact hG
        go_wp2_with fail
      all_goals
        go_ret
        have hp := hW.put hG2
        rw [hdr] at hp
        exact ⟨rfl, _, hp, hW.put_below (r := x - y) hG2 hWb hWs (Nat.le_refl _) _, fun b h1 h2 h3 => (hW.put_frame hG2 hWh.out).1 _ _ b h1 h2 h3, (hW.put_frame hG2 hWh.out).2.1, (hW.put_frame hG2 hWh.out).2.2 _ _⟩

/-- a number of one word that is read -/
theorem BigAt.read {w : World} {B g : Nat} {V : Value} {x : Int} (h : BigAt w B g V x) (hx : x.natAbs < W64) : ∃ A n c, V = .slice A n c ∧ BigRd w g x A n c := by
  obtain ⟨A, c, e, _⟩ := h.wds.cap
  subst e
  refine ⟨A, _, c, rfl, h.c0, h.c1, ⟨h.wds.own.rd wEnc_ok, hx⟩, ?_⟩
  rcases h.wds.own.2 with ⟨hv, h0⟩ | ⟨g', cap, cur, hv, hB, hg, hc, hm, hs, ht⟩
  · injection hv with _ h2 _; omega
  · injection hv with _ _ h3
    omega
end Go.Proofs.YtjojjicpdfmopaaGreatDoor
