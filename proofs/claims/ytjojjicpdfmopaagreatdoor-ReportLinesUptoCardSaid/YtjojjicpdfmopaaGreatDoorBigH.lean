/- Great numbers: (big.Int).Add. -/
import Derived.Test.YtjojjicpdfmopaaGreatDoorBigX
import Derived.Deep.RegionLaw
namespace Go.Proofs.YtjojjicpdfmopaaGreatDoor
open Go Go.RowKit
set_option linter.unusedVariables false

/-- block g is the number x; V: its words, of the call's own -/
structure BigAt (w : World) (B g : Nat) (V : Value) (x : Int) : Prop where
  gB : B ≤ g
  c0 : w.cell? ⟨g, 0, none⟩ = some (.bool (decide (x < 0)))
  c1 : w.cell? ⟨g, 1, none⟩ = some V
  fr : ∀ q, w.frozen? ⟨g, q, none⟩ = false
  wds : Wds w B V (wordsOf x.natAbs)
  vg : V.ownBlock ≠ some g
theorem BigAt.lt {w : World} {B g : Nat} {V : Value} {x : Int} (h : BigAt w B g V x) : g < w.heap.size := World.block_lt_of_cell? _ _ h.c0
theorem BigAt.below {w w' : World} {B g : Nat} {V : Value} {x : Int} (h : BigAt w B g V x) (hb : Below w.heap.size w w') : BigAt w' B g V x :=
  ⟨h.gB, below_cell hb h.lt h.c0, below_cell hb h.lt h.c1, fun q => (hb.frozen (p := ⟨g, q, none⟩) h.lt).trans (h.fr q), ⟨h.wds.own.below hb, h.wds.cap⟩, h.vg⟩
theorem BigAt.form {w : World} {B g : Nat} {V : Value} {x : Int} (h : BigAt w B g V x) : ∃ A c, V = .slice A (wordsOf x.natAbs).length c := by
  obtain ⟨A, c, e, _⟩ := h.wds.cap
  exact ⟨A, c, e⟩
/-- another number, that is read alone -/
structure BigRd (w : World) (g : Nat) (y : Int) (YA : Option Addr) (yn yc : Nat) : Prop where
  c0 : w.cell? ⟨g, 0, none⟩ = some (.bool (decide (y < 0)))
  c1 : w.cell? ⟨g, 1, none⟩ = some (.slice YA yn yc)
  wds : YWds w YA yn y.natAbs
  cap : yn ≤ yc

theorem frozen_grown2 {W w' : World} {gx q : Nat} {row : Option Nat} (hf : W.frozen? ⟨gx, q, none⟩ = false) (hx : gx < W.heap.size) (hg : W.grownBy w' row) (hne : row ≠ some gx) : w'.frozen? ⟨gx, q, none⟩ = false := by
  have y := hg.block gx hx (fun e => hne e.symm)
  rw [← hf]
  unfold World.frozen?
  simp only [y]

/-- what is stored behind the reckoning makes it the number r -/
theorem BigAt.put {w w' : World} {B g : Nat} {V V' : Value} {x r : Int} (h : BigAt w B g V x) (hG : Gave w w' B V V' (wordsOf r.natAbs)) :
    BigAt ((w'.setCell ⟨g, 1, none⟩ V').setCell ⟨g, 0, none⟩ (.bool (decide (r < 0)))) B g V' r := by
  have hgl := h.lt
  have k0 := hG.grown.cell h.c0 (fun e => h.vg e.symm)
  have k1 := hG.grown.cell h.c1 (fun e => h.vg e.symm)
  have kf := fun q => frozen_grown2 (h.fr q) hgl hG.grown h.vg
  have hne : V'.ownBlock ≠ some g := by
    rcases hG.at_ with e | ⟨k, e, hk⟩
    · rw [e]; exact h.vg
    · rw [e]; intro e2; injection e2 with e2; omega
  have hs := only_setCell (only_setCell (only_refl w' (some g)) 1 V') 0 (.bool (decide (r < 0)))
  refine ⟨h.gB, ?_, ?_, fun q => by simp [kf q], ⟨hG.wds.own.grown hs (.inr hne), hG.wds.cap⟩, hne⟩
  · exact World.cell?_setCell_same _ ⟨g, 0, none⟩ _ ((World.cell?_setCell_other _ _ _ _ (by simp)).trans k0)
  · exact (World.cell?_setCell_other _ _ _ _ (by simp)).trans (World.cell?_setCell_same _ ⟨g, 1, none⟩ _ k1)
theorem BigAt.put_below {w0 w w' : World} {B B0 g : Nat} {V V' : Value} {x r : Int} (h : BigAt w B g V x) (hG : Gave w w' B V V' (wordsOf r.natAbs)) (hb : Below B0 w0 w) (h0 : B0 ≤ w.heap.size) (hB : B0 ≤ B) (b : Value) :
    Below B0 w0 ((w'.setCell ⟨g, 1, none⟩ V').setCell ⟨g, 0, none⟩ b) :=
  (((hb.grown hG.grown h0 (fun k e => Nat.le_trans hB (h.wds.own.block k e).1))).setCell (Nat.le_trans hB h.gB) _).setCell (Nat.le_trans hB h.gB) _

theorem BigAt.kept {w w' : World} {B g : Nat} {V V' : Value} {x : Int} {ws : List Nat} (h : BigAt w B g V x) (hG : Gave w w' B V V' ws) :
    w'.cell? ⟨g, 0, none⟩ = some (.bool (decide (x < 0))) ∧ w'.cell? ⟨g, 1, none⟩ = some V ∧ w'.frozen? ⟨g, 0, none⟩ = false ∧ w'.frozen? ⟨g, 1, none⟩ = false ∧ ∃ A c, V' = .slice A ws.length c := by
  obtain ⟨A, c, e, _⟩ := hG.wds.cap
  exact ⟨hG.grown.cell h.c0 (fun e => h.vg e.symm), hG.grown.cell h.c1 (fun e => h.vg e.symm), frozen_grown2 (h.fr 0) h.lt hG.grown h.vg, frozen_grown2 (h.fr 1) h.lt hG.grown h.vg, A, c, e⟩
theorem YWds.drewN {w : World} {YA : Option Addr} {yn b : Nat} (h : YWds w YA yn b) (n : Nat) : YWds (w.drewN n) YA yn b := ⟨h.1, h.2⟩
theorem cell_alike {w w' : World} (e : w'.heap = w.heap) (a : Addr) : w'.cell? a = w.cell? a := by unfold World.cell?; rw [e]
theorem YWds.alike {w w' : World} {YA : Option Addr} {yn b : Nat} (h : YWds w YA yn b) (e : w'.heap = w.heap) : YWds w' YA yn b := ⟨h.1.keep (fun b o u hu => (cell_alike e _).trans hu), h.2⟩
theorem Wds.alike {w w' : World} {B : Nat} {V : Value} {ws : List Nat} (h : Wds w B V ws) (e : w'.heap = w.heap) : Wds w' B V ws := by
  refine ⟨⟨h.own.1, ?_⟩, h.cap⟩
  rcases h.own.2 with h1 | ⟨g, cap, cur, h1, h2, h3, h4⟩
  · exact .inl h1
  · exact .inr ⟨g, cap, cur, h1, h2, by rw [e]; exact h3, h4⟩
theorem words_pos {v : Nat} (h : v ≠ 0) : 0 < (wordsOf v).length := by
  unfold wordsOf
  rw [if_neg h]
  split <;> simp

set_option maxHeartbeats 8000000 in
set_option maxRecDepth 100000 in
theorem bigAdd_any (B g gy yn yc : Nat) (V : Value) (x y : Int) (YA : Option Addr) (w : World) (hBw : B ≤ w.heap.size) (h : BigAt w B g V x) (hy : BigRd w gy y YA yn yc) (hv : x.natAbs + y.natAbs < W64 * W64) :
    Calls Tryz.prog 29 #[.pointer (some ⟨g, 0, none⟩), .pointer (some ⟨g, 0, none⟩), .pointer (some ⟨gy, 0, none⟩)] w
      fun e w' => e = .returned (.pointer (some ⟨g, 0, none⟩)) ∧ ∃ V', BigAt w' B g V' (x + y) ∧ Below B w w' := by
  obtain ⟨A, c, rfl⟩ := h.form
  have c0 := h.c0
  have c1 := h.c1
  have y0 := hy.c0
  have y1 := hy.c1
  by_cases hx : x < 0
  · by_cases hy' : y < 0
    · have dx : decide (x < 0) = true := by simp; omega
      have dy : decide (y < 0) = true := by simp; omega
      have hr : (x + y).natAbs = x.natAbs + y.natAbs := by omega
      have hdr : decide (x + y < 0) = true := by simp; omega
      have hnz : x.natAbs + y.natAbs ≠ 0 := by omega
      rw [dx] at c0
      rw [dy] at y0
      go_enter Tryz.func29, Tryz.ntmps29
      go_wp2_with fail
      go_quiet (fail)
      rename Nat => nW
      have hW : BigAt (w.drewN (nW + 1)) B g (.slice A (wordsOf x.natAbs).length c) x := h.below (bdrewN (Below.refl _ w) (nW + 1))
      have hYW : YWds (w.drewN (nW + 1)) YA yn y.natAbs := ⟨hy.wds.1, hy.wds.2⟩
      have hWb : Below B w (w.drewN (nW + 1)) := bdrewN (Below.refl B w) (nW + 1)
      have hWs : B ≤ (w.drewN (nW + 1)).heap.size := hBw
      go_wp2_with fail
      go_region_law (go_simp; go_at_call 59; refine (natAddV B x.natAbs y.natAbs _ c yn yc A YA _ hWs hv hW.wds rfl hYW hy.cap).mono ?_; rintro e w3 ⟨V3, rfl, hG⟩; obtain ⟨k0, k1, kf0, kf1, A3, cc3, rfl⟩ := hW.kept hG)
      all_goals
        have hlen : (0 : Int) < ((wordsOf (x.natAbs + y.natAbs)).length : Int) := by
          have := words_pos (v := x.natAbs + y.natAbs) hnz
          omega
        have hG2 : Gave (w.drewN (nW + 1)) w3 B (.slice A (wordsOf x.natAbs).length c) (.slice A3 (wordsOf (x.natAbs + y.natAbs)).length cc3) (wordsOf (x + y).natAbs) := by rw [hr]; exact hG
        go_wp2_with fail
      all_goals
        go_ret
        have hp := hW.put hG2
        rw [hdr] at hp
        exact ⟨rfl, _, hp, hW.put_below (r := x + y) hG2 hWb hWs (Nat.le_refl _) _⟩
    · by_cases hxy : y.natAbs ≤ x.natAbs
      · have dx : decide (x < 0) = true := by simp; omega
        have dy : decide (y < 0) = false := by simp; omega
        have hr : (x + y).natAbs = x.natAbs - y.natAbs := by omega
        have hv2 : x.natAbs < W64 * W64 := by omega
        have hx0 : x.natAbs ≠ 0 := by omega
        have hcm : (0 : Int) ≤ cmpN x.natAbs y.natAbs := by unfold cmpN; split <;> (try split) <;> omega
        rw [dx] at c0
        rw [dy] at y0
        go_enter Tryz.func29, Tryz.ntmps29
        go_wp2_with fail
        go_quiet (fail)
        go_wp2_with fail
        rename Nat => nW
        have hWa : BigAt (w.drewN nW) B g (.slice A (wordsOf x.natAbs).length c) x := h.below (bdrewN (Below.refl _ w) nW)
        have hYa : BigRd (w.drewN nW) gy y YA yn yc := ⟨hy.c0, hy.c1, ⟨hy.wds.1, hy.wds.2⟩, hy.cap⟩
        have hWb : Below B w (w.drewN nW) := bdrewN (Below.refl B w) nW
        have hWs : B ≤ (w.drewN nW).heap.size := hBw
        clear c0 c1 y0 y1
        generalize w.drewN nW = wa at hWa hYa hWb hWs ⊢
        have c0 := hWa.c0
        have c1 := hWa.c1
        have y0 := hYa.c0
        have y1 := hYa.c1
        rw [dx] at c0
        rw [dy] at y0
        refine wp_region_still_tail 8 (by kernel_rfl) (by kernel_rfl) ?_
        simp only [List.take_succ_cons, List.take_zero, List.drop_succ_cons, List.drop_zero]
        change wpStill _ _ wa.drew _ _ _
        repeat still_step
        refine wpStill_nil ?_
        change wpList _ _ _ _ _ wa.drew
        have hWa : BigAt wa.drew B g (.slice A (wordsOf x.natAbs).length c) x := hWa.below (bdrewN (Below.refl _ wa) 1)
        have hYa : BigRd wa.drew gy y YA yn yc := ⟨hYa.c0, hYa.c1, ⟨hYa.wds.1, hYa.wds.2⟩, hYa.cap⟩
        have hWb : Below B w wa.drew := bdrewN hWb 1
        have hWs : B ≤ wa.drew.heap.size := hWs
        clear c0 c1 y0 y1
        generalize wa.drew = wb at hWa hYa hWb hWs ⊢
        go_wp2_with fail
        refine (natCmpV B x.natAbs y.natAbs _ c yn yc A YA _ hv2 hWa.wds rfl hYa.wds hYa.cap).mono ?_
        rintro e w3 ⟨rfl, n3, rfl⟩
        have hWa : BigAt (wb.drewN n3) B g (.slice A (wordsOf x.natAbs).length c) x := hWa.below (bdrewN (Below.refl _ wb) n3)
        have hYa : BigRd (wb.drewN n3) gy y YA yn yc := ⟨hYa.c0, hYa.c1, ⟨hYa.wds.1, hYa.wds.2⟩, hYa.cap⟩
        have hWb : Below B w (wb.drewN n3) := bdrewN hWb n3
        have hWs : B ≤ (wb.drewN n3).heap.size := hWs
        generalize wb.drewN n3 = wc at hWa hYa hWb hWs ⊢
        have c0 := hWa.c0
        have c1 := hWa.c1
        have y0 := hYa.c0
        have y1 := hYa.c1
        rw [dx] at c0
        rw [dy] at y0
        go_wp2_with fail
        have hW : BigAt wc.drew B g (.slice A (wordsOf x.natAbs).length c) x := hWa.below (bdrewN (Below.refl _ wc) 1)
        have hYW : YWds wc.drew YA yn y.natAbs := ⟨hYa.wds.1, hYa.wds.2⟩
        have hWb : Below B w wc.drew := bdrewN hWb 1
        have hWs : B ≤ wc.drew.heap.size := hWs
        go_region_law (go_simp; go_at_call 61; refine (natSubV B x.natAbs y.natAbs _ c yn yc A YA _ hv2 hxy hx0 hW.wds rfl hYW hy.cap).mono ?_; rintro e w3 ⟨V3, rfl, hG⟩; obtain ⟨k0, k1, kf0, kf1, A3, cc3, rfl⟩ := hW.kept hG)
        all_goals
          have hG2 : Gave wc.drew w3 B (.slice A (wordsOf x.natAbs).length c) (.slice A3 (wordsOf (x.natAbs - y.natAbs)).length cc3) (wordsOf (x + y).natAbs) := by rw [hr]; exact hG
          have hp := hW.put hG2
          have hpb := fun b => hW.put_below (r := x + y) hG2 hWb hWs (Nat.le_refl _) b
          by_cases hz : x.natAbs - y.natAbs = 0
          · have hz0 : (wordsOf (x.natAbs - y.natAbs)).length = 0 := by rw [hz]; rfl
            have hdr : decide (x + y < 0) = false := by simp; omega
            rw [hdr] at hp
            rw [hz0] at hp hpb ⊢
            clear hG hG2
            go_wp2_with fail
            go_ret
            exact ⟨rfl, _, hp, hpb _⟩
          · have hlen : (0 : Int) < ((wordsOf (x.natAbs - y.natAbs)).length : Int) := by
              have := words_pos (v := x.natAbs - y.natAbs) hz
              omega
            have hdr : decide (x + y < 0) = true := by simp; omega
            rw [hdr] at hp
            clear hG hG2
            go_wp2_with fail
            all_goals
              go_ret
              exact ⟨rfl, _, hp, hpb _⟩
      · have dx : decide (x < 0) = true := by simp; omega
        have dy : decide (y < 0) = false := by simp; omega
        have hr : (x + y).natAbs = y.natAbs - x.natAbs := by omega
        have hv2 : x.natAbs < W64 * W64 := by omega

        have hcm : ¬ (0 : Int) ≤ cmpN x.natAbs y.natAbs := by unfold cmpN; split <;> (try split) <;> omega
        rw [dx] at c0
        rw [dy] at y0
        go_enter Tryz.func29, Tryz.ntmps29
        go_wp2_with fail
        go_quiet (fail)
        go_wp2_with fail
        rename Nat => nW
        have hWa : BigAt (w.drewN nW) B g (.slice A (wordsOf x.natAbs).length c) x := h.below (bdrewN (Below.refl _ w) nW)
        have hYa : BigRd (w.drewN nW) gy y YA yn yc := ⟨hy.c0, hy.c1, ⟨hy.wds.1, hy.wds.2⟩, hy.cap⟩
        have hWb : Below B w (w.drewN nW) := bdrewN (Below.refl B w) nW
        have hWs : B ≤ (w.drewN nW).heap.size := hBw
        clear c0 c1 y0 y1
        generalize w.drewN nW = wa at hWa hYa hWb hWs ⊢
        have c0 := hWa.c0
        have c1 := hWa.c1
        have y0 := hYa.c0
        have y1 := hYa.c1
        rw [dx] at c0
        rw [dy] at y0
        refine wp_region_still_tail 8 (by kernel_rfl) (by kernel_rfl) ?_
        simp only [List.take_succ_cons, List.take_zero, List.drop_succ_cons, List.drop_zero]
        change wpStill _ _ wa.drew _ _ _
        repeat still_step
        refine wpStill_nil ?_
        change wpList _ _ _ _ _ wa.drew
        have hWa : BigAt wa.drew B g (.slice A (wordsOf x.natAbs).length c) x := hWa.below (bdrewN (Below.refl _ wa) 1)
        have hYa : BigRd wa.drew gy y YA yn yc := ⟨hYa.c0, hYa.c1, ⟨hYa.wds.1, hYa.wds.2⟩, hYa.cap⟩
        have hWb : Below B w wa.drew := bdrewN hWb 1
        have hWs : B ≤ wa.drew.heap.size := hWs
        clear c0 c1 y0 y1
        generalize wa.drew = wb at hWa hYa hWb hWs ⊢
        go_wp2_with fail
        refine (natCmpV B x.natAbs y.natAbs _ c yn yc A YA _ hv2 hWa.wds rfl hYa.wds hYa.cap).mono ?_
        rintro e w3 ⟨rfl, n3, rfl⟩
        have hWa : BigAt (wb.drewN n3) B g (.slice A (wordsOf x.natAbs).length c) x := hWa.below (bdrewN (Below.refl _ wb) n3)
        have hYa : BigRd (wb.drewN n3) gy y YA yn yc := ⟨hYa.c0, hYa.c1, ⟨hYa.wds.1, hYa.wds.2⟩, hYa.cap⟩
        have hWb : Below B w (wb.drewN n3) := bdrewN hWb n3
        have hWs : B ≤ (wb.drewN n3).heap.size := hWs
        generalize wb.drewN n3 = wc at hWa hYa hWb hWs ⊢
        have c0 := hWa.c0
        have c1 := hWa.c1
        have y0 := hYa.c0
        have y1 := hYa.c1
        rw [dx] at c0
        rw [dy] at y0
        go_wp2_with fail
        have hW : BigAt wc.drew B g (.slice A (wordsOf x.natAbs).length c) x := hWa.below (bdrewN (Below.refl _ wc) 1)
        have hYW : YWds wc.drew YA yn y.natAbs := ⟨hYa.wds.1, hYa.wds.2⟩
        have hWb : Below B w wc.drew := bdrewN hWb 1
        have hWs : B ≤ wc.drew.heap.size := hWs
        go_region_law (go_simp; go_at_call 61; refine (natSubT B x.natAbs y.natAbs _ c yn yc A YA _ hWs (by omega) hW.wds rfl hYW hy.cap).mono ?_; rintro e w3 ⟨V3, rfl, hG⟩; obtain ⟨k0, k1, kf0, kf1, A3, cc3, rfl⟩ := hW.kept hG)
        all_goals
          have hG2 : Gave wc.drew w3 B (.slice A (wordsOf x.natAbs).length c) (.slice A3 (wordsOf (y.natAbs - x.natAbs)).length cc3) (wordsOf (x + y).natAbs) := by rw [hr]; exact hG
          have hp := hW.put hG2
          have hpb := fun b => hW.put_below (r := x + y) hG2 hWb hWs (Nat.le_refl _) b
          have hlen : (0 : Int) < ((wordsOf (y.natAbs - x.natAbs)).length : Int) := by
            have := words_pos (v := y.natAbs - x.natAbs) (by omega)
            omega
          have hdr : decide (x + y < 0) = false := by simp; omega
          rw [hdr] at hp
          clear hG hG2
          go_wp2_with fail
        all_goals
          go_ret
          exact ⟨rfl, _, hp, hpb _⟩
  · by_cases hy' : y < 0
    · by_cases hxy : y.natAbs ≤ x.natAbs
      · have dx : decide (x < 0) = false := by simp; omega
        have dy : decide (y < 0) = true := by simp; omega
        have hr : (x + y).natAbs = x.natAbs - y.natAbs := by omega
        have hv2 : x.natAbs < W64 * W64 := by omega
        have hx0 : x.natAbs ≠ 0 := by omega
        have hcm : (0 : Int) ≤ cmpN x.natAbs y.natAbs := by unfold cmpN; split <;> (try split) <;> omega
        rw [dx] at c0
        rw [dy] at y0
        go_enter Tryz.func29, Tryz.ntmps29
        go_wp2_with fail
        go_quiet (fail)
        go_wp2_with fail
        rename Nat => nW
        have hWa : BigAt (w.drewN nW) B g (.slice A (wordsOf x.natAbs).length c) x := h.below (bdrewN (Below.refl _ w) nW)
        have hYa : BigRd (w.drewN nW) gy y YA yn yc := ⟨hy.c0, hy.c1, ⟨hy.wds.1, hy.wds.2⟩, hy.cap⟩
        have hWb : Below B w (w.drewN nW) := bdrewN (Below.refl B w) nW
        have hWs : B ≤ (w.drewN nW).heap.size := hBw
        clear c0 c1 y0 y1
        generalize w.drewN nW = wa at hWa hYa hWb hWs ⊢
        have c0 := hWa.c0
        have c1 := hWa.c1
        have y0 := hYa.c0
        have y1 := hYa.c1
        rw [dx] at c0
        rw [dy] at y0
        refine wp_region_still_tail 8 (by kernel_rfl) (by kernel_rfl) ?_
        simp only [List.take_succ_cons, List.take_zero, List.drop_succ_cons, List.drop_zero]
        change wpStill _ _ wa.drew _ _ _
        repeat still_step
        refine wpStill_nil ?_
        change wpList _ _ _ _ _ wa.drew
        have hWa : BigAt wa.drew B g (.slice A (wordsOf x.natAbs).length c) x := hWa.below (bdrewN (Below.refl _ wa) 1)
        have hYa : BigRd wa.drew gy y YA yn yc := ⟨hYa.c0, hYa.c1, ⟨hYa.wds.1, hYa.wds.2⟩, hYa.cap⟩
        have hWb : Below B w wa.drew := bdrewN hWb 1
        have hWs : B ≤ wa.drew.heap.size := hWs
        clear c0 c1 y0 y1
        generalize wa.drew = wb at hWa hYa hWb hWs ⊢
        go_wp2_with fail
        refine (natCmpV B x.natAbs y.natAbs _ c yn yc A YA _ hv2 hWa.wds rfl hYa.wds hYa.cap).mono ?_
        rintro e w3 ⟨rfl, n3, rfl⟩
        have hWa : BigAt (wb.drewN n3) B g (.slice A (wordsOf x.natAbs).length c) x := hWa.below (bdrewN (Below.refl _ wb) n3)
        have hYa : BigRd (wb.drewN n3) gy y YA yn yc := ⟨hYa.c0, hYa.c1, ⟨hYa.wds.1, hYa.wds.2⟩, hYa.cap⟩
        have hWb : Below B w (wb.drewN n3) := bdrewN hWb n3
        have hWs : B ≤ (wb.drewN n3).heap.size := hWs
        generalize wb.drewN n3 = wc at hWa hYa hWb hWs ⊢
        have c0 := hWa.c0
        have c1 := hWa.c1
        have y0 := hYa.c0
        have y1 := hYa.c1
        rw [dx] at c0
        rw [dy] at y0
        go_wp2_with fail
        have hW : BigAt wc.drew B g (.slice A (wordsOf x.natAbs).length c) x := hWa.below (bdrewN (Below.refl _ wc) 1)
        have hYW : YWds wc.drew YA yn y.natAbs := ⟨hYa.wds.1, hYa.wds.2⟩
        have hWb : Below B w wc.drew := bdrewN hWb 1
        have hWs : B ≤ wc.drew.heap.size := hWs
        go_region_law (go_simp; go_at_call 61; refine (natSubV B x.natAbs y.natAbs _ c yn yc A YA _ hv2 hxy hx0 hW.wds rfl hYW hy.cap).mono ?_; rintro e w3 ⟨V3, rfl, hG⟩; obtain ⟨k0, k1, kf0, kf1, A3, cc3, rfl⟩ := hW.kept hG)
        all_goals
          have hG2 : Gave wc.drew w3 B (.slice A (wordsOf x.natAbs).length c) (.slice A3 (wordsOf (x.natAbs - y.natAbs)).length cc3) (wordsOf (x + y).natAbs) := by rw [hr]; exact hG
          have hp := hW.put hG2
          have hpb := fun b => hW.put_below (r := x + y) hG2 hWb hWs (Nat.le_refl _) b
          by_cases hz : x.natAbs - y.natAbs = 0
          · have hz0 : (wordsOf (x.natAbs - y.natAbs)).length = 0 := by rw [hz]; rfl
            have hdr : decide (x + y < 0) = false := by simp; omega
            rw [hdr] at hp
            rw [hz0] at hp hpb ⊢
            clear hG hG2
            go_wp2_with fail
            go_ret
            exact ⟨rfl, _, hp, hpb _⟩
          · have hlen : (0 : Int) < ((wordsOf (x.natAbs - y.natAbs)).length : Int) := by
              have := words_pos (v := x.natAbs - y.natAbs) hz
              omega
            have hdr : decide (x + y < 0) = false := by simp; omega
            rw [hdr] at hp
            clear hG hG2
            go_wp2_with fail
            all_goals
              go_ret
              exact ⟨rfl, _, hp, hpb _⟩
      · have dx : decide (x < 0) = false := by simp; omega
        have dy : decide (y < 0) = true := by simp; omega
        have hr : (x + y).natAbs = y.natAbs - x.natAbs := by omega
        have hv2 : x.natAbs < W64 * W64 := by omega

        have hcm : ¬ (0 : Int) ≤ cmpN x.natAbs y.natAbs := by unfold cmpN; split <;> (try split) <;> omega
        rw [dx] at c0
        rw [dy] at y0
        go_enter Tryz.func29, Tryz.ntmps29
        go_wp2_with fail
        go_quiet (fail)
        go_wp2_with fail
        rename Nat => nW
        have hWa : BigAt (w.drewN nW) B g (.slice A (wordsOf x.natAbs).length c) x := h.below (bdrewN (Below.refl _ w) nW)
        have hYa : BigRd (w.drewN nW) gy y YA yn yc := ⟨hy.c0, hy.c1, ⟨hy.wds.1, hy.wds.2⟩, hy.cap⟩
        have hWb : Below B w (w.drewN nW) := bdrewN (Below.refl B w) nW
        have hWs : B ≤ (w.drewN nW).heap.size := hBw
        clear c0 c1 y0 y1
        generalize w.drewN nW = wa at hWa hYa hWb hWs ⊢
        have c0 := hWa.c0
        have c1 := hWa.c1
        have y0 := hYa.c0
        have y1 := hYa.c1
        rw [dx] at c0
        rw [dy] at y0
        refine wp_region_still_tail 8 (by kernel_rfl) (by kernel_rfl) ?_
        simp only [List.take_succ_cons, List.take_zero, List.drop_succ_cons, List.drop_zero]
        change wpStill _ _ wa.drew _ _ _
        repeat still_step
        refine wpStill_nil ?_
        change wpList _ _ _ _ _ wa.drew
        have hWa : BigAt wa.drew B g (.slice A (wordsOf x.natAbs).length c) x := hWa.below (bdrewN (Below.refl _ wa) 1)
        have hYa : BigRd wa.drew gy y YA yn yc := ⟨hYa.c0, hYa.c1, ⟨hYa.wds.1, hYa.wds.2⟩, hYa.cap⟩
        have hWb : Below B w wa.drew := bdrewN hWb 1
        have hWs : B ≤ wa.drew.heap.size := hWs
        clear c0 c1 y0 y1
        generalize wa.drew = wb at hWa hYa hWb hWs ⊢
        go_wp2_with fail
        refine (natCmpV B x.natAbs y.natAbs _ c yn yc A YA _ hv2 hWa.wds rfl hYa.wds hYa.cap).mono ?_
        rintro e w3 ⟨rfl, n3, rfl⟩
        have hWa : BigAt (wb.drewN n3) B g (.slice A (wordsOf x.natAbs).length c) x := hWa.below (bdrewN (Below.refl _ wb) n3)
        have hYa : BigRd (wb.drewN n3) gy y YA yn yc := ⟨hYa.c0, hYa.c1, ⟨hYa.wds.1, hYa.wds.2⟩, hYa.cap⟩
        have hWb : Below B w (wb.drewN n3) := bdrewN hWb n3
        have hWs : B ≤ (wb.drewN n3).heap.size := hWs
        generalize wb.drewN n3 = wc at hWa hYa hWb hWs ⊢
        have c0 := hWa.c0
        have c1 := hWa.c1
        have y0 := hYa.c0
        have y1 := hYa.c1
        rw [dx] at c0
        rw [dy] at y0
        go_wp2_with fail
        have hW : BigAt wc.drew B g (.slice A (wordsOf x.natAbs).length c) x := hWa.below (bdrewN (Below.refl _ wc) 1)
        have hYW : YWds wc.drew YA yn y.natAbs := ⟨hYa.wds.1, hYa.wds.2⟩
        have hWb : Below B w wc.drew := bdrewN hWb 1
        have hWs : B ≤ wc.drew.heap.size := hWs
        go_region_law (go_simp; go_at_call 61; refine (natSubT B x.natAbs y.natAbs _ c yn yc A YA _ hWs (by omega) hW.wds rfl hYW hy.cap).mono ?_; rintro e w3 ⟨V3, rfl, hG⟩; obtain ⟨k0, k1, kf0, kf1, A3, cc3, rfl⟩ := hW.kept hG)
        all_goals
          have hG2 : Gave wc.drew w3 B (.slice A (wordsOf x.natAbs).length c) (.slice A3 (wordsOf (y.natAbs - x.natAbs)).length cc3) (wordsOf (x + y).natAbs) := by rw [hr]; exact hG
          have hp := hW.put hG2
          have hpb := fun b => hW.put_below (r := x + y) hG2 hWb hWs (Nat.le_refl _) b
          have hlen : (0 : Int) < ((wordsOf (y.natAbs - x.natAbs)).length : Int) := by
            have := words_pos (v := y.natAbs - x.natAbs) (by omega)
            omega
          have hdr : decide (x + y < 0) = true := by simp; omega
          rw [hdr] at hp
          clear hG hG2
          go_wp2_with fail
        all_goals
          go_ret
          exact ⟨rfl, _, hp, hpb _⟩
    · have dx : decide (x < 0) = false := by simp; omega
      have dy : decide (y < 0) = false := by simp; omega
      have hr : (x + y).natAbs = x.natAbs + y.natAbs := by omega
      have hdr : decide (x + y < 0) = false := by simp; omega
      rw [dx] at c0
      rw [dy] at y0
      go_enter Tryz.func29, Tryz.ntmps29
      go_wp2_with fail
      go_quiet (fail)
      rename Nat => nW
      have hW : BigAt (w.drewN (nW + 1)) B g (.slice A (wordsOf x.natAbs).length c) x := h.below (bdrewN (Below.refl _ w) (nW + 1))
      have hYW : YWds (w.drewN (nW + 1)) YA yn y.natAbs := ⟨hy.wds.1, hy.wds.2⟩
      have hWb : Below B w (w.drewN (nW + 1)) := bdrewN (Below.refl B w) (nW + 1)
      have hWs : B ≤ (w.drewN (nW + 1)).heap.size := hBw
      go_wp2_with fail
      go_region_law (go_simp; go_at_call 59; refine (natAddV B x.natAbs y.natAbs _ c yn yc A YA _ hWs hv hW.wds rfl hYW hy.cap).mono ?_; rintro e w3 ⟨V3, rfl, hG⟩; obtain ⟨k0, k1, kf0, kf1, A3, cc3, rfl⟩ := hW.kept hG)
      all_goals
        have hG2 : Gave (w.drewN (nW + 1)) w3 B (.slice A (wordsOf x.natAbs).length c) (.slice A3 (wordsOf (x.natAbs + y.natAbs)).length cc3) (wordsOf (x + y).natAbs) := by rw [hr]; exact hG
        go_wp2_with fail
      all_goals
        go_ret
        have hp := hW.put hG2
        rw [hdr] at hp
        exact ⟨rfl, _, hp, hW.put_below (r := x + y) hG2 hWb hWs (Nat.le_refl _) _⟩
end Go.Proofs.YtjojjicpdfmopaaGreatDoor
