/- Great numbers: add, sub, set, cmp of at most two words, the second of one. -/
import Derived.Test.YtkeapacfmeblgaaGreatDoorBigC
namespace Go.Proofs.YtkeapacfmeblgaaGreatDoor
open Go Go.RowKit
set_option linter.unusedVariables false

theorem capOf {w : World} {B n c : Nat} {A : Option Addr} {ws : List Nat} (h : Wds w B (.slice A n c) ws) : c ≤ 1 ∨ 6 ≤ c := by
  obtain ⟨A', c', e, h'⟩ := h.cap
  injection e with _ _ e; subst e; exact h'
theorem take_set3 (l : List Value) (a b d : Value) (h : 3 ≤ l.length) : (((l.set 0 a).set 1 b).set 2 d).take 3 = [a, b, d] := by
  match l, h with
  | p :: q :: r :: t, _ => rfl
theorem take_set1 (l : List Value) (a : Value) (h : 1 ≤ l.length) : (l.set 0 a).take 1 = [a] := by
  match l, h with
  | p :: r, _ => rfl

set_option maxHeartbeats 1000000 in
set_option maxRecDepth 100000 in
theorem natAdd_21 (B : Nat) (g c : Nat) (x0 x1 y yb yo yc : Nat) (w : World) (hx : x0 < W64) (hx1 : x1 < W64) (hy : y < W64) (hv2 : x0 + W64 * x1 + y < W64 * W64) (h : Wds w B (.slice (some ⟨g, 0, none⟩) 2 c) [x0, x1]) (hcy : w.cell? ⟨yb, yo, none⟩ = some (.int .u64 (y : Int))) (hyc : 1 ≤ yc) :
    Calls Tryz.prog 152 #[.slice (some ⟨g, 0, none⟩) 2 c, .slice (some ⟨g, 0, none⟩) 2 c, .slice (some ⟨yb, yo, none⟩) 1 yc] w
      fun e w' => ∃ V', e = .returned V' ∧ Gave w w' B (.slice (some ⟨g, 0, none⟩) 2 c) V' (wordsOf (x0 + W64 * x1 + y)) := by
  have eg := addVV_enters
  have hcapc := capOf h
  obtain ⟨cur, hrow, hcs, hct, hBg, hlc, hcm⟩ := h.row
  have hl2 : ([x0, x1] : List Nat).length = 2 := rfl
  have hxw := cell_head hrow hct 0 (by simp)
  have hxw1 := cell_head hrow hct 1 (by simp)
  simp only [List.getElem_cons_zero, List.getElem_cons_succ] at hxw hxw1
  rw [hl2] at hlc
  have hc6 : 6 ≤ c := by omega
  obtain ⟨s, hs⟩ : ∃ s, (x0 + y + 0) % W64 = s := ⟨_, rfl⟩
  obtain ⟨d, hd⟩ : ∃ d, (x0 + y + 0) / W64 = d := ⟨_, rfl⟩
  have hs1 : s < W64 := by subst hs; exact Nat.mod_lt _ (by decide)
  have hd1 : d < W64 := by unfold W64 at *; omega
  obtain ⟨s1, hs2⟩ : ∃ s1, (x1 + d + 0) % W64 = s1 := ⟨_, rfl⟩
  have hd2 : (x1 + d + 0) / W64 = 0 := by unfold W64 at *; omega
  have hs3 : s1 < W64 := by subst hs2; exact Nat.mod_lt _ (by decide)
  have hval : valOf [s, s1, 0] = x0 + W64 * x1 + y := by simp only [valOf]; unfold W64 at *; omega
  have hc1i : (1 : Int) ≤ (c : Int) := by omega
  have hc2i : (2 : Int) ≤ (c : Int) := by omega
  have hc3i : (3 : Int) ≤ (c : Int) := by omega
  have hyi : (1 : Int) ≤ (yc : Int) := by omega
  have hk1 : ¬ c = 1 := by omega
  have hk2 : ¬ c = 2 := by omega
  go_enter Tryz.func152, Tryz.ntmps152
  go_wp2_with fail
  refine (natMake_fits _ 2 c 3 _ (by omega) hcm).mono ?_
  rintro e w1 ⟨rfl, n1, rfl⟩
  have hga : w.grownBy (w.drewN n1) (some g) := only_drewN (only_refl w (some g)) n1
  have hra := hrow.drewN n1
  have hcya : (w.drewN n1).cell? ⟨yb, yo, none⟩ = some (.int .u64 (y : Int)) := hcy
  have hxa : (w.drewN n1).cell? ⟨g, 0, none⟩ = some (.int .u64 (x0 : Int)) := hxw
  have hxa1 : (w.drewN n1).cell? ⟨g, 1, none⟩ = some (.int .u64 (x1 : Int)) := hxw1
  generalize w.drewN n1 = wa at hga hra hcya hxa hxa1 ⊢
  go_wp2_with fail
  refine wp_region_still_tail 9 (by kernel_rfl) (by kernel_rfl) ?_
  simp only [List.take_succ_cons, List.take_zero, List.drop_succ_cons, List.drop_zero]
  change wpStill _ _ wa.drew _ _ _
  repeat still_step
  refine wpStill_nil ?_
  change wpList _ _ _ _ _ wa.drew
  have hga : w.grownBy wa.drew (some g) := only_drewN hga 1
  have hra : RowIs wa.drew g cur := hra
  have hcya : wa.drew.cell? ⟨yb, yo, none⟩ = some (.int .u64 (y : Int)) := hcya
  have hxa : wa.drew.cell? ⟨g, 0, none⟩ = some (.int .u64 (x0 : Int)) := hxa
  have hxa1 : wa.drew.cell? ⟨g, 1, none⟩ = some (.int .u64 (x1 : Int)) := hxa1
  generalize wa.drew = wb at hga hra hcya hxa hxa1 ⊢
  go_wp2_with fail
  refine (addVV1 g 0 _ g 0 _ yb yo _ _ x0 y s d hx hy hs hd _ hxa rfl (hra.fr 0) hxa hcya).mono ?_
  rintro e w2 ⟨rfl, n2, rfl⟩
  have hgc := only_set (only_drewN hga n2) (.inl rfl) 0 (.int .u64 (s : Int))
  have hrc := (hra.drewN n2).set_ 0 (.int .u64 (s : Int))
  have hxc : ((wb.drewN n2).setCell ⟨g, 0, none⟩ (.int .u64 (s : Int))).cell? ⟨g, 1, none⟩ = some (.int .u64 (x1 : Int)) := (World.cell?_setCell_other _ _ _ _ (by simp)).trans hxa1
  generalize (wb.drewN n2).setCell ⟨g, 0, none⟩ (.int .u64 (s : Int)) = wa at hgc hrc hxc ⊢
  go_wp2_with fail
  refine wp_region_still_tail 8 (by kernel_rfl) (by kernel_rfl) ?_
  simp only [List.take_succ_cons, List.take_zero, List.drop_succ_cons, List.drop_zero]
  change wpStill _ _ wa.drew _ _ _
  repeat still_step
  refine wpStill_nil ?_
  change wpList _ _ _ _ _ wa.drew
  have hgc : w.grownBy wa.drew (some g) := only_drewN hgc 1
  have hrc : RowIs wa.drew g (cur.setIfInBounds 0 (.int .u64 (s : Int))) := hrc
  have hxc : wa.drew.cell? ⟨g, 1, none⟩ = some (.int .u64 (x1 : Int)) := hxc
  generalize wa.drew = wb at hgc hrc hxc ⊢
  go_wp2_with fail
  refine (addVW1 g 1 _ _ x1 d s1 hx1 hd1 hs2 hd2 _ (hrc.fr 1) hxc).mono ?_
  rintro e w3 ⟨rfl, n3, rfl⟩
  have hgc := only_set (only_drewN hgc n3) (.inl rfl) 1 (.int .u64 (s1 : Int))
  have hrc := (hrc.drewN n3).set_ 1 (.int .u64 (s1 : Int))
  generalize (wb.drewN n3).setCell ⟨g, 1, none⟩ (.int .u64 (s1 : Int)) = wc at hgc hrc ⊢
  have c1 : ∃ u, wc.cell? ⟨g, 2, none⟩ = some u := ⟨_, (hrc.cell 2).trans (Array.getElem?_eq_getElem (by simp; omega))⟩
  obtain ⟨u1, c1⟩ := c1
  have f1 := hrc.fr 2
  go_wp2_with fail
  have hgd := only_set hgc (.inl rfl) 2 (.int .u64 0)
  have hrd := hrc.set_ 2 (.int .u64 0)
  generalize wc.setCell ⟨g, 2, none⟩ (.int .u64 0) = wd at hgd hrd ⊢
  have htk : (((cur.setIfInBounds 0 (.int .u64 (s : Int))).setIfInBounds 1 (.int .u64 (s1 : Int))).setIfInBounds 2 (.int .u64 0)).toList.take ([s, s1, 0] : List Nat).length = [s, s1, 0].flatMap wEnc := by
    rw [Array.toList_setIfInBounds, Array.toList_setIfInBounds, Array.toList_setIfInBounds]
    exact take_set3 _ _ _ _ (by simp; omega)
  refine (natNorm [s, s1, 0] g c _ (rd_row hrd htk) (by simp) (by simp; omega)).mono ?_
  rintro e w5 ⟨⟨k, hk, rfl, hz, hl⟩, n5, rfl⟩
  go_wp2_with fail
  go_ret
  exact ⟨_, rfl, gave_row (only_drewN hgd n5) (hrd.drewN n5) htk (by simp; omega) hBg hcm (by omega) (.inl rfl) (by
    intro z hz'
    simp only [List.mem_cons, List.not_mem_nil, or_false] at hz'
    rcases hz' with rfl | rfl | rfl
    · exact hs1
    · exact hs3
    · decide) hval hv2 (by simp) (by simp; omega) hk hz hl⟩

set_option maxHeartbeats 1000000 in
set_option maxRecDepth 100000 in
theorem natSub_11 (B : Nat) (g c : Nat) (x y yb yo yc : Nat) (w : World) (hx : x < W64) (hy : y < W64) (hxy : y ≤ x) (h : Wds w B (.slice (some ⟨g, 0, none⟩) 1 c) [x]) (hcy : w.cell? ⟨yb, yo, none⟩ = some (.int .u64 (y : Int))) (hyc : 1 ≤ yc) :
    Calls Tryz.prog 153 #[.slice (some ⟨g, 0, none⟩) 1 c, .slice (some ⟨g, 0, none⟩) 1 c, .slice (some ⟨yb, yo, none⟩) 1 yc] w
      fun e w' => ∃ V', e = .returned V' ∧ Gave w w' B (.slice (some ⟨g, 0, none⟩) 1 c) V' (wordsOf (x - y)) := by
  have eg := subVV_enters
  have hcapc := capOf h
  obtain ⟨cur, hrow, hcs, hct, hBg, hlc, hcm⟩ := h.row
  have hl1 : ([x] : List Nat).length = 1 := rfl
  have hxw := cell_head hrow hct 0 (by simp)
  simp only [List.getElem_cons_zero] at hxw
  rw [hl1] at hlc
  obtain ⟨s, hs⟩ : ∃ s, (x + W64 - y - 0) % W64 = s := ⟨_, rfl⟩
  have hd : (if x < y + 0 then 1 else 0 : Nat) = 0 := if_neg (by omega)
  have hs1 : s < W64 := by subst hs; exact Nat.mod_lt _ (by decide)
  have hval : valOf [s] = x - y := by simp only [valOf]; unfold W64 at *; omega
  have hc1i : (1 : Int) ≤ (c : Int) := by omega
  have hyi : (1 : Int) ≤ (yc : Int) := by omega
  go_enter Tryz.func153, Tryz.ntmps153
  go_wp2_with fail
  refine (natMake_fits _ 1 c 1 _ (by omega) hcm).mono ?_
  rintro e w1 ⟨rfl, n1, rfl⟩
  have hga : w.grownBy (w.drewN n1) (some g) := only_drewN (only_refl w (some g)) n1
  have hra := hrow.drewN n1
  have hcya : (w.drewN n1).cell? ⟨yb, yo, none⟩ = some (.int .u64 (y : Int)) := hcy
  have hxa : (w.drewN n1).cell? ⟨g, 0, none⟩ = some (.int .u64 (x : Int)) := hxw
  generalize w.drewN n1 = wa at hga hra hcya hxa ⊢
  go_wp2_with fail
  refine wp_region_still_tail 9 (by kernel_rfl) (by kernel_rfl) ?_
  simp only [List.take_succ_cons, List.take_zero, List.drop_succ_cons, List.drop_zero]
  change wpStill _ _ wa.drew _ _ _
  repeat still_step
  refine wpStill_nil ?_
  change wpList _ _ _ _ _ wa.drew
  have hga : w.grownBy wa.drew (some g) := only_drewN hga 1
  have hra : RowIs wa.drew g cur := hra
  have hcya : wa.drew.cell? ⟨yb, yo, none⟩ = some (.int .u64 (y : Int)) := hcya
  have hxa : wa.drew.cell? ⟨g, 0, none⟩ = some (.int .u64 (x : Int)) := hxa
  generalize wa.drew = wb at hga hra hcya hxa ⊢
  go_wp2_with fail
  refine (subVV1 g 0 _ g 0 _ yb yo _ _ x y s 0 hx hy hs hd _ hxa rfl (hra.fr 0) hxa hcya).mono ?_
  rintro e w2 ⟨rfl, n2, rfl⟩
  have hgd := only_set (only_drewN hga n2) (.inl rfl) 0 (.int .u64 (s : Int))
  have hrd := (hra.drewN n2).set_ 0 (.int .u64 (s : Int))
  generalize (wb.drewN n2).setCell ⟨g, 0, none⟩ (.int .u64 (s : Int)) = wd at hgd hrd ⊢
  have htk : (cur.setIfInBounds 0 (.int .u64 (s : Int))).toList.take ([s] : List Nat).length = [s].flatMap wEnc := by
    rw [Array.toList_setIfInBounds]
    exact take_set1 _ _ (by simp; omega)
  go_wp2_with fail
  refine (natNorm [s] g c _ (rd_row hrd htk) (by simp) (by simp; omega)).mono ?_
  rintro e w5 ⟨⟨k, hk, rfl, hz, hl⟩, n5, rfl⟩
  go_wp2_with fail
  go_ret
  exact ⟨_, rfl, gave_row (only_drewN hgd n5) (hrd.drewN n5) htk (by simp; omega) hBg hcm (by omega) (.inl rfl) (by
    intro z hz'
    simp only [List.mem_cons, List.not_mem_nil, or_false] at hz'
    rcases hz' with rfl
    exact hs1) hval (by unfold W64 at *; omega) (by simp) (by simp; omega) hk hz hl⟩

set_option maxHeartbeats 1000000 in
set_option maxRecDepth 100000 in
theorem natSub_t (B : Nat) (g c : Nat) (x y yb yo yc : Nat) (w : World) (hx : x < W64) (hy : y < W64) (hxy : x ≤ y) (h : Wds w B (.slice (some ⟨g, 0, none⟩) 1 c) [x]) (hcy : w.cell? ⟨yb, yo, none⟩ = some (.int .u64 (y : Int))) (hyc : 1 ≤ yc) :
    Calls Tryz.prog 153 #[.slice (some ⟨g, 0, none⟩) 1 c, .slice (some ⟨yb, yo, none⟩) 1 yc, .slice (some ⟨g, 0, none⟩) 1 c] w
      fun e w' => ∃ V', e = .returned V' ∧ Gave w w' B (.slice (some ⟨g, 0, none⟩) 1 c) V' (wordsOf (y - x)) := by
  have eg := subVV_enters
  have hcapc := capOf h
  obtain ⟨cur, hrow, hcs, hct, hBg, hlc, hcm⟩ := h.row
  have hl1 : ([x] : List Nat).length = 1 := rfl
  have hxw := cell_head hrow hct 0 (by simp)
  simp only [List.getElem_cons_zero] at hxw
  rw [hl1] at hlc
  obtain ⟨s, hs⟩ : ∃ s, (y + W64 - x - 0) % W64 = s := ⟨_, rfl⟩
  have hd : (if y < x + 0 then 1 else 0 : Nat) = 0 := if_neg (by omega)
  have hs1 : s < W64 := by subst hs; exact Nat.mod_lt _ (by decide)
  have hval : valOf [s] = y - x := by simp only [valOf]; unfold W64 at *; omega
  have hc1i : (1 : Int) ≤ (c : Int) := by omega
  have hyi : (1 : Int) ≤ (yc : Int) := by omega
  go_enter Tryz.func153, Tryz.ntmps153
  go_wp2_with fail
  refine (natMake_fits _ 1 c 1 _ (by omega) hcm).mono ?_
  rintro e w1 ⟨rfl, n1, rfl⟩
  have hga : w.grownBy (w.drewN n1) (some g) := only_drewN (only_refl w (some g)) n1
  have hra := hrow.drewN n1
  have hcya : (w.drewN n1).cell? ⟨yb, yo, none⟩ = some (.int .u64 (y : Int)) := hcy
  have hxa : (w.drewN n1).cell? ⟨g, 0, none⟩ = some (.int .u64 (x : Int)) := hxw
  generalize w.drewN n1 = wa at hga hra hcya hxa ⊢
  go_wp2_with fail
  refine wp_region_still_tail 9 (by kernel_rfl) (by kernel_rfl) ?_
  simp only [List.take_succ_cons, List.take_zero, List.drop_succ_cons, List.drop_zero]
  change wpStill _ _ wa.drew _ _ _
  repeat still_step
  refine wpStill_nil ?_
  change wpList _ _ _ _ _ wa.drew
  have hga : w.grownBy wa.drew (some g) := only_drewN hga 1
  have hra : RowIs wa.drew g cur := hra
  have hcya : wa.drew.cell? ⟨yb, yo, none⟩ = some (.int .u64 (y : Int)) := hcya
  have hxa : wa.drew.cell? ⟨g, 0, none⟩ = some (.int .u64 (x : Int)) := hxa
  generalize wa.drew = wb at hga hra hcya hxa ⊢
  go_wp2_with fail
  refine (subVV1 g 0 _ yb yo _ g 0 _ _ y x s 0 hy hx hs hd _ hxa rfl (hra.fr 0) hcya hxa).mono ?_
  rintro e w2 ⟨rfl, n2, rfl⟩
  have hgd := only_set (only_drewN hga n2) (.inl rfl) 0 (.int .u64 (s : Int))
  have hrd := (hra.drewN n2).set_ 0 (.int .u64 (s : Int))
  generalize (wb.drewN n2).setCell ⟨g, 0, none⟩ (.int .u64 (s : Int)) = wd at hgd hrd ⊢
  have htk : (cur.setIfInBounds 0 (.int .u64 (s : Int))).toList.take ([s] : List Nat).length = [s].flatMap wEnc := by
    rw [Array.toList_setIfInBounds]
    exact take_set1 _ _ (by simp; omega)
  go_wp2_with fail
  refine (natNorm [s] g c _ (rd_row hrd htk) (by simp) (by simp; omega)).mono ?_
  rintro e w5 ⟨⟨k, hk, rfl, hz, hl⟩, n5, rfl⟩
  go_wp2_with fail
  go_ret
  exact ⟨_, rfl, gave_row (only_drewN hgd n5) (hrd.drewN n5) htk (by simp; omega) hBg hcm (by omega) (.inl rfl) (by
    intro z hz'
    simp only [List.mem_cons, List.not_mem_nil, or_false] at hz'
    rcases hz' with rfl
    exact hs1) hval (by unfold W64 at *; omega) (by simp) (by simp; omega) hk hz hl⟩

set_option maxHeartbeats 1000000 in
set_option maxRecDepth 100000 in
theorem natSub_21 (B : Nat) (g c : Nat) (x0 x1 y yb yo yc : Nat) (w : World) (hx : x0 < W64) (hx1 : x1 < W64) (h1 : x1 ≠ 0) (hy : y < W64) (h : Wds w B (.slice (some ⟨g, 0, none⟩) 2 c) [x0, x1]) (hcy : w.cell? ⟨yb, yo, none⟩ = some (.int .u64 (y : Int))) (hyc : 1 ≤ yc) :
    Calls Tryz.prog 153 #[.slice (some ⟨g, 0, none⟩) 2 c, .slice (some ⟨g, 0, none⟩) 2 c, .slice (some ⟨yb, yo, none⟩) 1 yc] w
      fun e w' => ∃ V', e = .returned V' ∧ Gave w w' B (.slice (some ⟨g, 0, none⟩) 2 c) V' (wordsOf (x0 + W64 * x1 - y)) := by
  have eg := subVV_enters
  have hcapc := capOf h
  obtain ⟨cur, hrow, hcs, hct, hBg, hlc, hcm⟩ := h.row
  have hl2 : ([x0, x1] : List Nat).length = 2 := rfl
  have hxw := cell_head hrow hct 0 (by simp)
  have hxw1 := cell_head hrow hct 1 (by simp)
  simp only [List.getElem_cons_zero, List.getElem_cons_succ] at hxw hxw1
  rw [hl2] at hlc
  have hc6 : 6 ≤ c := by omega
  obtain ⟨s, hs⟩ : ∃ s, (x0 + W64 - y - 0) % W64 = s := ⟨_, rfl⟩
  obtain ⟨d, hd⟩ : ∃ d, (if x0 < y + 0 then 1 else 0 : Nat) = d := ⟨_, rfl⟩
  have hs1 : s < W64 := by subst hs; exact Nat.mod_lt _ (by decide)
  have hdd : (x0 < y ∧ d = 1) ∨ (y ≤ x0 ∧ d = 0) := by
    subst hd
    by_cases hq : x0 < y + 0
    · rw [if_pos hq]; exact .inl ⟨hq, rfl⟩
    · rw [if_neg hq]; exact .inr ⟨by omega, rfl⟩
  have hd1 : d < W64 := by unfold W64 at *; omega
  obtain ⟨s1, hs2⟩ : ∃ s1, (x1 + W64 - d - 0) % W64 = s1 := ⟨_, rfl⟩
  have hd2 : (if x1 < d + 0 then 1 else 0 : Nat) = 0 := if_neg (by omega)
  have hs3 : s1 < W64 := by subst hs2; exact Nat.mod_lt _ (by decide)
  have hval : valOf [s, s1] = x0 + W64 * x1 - y := by simp only [valOf]; unfold W64 at *; omega
  have hc1i : (1 : Int) ≤ (c : Int) := by omega
  have hc2i : (2 : Int) ≤ (c : Int) := by omega
  have hyi : (1 : Int) ≤ (yc : Int) := by omega
  have hk1 : ¬ c = 1 := by omega
  have hk2 : ¬ c = 2 := by omega
  go_enter Tryz.func153, Tryz.ntmps153
  go_wp2_with fail
  refine (natMake_fits _ 2 c 2 _ (by omega) hcm).mono ?_
  rintro e w1 ⟨rfl, n1, rfl⟩
  have hga : w.grownBy (w.drewN n1) (some g) := only_drewN (only_refl w (some g)) n1
  have hra := hrow.drewN n1
  have hcya : (w.drewN n1).cell? ⟨yb, yo, none⟩ = some (.int .u64 (y : Int)) := hcy
  have hxa : (w.drewN n1).cell? ⟨g, 0, none⟩ = some (.int .u64 (x0 : Int)) := hxw
  have hxa1 : (w.drewN n1).cell? ⟨g, 1, none⟩ = some (.int .u64 (x1 : Int)) := hxw1
  generalize w.drewN n1 = wa at hga hra hcya hxa hxa1 ⊢
  go_wp2_with fail
  refine wp_region_still_tail 9 (by kernel_rfl) (by kernel_rfl) ?_
  simp only [List.take_succ_cons, List.take_zero, List.drop_succ_cons, List.drop_zero]
  change wpStill _ _ wa.drew _ _ _
  repeat still_step
  refine wpStill_nil ?_
  change wpList _ _ _ _ _ wa.drew
  have hga : w.grownBy wa.drew (some g) := only_drewN hga 1
  have hra : RowIs wa.drew g cur := hra
  have hcya : wa.drew.cell? ⟨yb, yo, none⟩ = some (.int .u64 (y : Int)) := hcya
  have hxa : wa.drew.cell? ⟨g, 0, none⟩ = some (.int .u64 (x0 : Int)) := hxa
  have hxa1 : wa.drew.cell? ⟨g, 1, none⟩ = some (.int .u64 (x1 : Int)) := hxa1
  generalize wa.drew = wb at hga hra hcya hxa hxa1 ⊢
  go_wp2_with fail
  refine (subVV1 g 0 _ g 0 _ yb yo _ _ x0 y s d hx hy hs hd _ hxa rfl (hra.fr 0) hxa hcya).mono ?_
  rintro e w2 ⟨rfl, n2, rfl⟩
  have hgc := only_set (only_drewN hga n2) (.inl rfl) 0 (.int .u64 (s : Int))
  have hrc := (hra.drewN n2).set_ 0 (.int .u64 (s : Int))
  have hxc : ((wb.drewN n2).setCell ⟨g, 0, none⟩ (.int .u64 (s : Int))).cell? ⟨g, 1, none⟩ = some (.int .u64 (x1 : Int)) := (World.cell?_setCell_other _ _ _ _ (by simp)).trans hxa1
  generalize (wb.drewN n2).setCell ⟨g, 0, none⟩ (.int .u64 (s : Int)) = wa at hgc hrc hxc ⊢
  go_wp2_with fail
  refine wp_region_still_tail 7 (by kernel_rfl) (by kernel_rfl) ?_
  simp only [List.take_succ_cons, List.take_zero, List.drop_succ_cons, List.drop_zero]
  change wpStill _ _ wa.drew _ _ _
  repeat still_step
  refine wpStill_nil ?_
  change wpList _ _ _ _ _ wa.drew
  have hgc : w.grownBy wa.drew (some g) := only_drewN hgc 1
  have hrc : RowIs wa.drew g (cur.setIfInBounds 0 (.int .u64 (s : Int))) := hrc
  have hxc : wa.drew.cell? ⟨g, 1, none⟩ = some (.int .u64 (x1 : Int)) := hxc
  generalize wa.drew = wb at hgc hrc hxc ⊢
  go_wp2_with fail
  refine (subVW1 g 1 _ _ x1 d s1 hx1 hd1 hs2 hd2 _ (hrc.fr 1) hxc).mono ?_
  rintro e w3 ⟨rfl, n3, rfl⟩
  have hgd := only_set (only_drewN hgc n3) (.inl rfl) 1 (.int .u64 (s1 : Int))
  have hrd := (hrc.drewN n3).set_ 1 (.int .u64 (s1 : Int))
  generalize (wb.drewN n3).setCell ⟨g, 1, none⟩ (.int .u64 (s1 : Int)) = wd at hgd hrd ⊢
  have htk : ((cur.setIfInBounds 0 (.int .u64 (s : Int))).setIfInBounds 1 (.int .u64 (s1 : Int))).toList.take ([s, s1] : List Nat).length = [s, s1].flatMap wEnc := by
    rw [Array.toList_setIfInBounds, Array.toList_setIfInBounds]
    exact take_set2 _ _ _ (by simp; omega)
  go_wp2_with fail
  refine (natNorm [s, s1] g c _ (rd_row hrd htk) (by simp) (by simp; omega)).mono ?_
  rintro e w5 ⟨⟨k, hk, rfl, hz, hl⟩, n5, rfl⟩
  go_wp2_with fail
  go_ret
  exact ⟨_, rfl, gave_row (only_drewN hgd n5) (hrd.drewN n5) htk (by simp; omega) hBg hcm (by omega) (.inl rfl) (by
    intro z hz'
    simp only [List.mem_cons, List.not_mem_nil, or_false] at hz'
    rcases hz' with rfl | rfl
    · exact hs1
    · exact hs3) hval (by unfold W64 at *; omega) (by simp) (by simp; omega) hk hz hl⟩
end Go.Proofs.YtkeapacfmeblgaaGreatDoor
