/- Great numbers: set, add, sub, cmp of at most two words. -/
import Derived.Test.YtkeapacfmeblgaaGreatDoorBigB
import Derived.Laws.CopyRow
import Derived.StillTailTactics
namespace Go.Proofs.YtkeapacfmeblgaaGreatDoor
open Go Go.RowKit
set_option linter.unusedVariables false

/-- block g is these cells -/
def RowIs (w : World) (g : Nat) (cur : Array Value) : Prop := w.heap[g]? = some (.cells cur 70 (0, 0))
section
variable {w : World} {g : Nat} {cur : Array Value}
theorem RowIs.lt (h : RowIs w g cur) : g < w.heap.size := by
  rcases Nat.lt_or_ge g w.heap.size with hlt | hge
  · exact hlt
  · unfold RowIs at h; rw [Array.getElem?_eq_none hge] at h; cases h
theorem RowIs.cell (h : RowIs w g cur) (i : Nat) : w.cell? ⟨g, i, none⟩ = cur[i]? := cell_of_row w g i cur _ (0, 0) h
theorem RowIs.fr (h : RowIs w g cur) (i : Nat) : w.frozen? ⟨g, i, none⟩ = false := frozen_of_row w g i cur _ h
theorem RowIs.drewN (h : RowIs w g cur) (n : Nat) : RowIs (w.drewN n) g cur := h
theorem RowIs.set_ (h : RowIs w g cur) (i : Nat) (v : Value) : RowIs (w.setCell ⟨g, i, none⟩ v) g (cur.setIfInBounds i v) := heap_setCell_same w g i cur _ v h
theorem RowIs.made (w : World) (n : Nat) : RowIs (w.alloc (.cells (zeros n) 70)) w.heap.size (zeros n) := by
  unfold RowIs; rw [heap_alloc_new]
end

/-- a number's words in a slice of the call's own: nil, of one word, or with room for six -/
structure Wds (w : World) (B : Nat) (V : Value) (ws : List Nat) : Prop where
  own : Own w B 70 1 wEnc V ws
  cap : ∃ A c, V = .slice A ws.length c ∧ (c ≤ 1 ∨ 6 ≤ c)
theorem Wds.row {w : World} {B g n c : Nat} {ws : List Nat} (h : Wds w B (.slice (some ⟨g, 0, none⟩) n c) ws) : ∃ cur, RowIs w g cur ∧ cur.size = c ∧ cur.toList.take ws.length = ws.flatMap wEnc ∧ B ≤ g ∧ ws.length ≤ c ∧ c ≤ maxLen := by
  rcases h.own.2 with ⟨hv, h0⟩ | ⟨g', cap, cur, hv, hB, hg, hc, hm, hs, ht⟩
  · cases hv
  · injection hv with e1 e2 e3
    injection e1 with e1
    injection e1 with e1
    subst e1 e3
    refine ⟨cur, hg, by omega, ?_, hB, hc, hm⟩
    rw [Nat.mul_one] at ht; exact ht
theorem Wds.ofRow {w : World} {B g c : Nat} {cur : Array Value} {ws : List Nat} (h : RowIs w g cur) (hs : cur.size = c) (ht : cur.toList.take ws.length = ws.flatMap wEnc) (hB : B ≤ g) (hl : ws.length ≤ c) (hm : c ≤ maxLen) (hc : c ≤ 1 ∨ 6 ≤ c) : Wds w B (.slice (some ⟨g, 0, none⟩) ws.length c) ws := by
  refine ⟨⟨by rw [flatMap_len wEnc_ok], .inr ⟨g, c, cur, rfl, hB, h, hl, hm, by omega, by rw [Nat.mul_one]; exact ht⟩⟩, _, _, rfl, hc⟩

/-- what a reckoning leaves: the words ws in V', where V was; nothing else has turned -/
structure Gave (w w' : World) (B : Nat) (V V' : Value) (ws : List Nat) : Prop where
  wds : Wds w' B V' ws
  grown : w.grownBy w' V.ownBlock
  at_ : V'.ownBlock = V.ownBlock ∨ ∃ k, V'.ownBlock = some k ∧ w.heap.size ≤ k

/-- a number's words, the least first -/
def wordsOf (n : Nat) : List Nat := if n = 0 then [] else if n < W64 then [n] else [n % W64, n / W64]
theorem only_set {w : World} {a : World} {row : Option Nat} {g : Nat} (h : a.grownBy w row) (hr : row = some g ∨ a.heap.size ≤ g) (i : Nat) (v : Value) : a.grownBy (w.setCell ⟨g, i, none⟩ v) row := by
  refine ⟨h.os, h.tape, h.output, by simpa [World.setCell] using h.size, fun k hk hne => ?_⟩
  refine (Below.heap_setCell w ⟨g, i, none⟩ v k ?_).trans (h.block k hk hne)
  rintro rfl
  rcases hr with h1 | h1
  · exact hne h1.symm
  · omega

def valOf : List Nat → Nat
  | [] => 0
  | x :: l => x + W64 * valOf l
/-- what is left behind trimming are the number's words -/
theorem norm_words {ws : List Nat} {v k : Nat} (hw : ∀ x, x ∈ ws → x < W64) (hv : valOf ws = v) (hv2 : v < W64 * W64) (h3 : ws.length ≤ 3) (hk : k ≤ ws.length) (hz : ZeroFrom ws k) (hl : 0 < k → ∃ hk : k - 1 < ws.length, ws[k - 1] ≠ 0) : wordsOf v = ws.take k := by
  unfold wordsOf W64 at *
  match ws, h3 with
  | [], _ =>
    simp [valOf] at hv
    subst hv
    simp
  | [a], _ =>
    have ha := hw a (by simp)
    simp only [valOf, W64, Nat.mul_zero, Nat.add_zero] at hv
    match k, hk with
    | 0, _ =>
      have h0 := hz 0 (by simp) (by omega)
      simp only [List.getElem_cons_zero] at h0
      simp; omega
    | 1, _ =>
      obtain ⟨_, h0⟩ := hl (by omega)
      simp at h0
      rw [if_neg (by omega), if_pos (by omega)]; simp; omega
  | [a, b], _ =>
    have ha := hw a (by simp)
    have hb := hw b (by simp)
    simp only [valOf, W64, Nat.mul_zero, Nat.add_zero] at hv
    match k, hk with
    | 0, _ =>
      have h0 := hz 0 (by simp) (by omega)
      have h1 := hz 1 (by simp) (by omega)
      simp at h0 h1
      subst h0 h1
      simp at hv
      subst hv; simp
    | 1, _ =>
      obtain ⟨_, h0⟩ := hl (by omega)
      have h1 := hz 1 (by simp) (by omega)
      simp at h0 h1
      subst h1
      rw [if_neg (by omega), if_pos (by omega)]; simp; omega
    | 2, _ =>
      obtain ⟨_, h0⟩ := hl (by omega)
      simp at h0
      rw [if_neg (by omega), if_neg (by omega)]
      simp
      constructor <;> omega
  | [a, b, c], _ =>
    have ha := hw a (by simp)
    have hb := hw b (by simp)
    simp only [valOf, W64, Nat.mul_zero, Nat.add_zero] at hv
    have hc : c = 0 := by omega
    subst hc
    match k, hk with
    | 0, _ =>
      have h0 := hz 0 (by simp) (by omega)
      have h1 := hz 1 (by simp) (by omega)
      simp at h0 h1
      subst h0 h1
      simp at hv
      subst hv; simp
    | 1, _ =>
      obtain ⟨_, h0⟩ := hl (by omega)
      have h1 := hz 1 (by simp) (by omega)
      simp at h0 h1
      subst h1
      rw [if_neg (by omega), if_pos (by omega)]; simp; omega
    | 2, _ =>
      obtain ⟨_, h0⟩ := hl (by omega)
      simp at h0
      rw [if_neg (by omega), if_neg (by omega)]
      simp
      constructor <;> omega
    | 3, _ =>
      obtain ⟨_, h0⟩ := hl (by omega)
      simp at h0

theorem rd_row {w : World} {g : Nat} {cur : Array Value} {ws : List Nat} (h : RowIs w g cur) (ht : cur.toList.take ws.length = ws.flatMap wEnc) : Rd w 1 wEnc (some ⟨g, 0, none⟩) ws.length ws := by
  refine ⟨rfl, fun hn => ⟨g, 0, rfl, fun k j u hk hu => ?_⟩⟩
  have hj : j < 1 := by
    have := (List.getElem?_eq_some_iff.1 hu).1
    rwa [wEnc_ok.len] at this
  obtain rfl : j = 0 := by omega
  have e : 0 + k * 1 + 0 = k := by omega
  rw [e, h.cell k, ← Array.getElem?_toList]
  have h1 : (cur.toList.take ws.length)[k]? = cur.toList[k]? := by rw [List.getElem?_take, if_pos hk]
  rw [← h1, ht, ← hu]
  have h2 := flatMap_get wEnc_ok ws k 0 hk (by omega)
  rw [show k * 1 + 0 = k from by omega] at h2
  exact h2

/-- the end of each reckoning: trimmed, what lies in the row are the words of v -/
theorem gave_row {w w' : World} {B g c k : Nat} {V : Value} {cur : Array Value} {ws : List Nat} {v : Nat} (hg : w.grownBy w' V.ownBlock) (hr : RowIs w' g cur) (ht : cur.toList.take ws.length = ws.flatMap wEnc) (hs : cur.size = c) (hB : B ≤ g) (hm : c ≤ maxLen) (hc : c ≤ 1 ∨ 6 ≤ c)
    (hat : V.ownBlock = some g ∨ w.heap.size ≤ g) (hw : ∀ x, x ∈ ws → x < W64) (hv : valOf ws = v) (hv2 : v < W64 * W64) (h3 : ws.length ≤ 3) (hwc : ws.length ≤ c) (hk : k ≤ ws.length) (hz : ZeroFrom ws k) (hl : 0 < k → ∃ hk : k - 1 < ws.length, ws[k - 1] ≠ 0) :
    Gave w w' B V (.slice (some ⟨g, 0, none⟩) k c) (wordsOf v) := by
  have hnw := norm_words hw hv hv2 h3 hk hz hl
  have hlen : (wordsOf v).length = k := by rw [hnw, List.length_take]; omega
  have htk : cur.toList.take (wordsOf v).length = (wordsOf v).flatMap wEnc := by
    have e1 : cur.toList.take k = (cur.toList.take ws.length).take k := by rw [List.take_take, Nat.min_eq_left hk]
    rw [hlen, e1, ht, hnw]
    have e2 : ∀ (l : List Nat), (l.flatMap wEnc) = l.map (fun (n : Nat) => Value.int .u64 (n : Int)) := by
      intro l
      induction l with
      | nil => rfl
      | cons a l ih => rw [List.flatMap_cons, ih]; rfl
    rw [e2, e2, List.map_take]
  have hW := Wds.ofRow hr hs htk hB (by omega) hm hc
  rw [hlen] at hW
  refine ⟨hW, hg, ?_⟩
  rcases hat with h | h
  · exact .inl h.symm
  · exact .inr ⟨g, rfl, h⟩

theorem take_set2 (l : List Value) (a b : Value) (h : 2 ≤ l.length) : ((l.set 0 a).set 1 b).take 2 = [a, b] := by
  match l, h with
  | p :: q :: r, _ => rfl
theorem cell_head {w : World} {g : Nat} {cur : Array Value} {ws : List Nat} (h : RowIs w g cur) (ht : cur.toList.take ws.length = ws.flatMap wEnc) (i : Nat) (hi : i < ws.length) : w.cell? ⟨g, i, none⟩ = some (.int .u64 (ws[i] : Int)) := by
  obtain ⟨b, off, e, hc⟩ := (rd_row h ht).2 (by omega)
  injection e with e
  injection e with e1 e2
  subst e1 e2
  have := hc i 0 _ hi rfl
  rwa [show 0 + i * 1 + 0 = i from by omega] at this

set_option maxHeartbeats 1000000 in
set_option maxRecDepth 100000 in
theorem natAdd_11 (B : Nat) (g c : Nat) (x y yb yo yc : Nat) (w : World) (hx : x < W64) (hy : y < W64) (hBw : B ≤ w.heap.size) (h : Wds w B (.slice (some ⟨g, 0, none⟩) 1 c) [x]) (hcy : w.cell? ⟨yb, yo, none⟩ = some (.int .u64 (y : Int))) (hyc : 1 ≤ yc) :
    Calls Tryz.prog 152 #[.slice (some ⟨g, 0, none⟩) 1 c, .slice (some ⟨g, 0, none⟩) 1 c, .slice (some ⟨yb, yo, none⟩) 1 yc] w
      fun e w' => ∃ V', e = .returned V' ∧ Gave w w' B (.slice (some ⟨g, 0, none⟩) 1 c) V' (wordsOf (x + y)) := by
  have eg := addVV_enters
  obtain ⟨cur, hrow, hcs, hct, hBg, hlc, hcm⟩ := h.row
  have hcap : c ≤ 1 ∨ 6 ≤ c := by
    obtain ⟨A, c', e, h'⟩ := h.cap
    injection e with _ _ e; subst e; exact h'
  have hl1 : ([x] : List Nat).length = 1 := rfl
  have hxw := cell_head hrow hct 0 (by simp)
  simp only [List.getElem_cons_zero] at hxw
  rw [hl1] at hlc
  obtain ⟨s, hs⟩ : ∃ s, (x + y + 0) % W64 = s := ⟨_, rfl⟩
  obtain ⟨d, hd⟩ : ∃ d, (x + y + 0) / W64 = d := ⟨_, rfl⟩
  have hs1 : s < W64 := by subst hs; exact Nat.mod_lt _ (by decide)
  have hd1 : d < W64 := by unfold W64 at *; omega
  have hval : valOf [s, d] = x + y := by simp only [valOf]; unfold W64 at *; omega
  have hc1i : (1 : Int) ≤ (c : Int) := by omega
  have hyi : (1 : Int) ≤ (yc : Int) := by omega
  rcases hcap with hc1 | hc6
  · go_enter Tryz.func152, Tryz.ntmps152
    go_wp2_with fail
    refine (natMake_2 _ 1 c _ hc1).mono ?_
    rintro e w1 ⟨rfl, rfl⟩
    have hga : w.grownBy (w.alloc (.cells (zeros 6) 70)) (some g) := World.grownBy_alloc w _ _
    have hra := RowIs.made w 6
    have hcya : (w.alloc (.cells (zeros 6) 70)).cell? ⟨yb, yo, none⟩ = some (.int .u64 (y : Int)) := below_cell ((Below.refl w.heap.size w).alloc (Nat.le_refl _) _) (World.block_lt_of_cell? _ _ hcy) hcy
    have hxa : (w.alloc (.cells (zeros 6) 70)).cell? ⟨g, 0, none⟩ = some (.int .u64 (x : Int)) := below_cell ((Below.refl w.heap.size w).alloc (Nat.le_refl _) _) (World.block_lt_of_cell? _ _ hxw) hxw
    generalize w.alloc (.cells (zeros 6) 70) = wa at hga hra hcya hxa ⊢
    go_wp2_with fail
    refine wp_region_still_tail 9 (by kernel_rfl) (by kernel_rfl) ?_
    simp only [List.take_succ_cons, List.take_zero, List.drop_succ_cons, List.drop_zero]
    change wpStill _ _ wa.drew _ _ _
    repeat still_step
    refine wpStill_nil ?_
    change wpList _ _ _ _ _ wa.drew
    have hga : w.grownBy wa.drew (some g) := only_drewN hga 1
    have hra : RowIs wa.drew w.heap.size (zeros 6) := hra
    have hcya : wa.drew.cell? ⟨yb, yo, none⟩ = some (.int .u64 (y : Int)) := hcya
    have hxa : wa.drew.cell? ⟨g, 0, none⟩ = some (.int .u64 (x : Int)) := hxa
    generalize wa.drew = wb at hga hra hcya hxa ⊢
    go_wp2_with fail
    have hz0 : ∃ u, wb.cell? ⟨w.heap.size, 0, none⟩ = some u ∧ u.oneCell' = true := by
      exact ⟨.int .u64 0, by rw [hra.cell 0]; rfl, rfl⟩
    obtain ⟨u0, hz0, hu0⟩ := hz0
    refine (addVV1 w.heap.size 0 _ g 0 _ yb yo _ u0 x y s d hx hy hs hd _ hz0 hu0 (hra.fr 0) hxa hcya).mono ?_
    rintro e w2 ⟨rfl, n2, rfl⟩
    have hgc := only_set (only_drewN hga n2) (.inr (Nat.le_refl _)) 0 (.int .u64 (s : Int))
    have hrc := (hra.drewN n2).set_ 0 (.int .u64 (s : Int))
    generalize (wb.drewN n2).setCell ⟨w.heap.size, 0, none⟩ (.int .u64 (s : Int)) = wc at hgc hrc ⊢
    have c1 : ∃ u, wc.cell? ⟨w.heap.size, 1, none⟩ = some u := ⟨_, (hrc.cell 1).trans (Array.getElem?_eq_getElem (by simp [zeros]; try omega))⟩
    obtain ⟨u1, c1⟩ := c1
    have f1 := hrc.fr 1
    go_wp2_with fail
    have hgd := only_set hgc (.inr (Nat.le_refl _)) 1 (.int .u64 (d : Int))
    have hrd := hrc.set_ 1 (.int .u64 (d : Int))
    generalize wc.setCell ⟨w.heap.size, 1, none⟩ (.int .u64 (d : Int)) = wd at hgd hrd ⊢
    have htk : (((zeros 6).setIfInBounds 0 (.int .u64 (s : Int))).setIfInBounds 1 (.int .u64 (d : Int))).toList.take ([s, d] : List Nat).length = [s, d].flatMap wEnc := by
      rw [Array.toList_setIfInBounds, Array.toList_setIfInBounds]
      exact take_set2 _ _ _ (by simp [zeros]; try omega)
    refine (natNorm [s, d] w.heap.size 6 _ (rd_row hrd htk) (by simp) (by simp; try omega)).mono ?_
    rintro e w5 ⟨⟨k, hk, rfl, hz, hl⟩, n5, rfl⟩
    go_wp2_with fail
    go_ret
    exact ⟨_, rfl, gave_row (only_drewN hgd n5) (hrd.drewN n5) htk (by simp [zeros]; try omega) hBw (by unfold maxLen; omega) (by omega) (.inr (Nat.le_refl _)) (by
      intro z hz'
      simp only [List.mem_cons, List.not_mem_nil, or_false] at hz'
      rcases hz' with rfl | rfl
      · exact hs1
      · exact hd1) hval (by unfold W64 at *; omega) (by simp) (by simp; try omega) hk hz hl⟩
  · have hc2 : (2 : Int) ≤ (c : Int) := by omega
    go_enter Tryz.func152, Tryz.ntmps152
    go_wp2_with fail
    refine (natMake_fits _ 1 c 2 _ (by omega) hcm).mono ?_
    rintro e w1 ⟨rfl, n1, rfl⟩
    have hga : w.grownBy (w.drewN n1) (some g) := only_drewN (only_refl w (some g)) n1
    have hra := hrow.drewN n1
    have hcya : (w.drewN n1).cell? ⟨yb, yo, none⟩ = some (.int .u64 (y : Int)) := hcy
    have hxa : (w.drewN n1).cell? ⟨g, 0, none⟩ = some (.int .u64 (x : Int)) := hxw
    generalize w.drewN n1 = wa at hga hra hcya hxa ⊢
    go_wp2_with fail
    refine wp_region_still_tail 9 (by kernel_rfl) (by kernel_rfl) ?_
    simp only [List.take_succ_cons, List.take_zero, List.drop_succ_cons, List.drop_zero]
    change wpStill _ _ wa.drew _ _ _
    repeat still_step
    refine wpStill_nil ?_
    change wpList _ _ _ _ _ wa.drew
    have hga : w.grownBy wa.drew (some g) := only_drewN hga 1
    have hra : RowIs wa.drew g cur := hra
    have hcya : wa.drew.cell? ⟨yb, yo, none⟩ = some (.int .u64 (y : Int)) := hcya
    have hxa : wa.drew.cell? ⟨g, 0, none⟩ = some (.int .u64 (x : Int)) := hxa
    generalize wa.drew = wb at hga hra hcya hxa ⊢
    go_wp2_with fail
    have hz0 : ∃ u, wb.cell? ⟨g, 0, none⟩ = some u ∧ u.oneCell' = true := by
      exact ⟨_, hxa, rfl⟩
    obtain ⟨u0, hz0, hu0⟩ := hz0
    refine (addVV1 g 0 _ g 0 _ yb yo _ u0 x y s d hx hy hs hd _ hz0 hu0 (hra.fr 0) hxa hcya).mono ?_
    rintro e w2 ⟨rfl, n2, rfl⟩
    have hgc := only_set (only_drewN hga n2) (.inl rfl) 0 (.int .u64 (s : Int))
    have hrc := (hra.drewN n2).set_ 0 (.int .u64 (s : Int))
    generalize (wb.drewN n2).setCell ⟨g, 0, none⟩ (.int .u64 (s : Int)) = wc at hgc hrc ⊢
    have c1 : ∃ u, wc.cell? ⟨g, 1, none⟩ = some u := ⟨_, (hrc.cell 1).trans (Array.getElem?_eq_getElem (by simp; try omega))⟩
    obtain ⟨u1, c1⟩ := c1
    have f1 := hrc.fr 1
    go_wp2_with fail
    have hgd := only_set hgc (.inl rfl) 1 (.int .u64 (d : Int))
    have hrd := hrc.set_ 1 (.int .u64 (d : Int))
    generalize wc.setCell ⟨g, 1, none⟩ (.int .u64 (d : Int)) = wd at hgd hrd ⊢
    have htk : (((cur).setIfInBounds 0 (.int .u64 (s : Int))).setIfInBounds 1 (.int .u64 (d : Int))).toList.take ([s, d] : List Nat).length = [s, d].flatMap wEnc := by
      rw [Array.toList_setIfInBounds, Array.toList_setIfInBounds]
      exact take_set2 _ _ _ (by simp; try omega)
    refine (natNorm [s, d] g c _ (rd_row hrd htk) (by simp) (by simp; try omega)).mono ?_
    rintro e w5 ⟨⟨k, hk, rfl, hz, hl⟩, n5, rfl⟩
    go_wp2_with fail
    go_ret
    exact ⟨_, rfl, gave_row (only_drewN hgd n5) (hrd.drewN n5) htk (by simp; try omega) hBg hcm (by omega) (.inl rfl) (by
      intro z hz'
      simp only [List.mem_cons, List.not_mem_nil, or_false] at hz'
      rcases hz' with rfl | rfl
      · exact hs1
      · exact hd1) hval (by unfold W64 at *; omega) (by simp) (by simp; try omega) hk hz hl⟩
end Go.Proofs.YtkeapacfmeblgaaGreatDoor
