/- Great numbers: (Int).Mul into a new number; what is divided by 1. -/
import Derived.Test.YtggmbjdonlbfkaaGreatDoorBesafterMulX
import Derived.Deep.RegionLaw
import Derived.LaidEqlPtr
import Derived.BigRegion
namespace Go.Proofs.YtggmbjdonlbfkaaGreatDoorBesafter
open Go Go.RowKit
set_option linter.unusedVariables false

theorem own_lower {α : Type} {w : World} {B B' : Nat} {e sz : Nat} {enc : α → List Value} {v : Value} {l : List α} (h : Own w B e sz enc v l) (hB : B' ≤ B) : Own w B' e sz enc v l := by
  refine ⟨h.1, ?_⟩
  rcases h.2 with h1 | ⟨g, cap, cur, h1, h2, h3⟩
  · exact .inl h1
  · exact .inr ⟨g, cap, cur, h1, Nat.le_trans hB h2, h3⟩
theorem Fresh.gave {w w' : World} {B : Nat} {V V' : Value} {ws : List Nat} (h : Fresh w w' V' ws) (hB : B ≤ w.heap.size) (hV : V.ownBlock = none) : Gave w w' B V V' ws := by
  refine ⟨⟨own_lower h.1.own hB, h.1.cap⟩, by rw [hV]; exact below_grown h.2, ?_⟩
  rw [hV]
  cases hk : V'.ownBlock with
  | none => exact .inl rfl
  | some k => exact .inr ⟨k, rfl, (h.1.own.block k hk).1⟩
/-- a number of one word is one that can be read -/
theorem BigAt.rd {w : World} {B g : Nat} {V : Value} {x : Int} (h : BigAt w B g V x) (hx : x.natAbs < W64) : ∃ YA yn yc, V = .slice YA yn yc ∧ BigRd w g x YA yn yc := by
  obtain ⟨A, c, rfl⟩ := h.form
  have hrd := h.wds.own.rd wEnc_ok
  obtain ⟨A', c', e, h1, _⟩ := h.wds.own.form
  injection e with _ _ e3
  exact ⟨A, _, c, rfl, ⟨h.c0, h.c1, ⟨hrd, hx⟩, by omega⟩⟩
/-- a new number, 0 -/
theorem BigAt.new (w : World) : BigAt (w.alloc (.cells #[.bool false, .slice none 0 0] 72)) w.heap.size w.heap.size (.slice none 0 0) 0 :=
  ⟨Nat.le_refl _, by simp, by simp, fun q => by simp, ⟨Own.nil _ _ _ _ _, none, 0, rfl, by omega⟩, by simp [Value.ownBlock]⟩

/-- block g is plain cells -/
def Blk (w : World) (g : Nat) : Prop := ∃ cs t, w.heap[g]? = some (.cells cs t (0, 0))
theorem Blk.lt {w : World} {g : Nat} (h : Blk w g) : g < w.heap.size := by
  obtain ⟨cs, t, h⟩ := h
  rcases Nat.lt_or_ge g w.heap.size with hlt | hge
  · exact hlt
  · rw [Array.getElem?_eq_none hge] at h; cases h
theorem Blk.new (w : World) (cs : Array Value) (t : TypeId) : Blk (w.alloc (.cells cs t)) w.heap.size := ⟨cs, t, heap_alloc_new w _⟩
theorem Blk.below {w w' : World} {g : Nat} (h : Blk w g) (hb : Below w.heap.size w w') : Blk w' g := by
  obtain ⟨cs, t, e⟩ := h
  exact ⟨cs, t, (hb.block g (Blk.lt ⟨cs, t, e⟩)).trans e⟩
theorem Blk.setCell {w : World} {g : Nat} (h : Blk w g) (g' i : Nat) (v : Value) : Blk (w.setCell ⟨g', i, none⟩ v) g := by
  obtain ⟨cs, t, e⟩ := h
  by_cases hg : g = g'
  · subst hg
    exact ⟨_, t, heap_setCell_same w g i cs _ v e⟩
  · exact ⟨cs, t, (Below.heap_setCell w ⟨g', i, none⟩ v g hg).trans e⟩
theorem Blk.grown {w w' : World} {g : Nat} {row : Option Nat} (h : Blk w g) (hg : w.grownBy w' row) (hne : row ≠ some g) : Blk w' g := by
  obtain ⟨cs, t, e⟩ := h
  exact ⟨cs, t, (hg.block g (Blk.lt ⟨cs, t, e⟩) (fun k => hne k.symm)).trans e⟩
theorem bigInt_info : (Tryz.prog.info? 72).map (·.size) = some 2 := by kernel_rfl
theorem ptr_other {w : World} {g q : Nat} (hne : g ≠ q) (hg : Blk w g) (hq : Blk w q) : (binOp .eql 68 (.pointer (some ⟨g, 0, none⟩)) (.pointer (some ⟨q, 0, none⟩))).run Tryz.prog w = .ok (.bool false) w := by
  obtain ⟨cs, t, e⟩ := hg
  obtain ⟨ds, u, f⟩ := hq
  cases hi : Tryz.prog.info? 72 with
  | none => have := bigInt_info; rw [hi] at this; cases this
  | some j =>
    have hs : j.size = 2 := by have := bigInt_info; rw [hi] at this; simpa using this
    exact run_eql_ptr_other w Tryz.underlying68 hi (by omega) (by intro k; injection k with k; exact hne k) e f
set_option maxRecDepth 100000 in
/-- as newInt_any, and where it lies -/
theorem newInt_new (x : Int) (w : World) (h0 : -9223372036854775808 ≤ x) (h1 : x ≤ 9223372036854775807) :
    Calls Tryz.prog 39 #[.int .i64 x] w fun e w' => ∃ g YA yn yc, e = .returned (.pointer (some ⟨g, 0, none⟩)) ∧ BigRd w' g x YA yn yc ∧ w.heap.size ≤ g ∧ Blk w' g ∧ Below w.heap.size w w' := by
  have BN : ∀ (o : Obj) (cs : Array Value), Blk ((w.alloc o).alloc (.cells cs 72)) (w.heap.size + 1) := fun o cs => by
    have := Blk.new (w.alloc o) cs 72
    rwa [show (w.alloc o).heap.size = w.heap.size + 1 by simp] at this
  by_cases hx : x < 0
  · have hd : decide (x < 0) = true := by simpa using hx
    have hN := newInt_at w x true hd (by omega) (by unfold W64; omega)
    have hw := wrap_neg x h0 hx
    have hxe : (x == 0) = false := by rw [beq_eq_false_iff_ne]; omega
    go_enter Tryz.func39, Tryz.ntmps39
    go_wp2_with fail
    go_ret
    exact ⟨_, _, _, _, rfl, by simpa only [hw] using hN, by omega, BN _ _, ((Below.refl _ _).alloc (Nat.le_refl _) _).alloc (by simp) _⟩
  · by_cases hx0 : x = 0
    · subst hx0
      go_enter Tryz.func39, Tryz.ntmps39
      go_wp2_with fail
      go_ret
      exact ⟨_, rfl, ⟨none, 0, 0, ⟨by simp, by simp, ⟨Rd.nil _ _ _ _, by decide⟩, Nat.le_refl _⟩⟩, Nat.le_refl _, Blk.new _ _ _, (Below.refl _ _).alloc (Nat.le_refl _) _⟩
    · have hd : decide (x < 0) = false := by simpa using hx
      have hN := newInt_at w x false hd hx0 (by unfold W64; omega)
      have hw : (x.natAbs : Int) = x := by omega
      rw [hw] at hN
      go_enter Tryz.func39, Tryz.ntmps39
      go_wp2_with fail
      go_ret
      exact ⟨_, rfl, ⟨_, _, _, hN⟩, by omega, BN _ _, ((Below.refl _ _).alloc (Nat.le_refl _) _).alloc (by simp) _⟩
theorem big1_new (x : Int) (w : World) (h0 : -9223372036854775808 ≤ x) (h1 : x ≤ 9223372036854775807) :
    Calls Tryz.prog 33 #[.int .i64 x] w fun e w' => ∃ g YA yn yc, e = .returned (.pointer (some ⟨g, 0, none⟩)) ∧ BigRd w' g x YA yn yc ∧ w.heap.size ≤ g ∧ Blk w' g ∧ Below w.heap.size w w' := by
  go_enter Tryz.func33, Tryz.ntmps33
  go_wp2_with fail
  refine (newInt_new x _ h0 h1).mono ?_
  rintro e w1 ⟨g, YA, yn, yc, rfl, hR, hg, hk, hb⟩
  go_wp2_with fail
  go_ret
  exact ⟨g, YA, yn, yc, rfl, hR, hg, hk, hb⟩

/-- what is still to be shown, out of the elaborator's sight (where a guard is false it would run through all that follows) -/
structure Nxt (p : Prop) : Prop where
  go : p
theorem still_next {P : Program} {ops : Array Oper} {w : World} {Q : Act → Prop} {a : Act} {o : Oper} {rest : List Oper}
    (h : ∀ K : Act → Prop, (∀ a, Nxt (wpStill P ops w Q rest a) → K a) → if Region.wanted o (yielded ops a.tmps) then o.still P a w K else K (a.put o.dst undef)) : wpStill P ops w Q (o :: rest) a :=
  wpStill_step fun K hK => h K fun a hn => hK a hn.go
theorem still_skip {P : Program} {ops : Array Oper} {w : World} {Q : Act → Prop} {a : Act} {o : Oper} {rest : List Oper} (hw : Region.wanted o (yielded ops a.tmps) = false)
    (h : ∀ K : Act → Prop, (∀ a, Nxt (wpStill P ops w Q rest a) → K a) → K (a.put o.dst undef)) : Nxt (wpStill P ops w Q (o :: rest) a) :=
  ⟨by unfold wpStill; rw [hw]; exact (h (fun a => Nxt (wpStill P ops w Q rest a)) (fun _ h => h)).go⟩
theorem sign_mul {x y : Int} (h : x * y ≠ 0) : decide (x * y < 0) = (decide (x < 0) != decide (y < 0)) := by
  have hx : x ≠ 0 := fun e => h (by rw [e, Int.zero_mul])
  have hy : y ≠ 0 := fun e => h (by rw [e, Int.mul_zero])
  by_cases h1 : x < 0 <;> by_cases h2 : y < 0
  · have := Int.mul_pos_of_neg_of_neg h1 h2
    simp [h1, h2]; omega
  · have := Int.mul_neg_of_neg_of_pos h1 (show 0 < y by omega)
    simp [h1, h2]; omega
  · have := Int.mul_neg_of_pos_of_neg (show 0 < x by omega) h2
    simp [h1, h2]; omega
  · have := Int.mul_pos (show 0 < x by omega) (show 0 < y by omega)
    simp [h1, h2]; omega
theorem words_len0 {v : Nat} (h : v = 0) : (wordsOf v).length = 0 := by subst h; rfl
set_option maxHeartbeats 4000000 in
set_option maxRecDepth 100000 in
theorem bigMul_in (B g gx gy xn xc yn yc : Nat) (x y : Int) (XA YA : Option Addr) (w : World) (hBw : B ≤ w.heap.size) (h : BigAt w B g (.slice none 0 0) 0) (hx : BigRd w gx x XA xn xc) (hy : BigRd w gy y YA yn yc) (hne : gx ≠ gy) (hbx : Blk w gx) (hby : Blk w gy) :
    Calls Tryz.prog 60 #[.pointer (some ⟨g, 0, none⟩), .pointer none, .pointer (some ⟨gx, 0, none⟩), .pointer (some ⟨gy, 0, none⟩)] w
      fun e w' => e = .returned (.tuple #[]) ∧ ∃ V', BigAt w' B g V' (x * y) ∧ Below B w w' := by
  have hpo := ptr_other hne hbx hby
  have c0 := h.c0
  have c1 := h.c1
  have x0 := hx.c0
  have x1 := hx.c1
  have y0 := hy.c0
  have y1 := hy.c1
  have hxl := World.block_lt_of_cell? _ _ x0
  have hyl := World.block_lt_of_cell? _ _ y0
  have hab : (x * y).natAbs = x.natAbs * y.natAbs := Int.natAbs_mul x y
  have hW : BigAt w.drew B g (.slice none 0 0) 0 := h.below (bdrewN (Below.refl _ w) 1)
  have hxd : YWds w.drew XA xn x.natAbs := ⟨hx.wds.1, hx.wds.2⟩
  have hyd : YWds w.drew YA yn y.natAbs := ⟨hy.wds.1, hy.wds.2⟩
  have hWb : Below B w w.drew := bdrewN (Below.refl B w) 1
  have hWs : B ≤ w.drew.heap.size := hBw
  have hxl' : gx < w.drew.heap.size := hxl
  have hyl' : gy < w.drew.heap.size := hyl
  have HG : Hid (∀ (w' : World) (V' : Value), Fresh w.drew w' V' (wordsOf (x.natAbs * y.natAbs)) → Gave w.drew w' B (.slice none 0 0) V' (wordsOf (x * y).natAbs)) := by
    intro w' V' hF
    rw [hab]
    exact hF.gave hWs rfl
  obtain ⟨bx, hbx'⟩ : ∃ b, b = decide (x < 0) := ⟨_, rfl⟩
  obtain ⟨bb, hby'⟩ : ∃ b, b = decide (y < 0) := ⟨_, rfl⟩
  have HX := hide hbx'
  have HY := hide hby'
  rw [← hbx'] at x0
  rw [← hby'] at y0
  clear hbx' hby'
  have x0d : w.drew.cell? ⟨gx, 0, none⟩ = some (.bool bx) := x0
  have y0d : w.drew.cell? ⟨gy, 0, none⟩ = some (.bool bb) := y0
  have HW := hide hW
  have HXD := hide hxd
  have HYD := hide hyd
  have HXC := hide hx.cap
  have HWB := hide hWb
  have HWS := hide hWs
  have HXL := hide hxl'
  have HYL := hide hyl'
  have HX0 := hide x0d
  have HY0 := hide y0d
  obtain ⟨L, hL⟩ : ∃ L, L = (wordsOf (x * y).natAbs).length := ⟨_, rfl⟩
  have HLL := hide hL
  have HK : Hid (∀ (w' : World) (V' : Value), Fresh w.drew w' V' (wordsOf (x.natAbs * y.natAbs)) → (∃ A c, V' = .slice A L c) ∧ w'.cell? ⟨g, 1, none⟩ = some (.slice none 0 0) ∧ w'.cell? ⟨g, 0, none⟩ = some (.bool false) ∧ w'.frozen? ⟨g, 0, none⟩ = false ∧ w'.frozen? ⟨g, 1, none⟩ = false ∧ w'.cell? ⟨gx, 0, none⟩ = some (.bool bx) ∧ w'.cell? ⟨gy, 0, none⟩ = some (.bool bb)) := by
    intro w' V' hF
    obtain ⟨k0, k1, kf0, kf1, A3, cc3, e⟩ := hW.kept (HG.out _ _ hF)
    rw [← hL] at e
    exact ⟨⟨A3, cc3, e⟩, k1, k0, kf0, kf1, below_cell hF.2 hxl' x0d, below_cell hF.2 hyl' y0d⟩
  have HAB := hide hab
  clear h hx hy hW hxd hyd hWb hWs hxl hyl hxl' hyl' x0d y0d hL hne hbx hby hab hBw
  by_cases hz : x * y = 0
  · have hl0 : L = 0 := by
      rw [HLL.out, hz]; rfl
    have hd : decide (x * y < 0) = false := by rw [hz]; rfl
    have HD := hide hd
    subst hl0
    clear hz hd
    go_enter Tryz.func60, Tryz.ntmps60
    go_wp2_with fail
    go_region_law (go_simp; go_at_call 95; refine (natMulV _ x.natAbs y.natAbs xn xc yn yc XA YA _ HXD.out HXC.out HYD.out).mono ?_; rintro e w3 ⟨V3, rfl, hF⟩; obtain ⟨⟨A3, cc3, rfl⟩, k1, k0, kf0, kf1, x3, y3⟩ := HK.out _ _ hF; have HF := hide hF; clear hF)
    all_goals
      go_wp2_with fail
    all_goals
      generalize hwb : w3.setCell ⟨g, 1, none⟩ (.slice A3 0 cc3) = wb
      have b0 : wb.drew.cell? ⟨g, 0, none⟩ = some (.bool false) := by show wb.cell? _ = _; rw [← hwb]; exact (World.cell?_setCell_other _ _ _ _ (by simp)).trans k0
      have b1 : wb.drew.cell? ⟨g, 1, none⟩ = some (.slice A3 0 cc3) := by show wb.cell? _ = _; rw [← hwb]; exact World.cell?_setCell_same _ ⟨g, 1, none⟩ _ k1
      have bf : wb.drew.frozen? ⟨g, 0, none⟩ = false := by show wb.frozen? _ = _; rw [← hwb]; simp [kf0]
      have bx0 : wb.drew.cell? ⟨gx, 0, none⟩ = some (.bool bx) := by show wb.cell? _ = _; rw [← hwb]; exact (World.cell?_setCell_other _ _ _ _ (by simp)).trans x3
      have by0 : wb.drew.cell? ⟨gy, 0, none⟩ = some (.bool bb) := by show wb.cell? _ = _; rw [← hwb]; exact (World.cell?_setCell_other _ _ _ _ (by simp)).trans y3
      refine wp_region_still_tail 18 (by kernel_rfl) (by kernel_rfl) ?_
      simp only [List.take_succ_cons, List.take_zero, List.drop_succ_cons, List.drop_zero]
      change wpStill _ _ wb.drew _ _ _
      have HWE := hide hwb
      clear hwb k0 k1 kf0 kf1 x3 y3 c1 x1 y1 hpo c0 x0 y0
      refine Nxt.go ?_
      (refine ⟨still_next (fun K hK => ?_)⟩; go_simp; refine hK _ ?_; clear hK K)
      (refine ⟨still_next (fun K hK => ?_)⟩; go_simp; refine hK _ ?_; clear hK K)
      (refine ⟨still_next (fun K hK => ?_)⟩; go_simp; refine hK _ ?_; clear hK K)
      (refine ⟨still_next (fun K hK => ?_)⟩; go_simp; refine hK _ ?_; clear hK K)
      (refine ⟨still_next (fun K hK => ?_)⟩; go_simp; refine hK _ ?_; clear hK K)
      (refine ⟨still_next (fun K hK => ?_)⟩; go_simp; refine hK _ ?_; clear hK K)
      (refine ⟨still_next (fun K hK => ?_)⟩; go_simp; refine hK _ ?_; clear hK K)
      (refine ⟨still_next (fun K hK => ?_)⟩; go_simp; refine hK _ ?_; clear hK K)
      (refine still_skip (by kernel_rfl) (fun K hK => ?_); go_simp; refine hK _ ?_; clear hK K)
      (refine still_skip (by kernel_rfl) (fun K hK => ?_); go_simp; refine hK _ ?_; clear hK K)
      (refine still_skip (by kernel_rfl) (fun K hK => ?_); go_simp; refine hK _ ?_; clear hK K)
      (refine still_skip (by kernel_rfl) (fun K hK => ?_); go_simp; refine hK _ ?_; clear hK K)
      (refine still_skip (by kernel_rfl) (fun K hK => ?_); go_simp; refine hK _ ?_; clear hK K)
      (refine still_skip (by kernel_rfl) (fun K hK => ?_); go_simp; refine hK _ ?_; clear hK K)
      (refine still_skip (by kernel_rfl) (fun K hK => ?_); go_simp; refine hK _ ?_; clear hK K)
      (refine still_skip (by kernel_rfl) (fun K hK => ?_); go_simp; refine hK _ ?_; clear hK K)
      (refine still_skip (by kernel_rfl) (fun K hK => ?_); go_simp; refine hK _ ?_; clear hK K)
      (refine ⟨still_next (fun K hK => ?_)⟩; go_simp; refine hK _ ?_; clear hK K)
      refine ⟨wpStill_nil ?_⟩
      change wpList _ _ _ _ _ wb.drew
      go_wp2_with fail
      go_end0
      have hp := HW.out.put (r := x * y) (HG.out _ _ HF.out)
      have hb := HW.out.put_below (r := x * y) (HG.out _ _ HF.out) HWB.out HWS.out (Nat.le_refl _) (.bool false)
      rw [HD.out, HWE.out] at hp
      rw [HWE.out] at hb
      exact ⟨rfl, _, hp.below (bdrewN (Below.refl _ _) 1), bdrewN hb 1⟩
  · have hpos : 0 < L := by
      have := words_pos (v := (x * y).natAbs) (by omega)
      rw [← HLL.out] at this
      exact this
    have HD : Hid (decide (x * y < 0) = (bx != bb)) := by
      show _ = _
      rw [HX.out, HY.out]
      exact sign_mul hz
    clear hz
    go_enter Tryz.func60, Tryz.ntmps60
    go_wp2_with fail
    go_region_law (go_simp; go_at_call 95; refine (natMulV _ x.natAbs y.natAbs xn xc yn yc XA YA _ HXD.out HXC.out HYD.out).mono ?_; rintro e w3 ⟨V3, rfl, hF⟩; obtain ⟨⟨A3, cc3, rfl⟩, k1, k0, kf0, kf1, x3, y3⟩ := HK.out _ _ hF; have HF := hide hF; clear hF)
    all_goals
      go_wp2_with fail
    all_goals
      generalize hwb : w3.setCell ⟨g, 1, none⟩ (.slice A3 L cc3) = wb
      have b0 : wb.drew.cell? ⟨g, 0, none⟩ = some (.bool false) := by show wb.cell? _ = _; rw [← hwb]; exact (World.cell?_setCell_other _ _ _ _ (by simp)).trans k0
      have b1 : wb.drew.cell? ⟨g, 1, none⟩ = some (.slice A3 L cc3) := by show wb.cell? _ = _; rw [← hwb]; exact World.cell?_setCell_same _ ⟨g, 1, none⟩ _ k1
      have bf : wb.drew.frozen? ⟨g, 0, none⟩ = false := by show wb.frozen? _ = _; rw [← hwb]; simp [kf0]
      have bx0 : wb.drew.cell? ⟨gx, 0, none⟩ = some (.bool bx) := by show wb.cell? _ = _; rw [← hwb]; exact (World.cell?_setCell_other _ _ _ _ (by simp)).trans x3
      have by0 : wb.drew.cell? ⟨gy, 0, none⟩ = some (.bool bb) := by show wb.cell? _ = _; rw [← hwb]; exact (World.cell?_setCell_other _ _ _ _ (by simp)).trans y3
      refine wp_region_still_tail 18 (by kernel_rfl) (by kernel_rfl) ?_
      simp only [List.take_succ_cons, List.take_zero, List.drop_succ_cons, List.drop_zero]
      change wpStill _ _ wb.drew _ _ _
      have HWE := hide hwb
      clear hwb k0 k1 kf0 kf1 x3 y3 c1 x1 y1 hpo c0 x0 y0
      refine Nxt.go ?_
      (refine ⟨still_next (fun K hK => ?_)⟩; go_simp; refine hK _ ?_; clear hK K)
      (refine ⟨still_next (fun K hK => ?_)⟩; go_simp; refine hK _ ?_; clear hK K)
      (refine ⟨still_next (fun K hK => ?_)⟩; go_simp; refine hK _ ?_; clear hK K)
      (refine ⟨still_next (fun K hK => ?_)⟩; go_simp; refine hK _ ?_; clear hK K)
      (refine ⟨still_next (fun K hK => ?_)⟩; go_simp; refine hK _ ?_; clear hK K)
      (refine ⟨still_next (fun K hK => ?_)⟩; go_simp; refine hK _ ?_; clear hK K)
      (refine ⟨still_next (fun K hK => ?_)⟩; go_simp; refine hK _ ?_; clear hK K)
      (refine ⟨still_next (fun K hK => ?_)⟩; go_simp; refine hK _ ?_; clear hK K)
      (refine ⟨still_next (fun K hK => ?_)⟩; go_simp; refine hK _ ?_; clear hK K)
      (refine ⟨still_next (fun K hK => ?_)⟩; go_simp; refine hK _ ?_; clear hK K)
      (refine ⟨still_next (fun K hK => ?_)⟩; go_simp; refine hK _ ?_; clear hK K)
      (refine ⟨still_next (fun K hK => ?_)⟩; go_simp; refine hK _ ?_; clear hK K)
      (refine ⟨still_next (fun K hK => ?_)⟩; go_simp; refine hK _ ?_; clear hK K)
      (refine ⟨still_next (fun K hK => ?_)⟩; go_simp; refine hK _ ?_; clear hK K)
      (refine ⟨still_next (fun K hK => ?_)⟩; go_simp; refine hK _ ?_; clear hK K)
      (refine ⟨still_next (fun K hK => ?_)⟩; go_simp; refine hK _ ?_; clear hK K)
      (refine ⟨still_next (fun K hK => ?_)⟩; go_simp; refine hK _ ?_; clear hK K)
      (refine ⟨still_next (fun K hK => ?_)⟩; go_simp; refine hK _ ?_; clear hK K)
      refine ⟨wpStill_nil ?_⟩
      change wpList _ _ _ _ _ wb.drew
      go_wp2_with fail
      go_end0
      have hp := HW.out.put (r := x * y) (HG.out _ _ HF.out)
      have hb := HW.out.put_below (r := x * y) (HG.out _ _ HF.out) HWB.out HWS.out (Nat.le_refl _) (.bool (bx != bb))
      rw [HD.out, HWE.out] at hp
      rw [HWE.out] at hb
      exact ⟨rfl, _, hp.below (bdrewN (Below.refl _ _) 1), bdrewN hb 1⟩
set_option maxRecDepth 100000 in
theorem bigMul_any (B g gx gy xn xc yn yc : Nat) (x y : Int) (XA YA : Option Addr) (w : World) (hBw : B ≤ w.heap.size) (h : BigAt w B g (.slice none 0 0) 0) (hx : BigRd w gx x XA xn xc) (hy : BigRd w gy y YA yn yc) (hne : gx ≠ gy) (hbx : Blk w gx) (hby : Blk w gy) :
    Calls Tryz.prog 32 #[.pointer (some ⟨g, 0, none⟩), .pointer (some ⟨gx, 0, none⟩), .pointer (some ⟨gy, 0, none⟩)] w
      fun e w' => e = .returned (.pointer (some ⟨g, 0, none⟩)) ∧ ∃ V', BigAt w' B g V' (x * y) ∧ Below B w w' := by
  go_enter Tryz.func32, Tryz.ntmps32
  go_wp2_with fail
  refine (bigMul_in B g gx gy xn xc yn yc x y XA YA _ hBw h hx hy hne hbx hby).mono ?_
  rintro e w1 ⟨rfl, V', hB, hb⟩
  go_wp2_with fail
  go_ret
  exact ⟨rfl, V', hB, hb⟩
end Go.Proofs.YtggmbjdonlbfkaaGreatDoorBesafter
