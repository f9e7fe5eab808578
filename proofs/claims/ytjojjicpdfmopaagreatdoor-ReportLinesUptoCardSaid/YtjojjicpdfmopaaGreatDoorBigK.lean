/- Great numbers: (Int).Abs, (Int).Cmp of numbers that are not below 0, (Int).Sign. -/
import Derived.Test.YtjojjicpdfmopaaGreatDoorDwE
import Derived.Test.YtjojjicpdfmopaaGreatDoorBigJ
import Derived.LaidEqlPtr
namespace Go.Proofs.YtjojjicpdfmopaaGreatDoor
open Go Go.RowKit
set_option linter.unusedVariables false
set_option linter.unusedSimpArgs false

theorem BigAt.lowerK {w : World} {B B' g : Nat} {V : Value} {x : Int} (h : BigAt w B g V x) (hB : B' ≤ B) : BigAt w B' g V x := ⟨Nat.le_trans hB h.gB, h.c0, h.c1, h.fr, ⟨own_lower h.wds.own hB, h.wds.cap⟩, h.vg⟩
theorem BigAt.grownK {w w' : World} {B g q : Nat} {V : Value} {x : Int} (h : BigAt w B g V x) (hg : w.grownBy w' (some q)) (h1 : g ≠ q) (h2 : V.ownBlock ≠ some q) : BigAt w' B g V x :=
  ⟨h.gB, hg.cell h.c0 (by simp [h1]), hg.cell h.c1 (by simp [h1]), fun j => frozen_grown2 (h.fr j) h.lt hg (by simp; exact fun e => h1 e.symm), ⟨h.wds.own.grown hg (.inr h2), h.wds.cap⟩, h.vg⟩
theorem BigRd.belowK {w w' : World} {g : Nat} {y : Int} {YA : Option Addr} {yn yc : Nat} (h : BigRd w g y YA yn yc) (hb : Below w.heap.size w w') : BigRd w' g y YA yn yc :=
  ⟨below_cell hb (World.block_lt_of_cell? _ _ h.c0) h.c0, below_cell hb (World.block_lt_of_cell? _ _ h.c1) h.c1, ⟨h.wds.1.below hb, h.wds.2⟩, h.cap⟩
theorem ptr_info : ∃ j, Tryz.prog.info? 65 = some j ∧ j.size ≠ 0 := by
  cases hi : Tryz.prog.info? 65 with
  | none => have := bigInt_info; rw [hi] at this; cases this
  | some j =>
    have hs : j.size = 2 := by have := bigInt_info; rw [hi] at this; simpa using this
    exact ⟨j, rfl, by omega⟩
theorem ptr_sameK (g : Nat) (w : World) : (binOp .eql 61 (.pointer (some ⟨g, 0, none⟩)) (.pointer (some ⟨g, 0, none⟩))).run Tryz.prog w = .ok (.bool true) w := by
  obtain ⟨j, hi, _⟩ := ptr_info
  exact run_eql_ptr_same w _ Tryz.underlying61 hi
theorem ptr_neq_same (g : Nat) (w : World) : (binOp .neq 61 (.pointer (some ⟨g, 0, none⟩)) (.pointer (some ⟨g, 0, none⟩))).run Tryz.prog w = .ok (.bool false) w := by
  obtain ⟨j, hi, _⟩ := ptr_info
  have h : ∀ d : Nat, (Op.equalIn (d + 1) 61 (.pointer (some ⟨g, 0, none⟩)) (.pointer (some ⟨g, 0, none⟩))).run Tryz.prog w = .ok true w := fun d => by
    simp [Op.equalIn, run_underlying Tryz.underlying61, sizeOf, typeInfo, hi, run_sameAddr_same]
  simp only [binOp]
  simp [Op.equal, Op.maxDepth, h 9999]
theorem ptr_neq_other {w : World} {g q : Nat} (hne : g ≠ q) (hg : Blk w g) (hq : Blk w q) : (binOp .neq 61 (.pointer (some ⟨g, 0, none⟩)) (.pointer (some ⟨q, 0, none⟩))).run Tryz.prog w = .ok (.bool true) w := by
  obtain ⟨j, hi, hs⟩ := ptr_info
  obtain ⟨cs, t, e⟩ := hg
  obtain ⟨ds, u, f⟩ := hq
  have hn : (⟨g, 0, none⟩ : Addr) ≠ ⟨q, 0, none⟩ := by intro k; injection k with k; exact hne k
  have h : ∀ d : Nat, (Op.equalIn (d + 1) 61 (.pointer (some ⟨g, 0, none⟩)) (.pointer (some ⟨q, 0, none⟩))).run Tryz.prog w = .ok false w := fun d => by
    simp [Op.equalIn, run_underlying Tryz.underlying61, sizeOf, typeInfo, hi, hs, run_sameAddr_other w hn e f]
  simp only [binOp]
  simp [Op.equal, Op.maxDepth, h 9999]
theorem BigAt.absd {w : World} {B g : Nat} {V : Value} {x : Int} (h : BigAt w B g V x) (k : Nat) : BigAt ((w.drewN k).setCell ⟨g, 0, none⟩ (.bool false)) B g V (x.natAbs : Int) := by
  have hd : decide ((x.natAbs : Int) < 0) = false := decide_eq_false (by omega)
  have hw : Wds (w.drewN k) B V (wordsOf x.natAbs) := ⟨h.wds.own.below (bdrewN (Below.refl _ _) k), h.wds.cap⟩
  refine ⟨h.gB, ?_, ?_, fun q => ?_, ?_, h.vg⟩
  · rw [hd]; exact World.cell?_setCell_same _ ⟨g, 0, none⟩ _ h.c0
  · exact (World.cell?_setCell_other _ _ _ _ (by simp)).trans h.c1
  · show ((w.drewN k).setCell _ _).frozen? _ = false
    have : (w.drewN k).frozen? ⟨g, q, none⟩ = false := h.fr q
    simp [this]
  · rw [Int.natAbs_natCast]
    exact Wds.setCellD hw h.vg 0 _
set_option maxRecDepth 100000 in
theorem bigSet_same (g : Nat) (w : World) : Calls Tryz.prog 40 #[.pointer (some ⟨g, 0, none⟩), .pointer (some ⟨g, 0, none⟩)] w fun e w' => e = .returned (.pointer (some ⟨g, 0, none⟩)) ∧ w' = w := by
  have hpo := ptr_neq_same g w
  go_enter Tryz.func40, Tryz.ntmps40
  go_wp2_with fail
  go_ret
  exact ⟨rfl, rfl⟩
set_option maxRecDepth 100000 in
theorem bigAbs_self (B g : Nat) (V : Value) (x : Int) (w : World) (h : BigAt w B g V x) :
    Calls Tryz.prog 21 #[.pointer (some ⟨g, 0, none⟩), .pointer (some ⟨g, 0, none⟩)] w fun e w' => e = .returned (.pointer (some ⟨g, 0, none⟩)) ∧ w' = w.setCell ⟨g, 0, none⟩ (.bool false) := by
  have c0 := h.c0
  have f0 := h.fr 0
  clear h
  go_enter Tryz.func21, Tryz.ntmps21
  go_wp2_with fail
  refine (bigSet_same g _).mono ?_
  rintro e w1 ⟨rfl, rfl⟩
  go_wp2_with fail
  go_ret
  exact ⟨rfl, rfl⟩
theorem Gave.ofFresh {w w' : World} {B : Nat} {V' : Value} {ws : List Nat} (hB : B ≤ w.heap.size) (h : Fresh w w' V' ws) : Gave w w' B (.slice none 0 0) V' ws := by
  refine ⟨⟨own_lower h.1.own hB, h.1.cap⟩, below_grown h.2, ?_⟩
  cases hb : V'.ownBlock with
  | none => exact .inl (by simp [Value.ownBlock])
  | some k => exact .inr ⟨k, rfl, (h.1.own.block k hb).1⟩
theorem BigAt.made (w : World) (x : Int) (b : Bool) (hx : decide (x < 0) = b) (hx0 : x ≠ 0) (h1 : x.natAbs < W64) :
    BigAt ((w.alloc (.cells #[.int .u64 (x.natAbs : Int)] 110)).alloc (.cells #[.bool b, .slice (some ⟨w.heap.size, 0, none⟩) 1 1] 65)) w.heap.size (w.heap.size + 1) (.slice (some ⟨w.heap.size, 0, none⟩) 1 1) x := by
  have e : w.heap.size + 1 = (w.alloc (.cells #[.int .u64 (x.natAbs : Int)] 110)).heap.size := by simp
  have hr : RowIs (w.alloc (.cells #[.int .u64 (x.natAbs : Int)] 110)) w.heap.size #[.int .u64 (x.natAbs : Int)] := by unfold RowIs; exact heap_alloc_new w _
  have hl : w.heap.size < (w.alloc (.cells #[.int .u64 (x.natAbs : Int)] 110)).heap.size := by simp
  rw [e]
  generalize w.alloc (.cells #[.int .u64 (x.natAbs : Int)] 110) = w1 at hr hl ⊢
  have hr2 : RowIs (w1.alloc (.cells #[.bool b, .slice (some ⟨w.heap.size, 0, none⟩) 1 1] 65)) w.heap.size #[.int .u64 (x.natAbs : Int)] :=
    (((Below.refl w1.heap.size w1).alloc (Nat.le_refl _) _).block _ hl).trans hr
  refine ⟨by omega, by rw [hx]; simp, by simp, fun q => by simp, ?_, by simp [Value.ownBlock]; omega⟩
  rw [wordsOf_1 (by omega) h1]
  exact Wds.ofRow (ws := [x.natAbs]) hr2 rfl rfl (Nat.le_refl _) (by simp) (by unfold maxLen; omega) (.inl (Nat.le_refl _))
set_option maxRecDepth 100000 in
/-- a new number, the caller's own -/
theorem newInt_own (x : Int) (w : World) (h0 : -9223372036854775808 ≤ x) (h1 : x ≤ 9223372036854775807) :
    Calls Tryz.prog 41 #[.int .i64 x] w fun e w' => ∃ g V, e = .returned (.pointer (some ⟨g, 0, none⟩)) ∧ BigAt w' w.heap.size g V x ∧ Blk w' g ∧ Below w.heap.size w w' := by
  have BN : ∀ (o : Obj) (cs : Array Value), Blk ((w.alloc o).alloc (.cells cs 65)) (w.heap.size + 1) := fun o cs => by
    have := Blk.new (w.alloc o) cs 65
    rwa [show (w.alloc o).heap.size = w.heap.size + 1 by simp] at this
  by_cases hx : x < 0
  · have hd : decide (x < 0) = true := by simpa using hx
    have hN := BigAt.made w x true hd (by omega) (by unfold W64; omega)
    have hw := wrap_neg x h0 hx
    have hxe : (x == 0) = false := by rw [beq_eq_false_iff_ne]; omega
    go_enter Tryz.func41, Tryz.ntmps41
    go_wp2_with fail
    go_ret
    exact ⟨_, _, rfl, by simpa only [hw] using hN, BN _ _, ((Below.refl _ _).alloc (Nat.le_refl _) _).alloc (by simp) _⟩
  · by_cases hx0 : x = 0
    · subst hx0
      go_enter Tryz.func41, Tryz.ntmps41
      go_wp2_with fail
      go_ret
      exact ⟨_, rfl, ⟨_, BigAt.new w⟩, Blk.new _ _ _, (Below.refl _ _).alloc (Nat.le_refl _) _⟩
    · have hd : decide (x < 0) = false := by simpa using hx
      have hN := BigAt.made w x false hd hx0 (by unfold W64; omega)
      have hw : (x.natAbs : Int) = x := by omega
      rw [hw] at hN
      go_enter Tryz.func41, Tryz.ntmps41
      go_wp2_with fail
      go_ret
      exact ⟨_, rfl, ⟨_, hN⟩, BN _ _, ((Below.refl _ _).alloc (Nat.le_refl _) _).alloc (by simp) _⟩
theorem big1_own (x : Int) (w : World) (h0 : -9223372036854775808 ≤ x) (h1 : x ≤ 9223372036854775807) :
    Calls Tryz.prog 22 #[.int .i64 x] w fun e w' => ∃ g V, e = .returned (.pointer (some ⟨g, 0, none⟩)) ∧ BigAt w' w.heap.size g V x ∧ Blk w' g ∧ Below w.heap.size w w' := by
  go_enter Tryz.func22, Tryz.ntmps22
  go_wp2_with fail
  refine (newInt_own x _ h0 h1).mono ?_
  rintro e w1 ⟨g, V, rfl, hR, hk, hb⟩
  go_wp2_with fail
  go_ret
  exact ⟨g, V, rfl, hR, hk, hb⟩
set_option maxHeartbeats 1000000 in
set_option maxRecDepth 100000 in
theorem bigSet_new (B g gx xn xc : Nat) (x : Int) (XA : Option Addr) (w : World) (hBw : B ≤ w.heap.size) (h : BigAt w B g (.slice none 0 0) 0) (hx : BigRd w gx x XA xn xc) (hne : g ≠ gx) (b1 : Blk w g) (b2 : Blk w gx) :
    Calls Tryz.prog 40 #[.pointer (some ⟨g, 0, none⟩), .pointer (some ⟨gx, 0, none⟩)] w fun e w' => e = .returned (.pointer (some ⟨g, 0, none⟩)) ∧ ∃ V', BigAt w' B g V' x ∧ Below B w w' := by
  have hpo := ptr_neq_other (w := w) hne b1 b2
  have z1 := h.c1
  have x1 := hx.c1
  have x0 := hx.c0
  have hngx : ¬ g = gx := hne
  have HK : Hid (∀ w' V', Fresh w.drew w' V' (wordsOf x.natAbs) → (∃ A c, V' = .slice A (wordsOf x.natAbs).length c) ∧ w'.cell? ⟨g, 0, none⟩ = some (.bool false) ∧ w'.cell? ⟨g, 1, none⟩ = some (.slice none 0 0) ∧ w'.frozen? ⟨g, 0, none⟩ = false ∧ w'.frozen? ⟨g, 1, none⟩ = false ∧ w'.cell? ⟨gx, 0, none⟩ = some (.bool (decide (x < 0)))) := by
    intro w' V' hF
    have hb : Below w.heap.size w w' := (bdrewN (Below.refl _ w) 1).trans hF.2
    obtain ⟨A, c, e, _⟩ := hF.1.cap
    exact ⟨⟨A, c, e⟩, below_cell hb h.lt h.c0, below_cell hb h.lt h.c1, (hb.frozen (p := ⟨g, 0, none⟩) h.lt).trans (h.fr 0), (hb.frozen (p := ⟨g, 1, none⟩) h.lt).trans (h.fr 1), below_cell hb (World.block_lt_of_cell? _ _ x0) x0⟩
  have HS : Hid (Calls Tryz.prog 71 #[.slice none 0 0, .slice XA xn xc] w.drew fun e w' => ∃ V', e = .returned V' ∧ Fresh w.drew w' V' (wordsOf x.natAbs)) := natSet_new x.natAbs xn xc XA w.drew ⟨hx.wds.1, hx.wds.2⟩
  have HP : Hid (∀ w' V', Fresh w.drew w' V' (wordsOf x.natAbs) → BigAt ((w'.setCell ⟨g, 1, none⟩ V').setCell ⟨g, 0, none⟩ (.bool (decide (x < 0)))) B g V' x ∧ Below B w ((w'.setCell ⟨g, 1, none⟩ V').setCell ⟨g, 0, none⟩ (.bool (decide (x < 0))))) := by
    intro w' V' hF
    have hW : BigAt w.drew B g (.slice none 0 0) 0 := h.below (bdrewN (Below.refl _ w) 1)
    have hG := Gave.ofFresh (B := B) (show B ≤ w.drew.heap.size from hBw) hF
    exact ⟨hW.put hG, hW.put_below hG (bdrewN (Below.refl B w) 1) hBw (Nat.le_refl _) _⟩
  obtain ⟨bx, hbx⟩ : ∃ b, b = decide (x < 0) := ⟨_, rfl⟩
  rw [← hbx] at HK HP
  clear h hx b1 b2 hne hBw x0 hbx
  go_enter Tryz.func40, Tryz.ntmps40
  go_wp2_with fail
  clear hpo
  go_region_law (go_simp; go_at_call 71; refine HS.out.mono ?_; rintro e w3 ⟨V3, rfl, hF⟩; obtain ⟨⟨A3, cc3, rfl⟩, k0, k1, kf0, kf1, kx⟩ := HK.out _ _ hF; have HF := hide hF; clear hF)
  all_goals
    go_wp2_with fail
  all_goals
    go_ret
    exact ⟨rfl, _, HP.out _ _ HF.out⟩
/-- the amount of a number, in a new one -/
theorem bigAbs_new (B g gx xn xc : Nat) (x : Int) (XA : Option Addr) (w : World) (hBw : B ≤ w.heap.size) (h : BigAt w B g (.slice none 0 0) 0) (hx : BigRd w gx x XA xn xc) (hne : g ≠ gx) (b1 : Blk w g) (b2 : Blk w gx) :
    Calls Tryz.prog 21 #[.pointer (some ⟨g, 0, none⟩), .pointer (some ⟨gx, 0, none⟩)] w fun e w' => e = .returned (.pointer (some ⟨g, 0, none⟩)) ∧ ∃ V', BigAt w' B g V' (x.natAbs : Int) ∧ Below B w w' := by
  have HS := hide (bigSet_new B g gx xn xc x XA w hBw h hx hne b1 b2)
  have hBg := hide h.gB
  clear h hx hne b1 b2
  go_enter Tryz.func21, Tryz.ntmps21
  go_wp2_with fail
  refine HS.out.mono ?_
  rintro e w1 ⟨rfl, V', hB, hb⟩
  have c0 := hB.c0
  have f0 := hB.fr 0
  have HB := hide hB
  clear hB
  go_wp2_with fail
  go_ret
  exact ⟨rfl, V', HB.out.absd 0, hb.setCell hBg.out _⟩
set_option maxHeartbeats 1000000 in
set_option maxRecDepth 100000 in
/-- two numbers that are not below 0, held against each other -/
theorem bigCmp_pos (B gx gy yn yc x y : Nat) (V : Value) (YA : Option Addr) (w : World) (hx : BigAt w B gx V (x : Int)) (hxl : x < W64 * W64) (hy : BigRd w gy (y : Int) YA yn yc) (b1 : Blk w gx) (b2 : Blk w gy) (hxy : gx = gy → x = y) :
    Calls Tryz.prog 260 #[.pointer (some ⟨gx, 0, none⟩), .pointer (some ⟨gy, 0, none⟩)] w fun e w' => e = .returned (.int .i64 (cmpN x y)) ∧ ∃ k, w' = w.drewN k := by
  by_cases hg : gx = gy
  · obtain rfl := hxy hg
    subst hg
    have hpo := ptr_sameK gx w
    have hc : cmpN x x = 0 := by unfold cmpN; simp
    rw [hc]
    clear hx hy b1 b2 hxy
    go_enter Tryz.func260, Tryz.ntmps260
    go_wp2_with fail
    go_ret
    exact ⟨rfl, 0, rfl⟩
  · have hpo := ptr_other hg b1 b2
    obtain ⟨A, c, rfl⟩ := hx.form
    have c0 := hx.c0
    have c1 := hx.c1
    have y0 := hy.c0
    have y1 := hy.c1
    have d1 : decide ((x : Int) < 0) = false := decide_eq_false (by omega)
    have d2 : decide ((y : Int) < 0) = false := decide_eq_false (by omega)
    rw [d1] at c0
    rw [d2] at y0
    have hw := hx.wds
    rw [Int.natAbs_natCast] at hw c1
    have HC : Hid (∀ W : World, W.heap = w.heap → Calls Tryz.prog 60 #[.slice A (wordsOf x).length c, .slice YA yn yc] W fun e w' => e = .returned (.int .i64 (cmpN x y)) ∧ ∃ n, w' = W.drewN n) := fun W e =>
      natCmpV B x y _ c yn yc A YA W hxl (hw.alike e) rfl (by have := hy.wds; rw [Int.natAbs_natCast] at this; exact this.alike e) hy.cap
    clear hx hy b1 b2 hxy hg hw d1 d2 hxl
    go_enter Tryz.func260, Tryz.ntmps260
    go_wp2_with fail
    clear hpo
    go_quiet (fail)
    have z0 : (w.drewN nq).cell? ⟨gx, 0, none⟩ = some (.bool false) := c0
    have z1 : (w.drewN nq).cell? ⟨gx, 1, none⟩ = some (.slice A (wordsOf x).length c) := c1
    have y1 : (w.drewN nq).cell? ⟨gy, 1, none⟩ = some (.slice YA yn yc) := y1
    have hwf : ∃ k, w.drewN nq = w.drewN k := ⟨nq, rfl⟩
    have hwh : Hid ((w.drewN nq).heap = w.heap) := hide rfl
    generalize w.drewN nq = wa at z0 z1 y1 hwf hwh ⊢
    have HWF := hide hwf
    clear hwf c0 c1 y0
    go_wp2_with fail
    go_quiet ((go_at_call 60; exact Calls.quiet_of (HC.out _ hwh.out)))
    have z0 : (wa.drewN nq).cell? ⟨gx, 0, none⟩ = some (.bool false) := z0
    go_wp2_with fail
    go_ret
    obtain ⟨k0, hk⟩ := HWF.out
    exact ⟨rfl, k0 + nq, by rw [hk, drewN_add]⟩
end Go.Proofs.YtjojjicpdfmopaaGreatDoor
