/- Great numbers: (Int).DivMod by 1, into new numbers. -/
import Derived.Test.YtmaaehajficnhaaGreatDoorDivB
namespace Go.Proofs.YtmaaehajficnhaaGreatDoor
open Go Go.RowKit
set_option linter.unusedVariables false

set_option maxHeartbeats 2000000 in
set_option maxRecDepth 100000 in
theorem divMod_one (B g gx gy gr xn xc yb yo yc : Nat) (x : Int) (XA : Option Addr) (w : World) (hBw : B ≤ w.heap.size) (h : BigAt w B g (.slice none 0 0) 0) (hr : BigAt w B gr (.slice none 0 0) 0) (hg : g ≠ gr) (hgy : g ≠ gy) (hx : BigRd w gx x XA xn xc)
    (y0 : w.cell? ⟨gy, 0, none⟩ = some (.bool false)) (y1 : w.cell? ⟨gy, 1, none⟩ = some (.slice (some ⟨yb, yo, none⟩) 1 yc)) (hcy : w.cell? ⟨yb, yo, none⟩ = some (.int .u64 1)) (b1 : Blk w g) (b2 : Blk w gr) (b3 : Blk w gy) :
    Calls Tryz.prog 37 #[.pointer (some ⟨g, 0, none⟩), .pointer (some ⟨gx, 0, none⟩), .pointer (some ⟨gy, 0, none⟩), .pointer (some ⟨gr, 0, none⟩)] w
      fun e w' => e = .returned (.tuple #[.pointer (some ⟨g, 0, none⟩), .pointer (some ⟨gr, 0, none⟩)]) ∧ (∃ V', BigAt w' B g V' x ∧ V'.ownBlock ≠ some gr) ∧ BigAt w' B gr (.slice none 0 0) 0 ∧ Below B w w' ∧ Blk w' g ∧ Blk w' gr := by
  have hpo : ∀ k, (binOp .eql 65 (.pointer (some ⟨g, 0, none⟩)) (.pointer (some ⟨gy, 0, none⟩))).run Tryz.prog (w.drewN k) = .ok (.bool false) (w.drewN k) := fun k => ptr_other (w := w.drewN k) hgy b1 b3
  have z1 := h.c1
  have HQ : Hid (∀ k, Calls Tryz.prog 70 #[.pointer (some ⟨g, 0, none⟩), .pointer (some ⟨gx, 0, none⟩), .pointer (some ⟨gy, 0, none⟩), .pointer (some ⟨gr, 0, none⟩)] (w.drewN k)
      fun e w' => e = .returned (.tuple #[.pointer (some ⟨g, 0, none⟩), .pointer (some ⟨gr, 0, none⟩)]) ∧ (∃ V', BigAt w' B g V' x ∧ V'.ownBlock ≠ some gr) ∧ BigAt w' B gr (.slice none 0 0) 0 ∧ Below B w w' ∧ Blk w' g ∧ Blk w' gr) := fun k =>
    (quoRem_one B g gx gy gr xn xc yb yo yc x XA (w.drewN k) hBw (h.below (bdrewN (Below.refl _ w) k)) (hr.below (bdrewN (Below.refl _ w) k)) hg ⟨hx.c0, hx.c1, ⟨hx.wds.1, hx.wds.2⟩, hx.cap⟩ y0 y1 hcy b1 b2).mono fun e w' ⟨he, h1, h2, h3, h4, h5⟩ => ⟨he, h1, h2, (bdrewN (Below.refl B w) k).trans h3, h4, h5⟩
  clear h hr hx hcy b1 b2 b3 hBw
  go_enter Tryz.func37, Tryz.ntmps37
  go_wp2_with fail
  go_quiet ((go_at_call 68; exact Calls.quiet_of (alias_nil (some ⟨yb, yo, none⟩) 1 yc _)))
  go_wp2_with fail
  refine (HQ.out _).mono ?_
  rintro e w1 ⟨rfl, ⟨V', hZ⟩, hM, hb, k1, k2⟩
  have m0 : w1.cell? ⟨gr, 0, none⟩ = some (.bool false) := hM.c0
  go_wp2_with fail
  go_ret2
  exact ⟨rfl, ⟨V', hZ⟩, hM, hb, k1, k2⟩
end Go.Proofs.YtmaaehajficnhaaGreatDoor
