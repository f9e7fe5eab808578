/- Numbers of 32-bit words: Add and Sub again: what they leave alone. -/
import Derived.Test.YtfkhcdcmcplfoaaGreatDoorQbX
namespace Go.Proofs.YtfkhcdcmcplfoaaGreatDoor
open Go Go.RowKit
set_option linter.unusedVariables false

/-- the number at g and its words lie in no block of this row -/
def QFree (w : World) (g : Nat) (r : Option Nat) : Prop := r ≠ some g ∧ ∀ A n c, w.cell? ⟨g, 1, none⟩ = some (.slice A n c) → 0 < n → ∀ a o s, A = some ⟨a, o, s⟩ → some a ≠ r
theorem QAt.free0 {w : World} {B g : Nat} (h : QAt w B g 0) {r : Option Nat} (hr : r ≠ some g) : QFree w g r := by
  obtain ⟨A, c, c1, _⟩ := h.wds
  refine ⟨hr, fun A2 n2 c2 hc2 hn => ?_⟩
  have e := c1.symm.trans hc2
  injection e with e
  injection e with _ e _
  rw [Int.natAbs_zero, qdigs_0] at e
  simp at e
  omega
theorem QFree.below {w w' : World} {B g : Nat} {x : Int} {r : Option Nat} (h : QFree w g r) (hQ : QAt w B g x) (hb : Below w.heap.size w w') : QFree w' g r := by
  refine ⟨h.1, fun A n c hc => h.2 A n c ?_⟩
  obtain ⟨A2, c2, c1, _⟩ := hQ.wds
  have e := below_cell hb hQ.lt c1
  rw [c1, ← e]; exact hc
theorem QAt.grown {w w' : World} {B g : Nat} {x : Int} {r : Option Nat} (h : QAt w B g x) (hf : QFree w g r) (hg : w.grownBy w' r) : QAt w' B g x ∧ ∀ r', QFree w g r' → QFree w' g r' := by
  obtain ⟨A, c, c1, hr, hne, hc⟩ := h.wds
  have c1' := hg.cell c1 (fun e => hf.1 e.symm)
  refine ⟨⟨h.gB, hg.cell h.c0 (fun e => hf.1 e.symm), fun o => ?_, A, c, c1', ⟨hr.1, fun hn => ?_⟩, hne, hc⟩, fun r' hf' => ⟨hf'.1, fun A2 n2 c2 hc2 => hf'.2 A2 n2 c2 (by rw [c1, ← c1']; exact hc2)⟩⟩
  · have y := hg.block g h.lt (fun e => hf.1 e.symm)
    have := h.fr o
    rw [← this]; unfold World.frozen?; simp only [y]
  · obtain ⟨b, off, e1, hcs⟩ := hr.2 hn
    exact ⟨b, off, e1, fun i j u hi hu => hg.cell (hcs i j u hi hu) (hf.2 A _ c c1 hn b off _ e1)⟩
theorem QFree.new {w : World} {B g q : Nat} {x : Int} (h : QAt w B g x) (hq : w.heap.size ≤ q) : QFree w g (some q) := by
  obtain ⟨A, c, c1, hr, hne, hc⟩ := h.wds
  refine ⟨fun e => by injection e with e; have := h.lt; omega, fun A2 n2 c2 hc2 hn a o s hA e => ?_⟩
  have e2 := c1.symm.trans hc2
  injection e2 with e2
  injection e2 with e3 e4 _
  obtain ⟨b, off, e1, hcs⟩ := hr.2 (by omega)
  rw [← e3, e1] at hA
  injection hA with hA
  injection hA with hA _ _
  have hl := hr.1
  have hcell := hcs 0 0 (.int .u32 ((qdigs x.natAbs)[0]'(by omega))) (by omega) rfl
  have := World.block_lt_of_cell? _ _ hcell
  injection e with e
  simp only at this
  omega

set_option maxHeartbeats 4000000 in
set_option maxRecDepth 100000 in
theorem qSub_frame {w : World} {B By g gy : Nat} {x y : Int} (hX : QAt w B g x) (hY : QAt w By gy y) (hB : B ≤ w.heap.size) (hx : x.natAbs < 79228162514264337593543950336) (hy : y.natAbs < 79228162514264337593543950336) :
    Calls Tryz.prog 31 #[.pointer (some ⟨g, 0, none⟩), .pointer (some ⟨g, 0, none⟩), .pointer (some ⟨gy, 0, none⟩)] w
      fun e w' => e = .returned (.pointer (some ⟨g, 0, none⟩)) ∧ QAt w' B g (x - y) ∧ Below B w w' ∧ w.grownBy w' (some g) ∧ (∀ r : Option Nat, r ≠ some g → (∀ q, r = some q → q < w.heap.size) → QFree w' g r) := by
  have c0 := hX.c0
  obtain ⟨A, c, c1, ha, hne, hc⟩ := hX.wds
  have d0 := hY.c0
  obtain ⟨YA, d, d1, hb, hne2, hd⟩ := hY.wds
  have hn := qdigs_3 hx
  have hm := qdigs_3 hy
  have hSum := qsum_any (decide (x < 0)) (!decide (y < 0)) x.natAbs y.natAbs A YA _ c _ d w.drew (ha.below (bdrewN (Below.refl _ w) 1)) (hb.below (bdrewN (Below.refl _ w) 1)) (by omega) (by omega)
  rw [sgn_of, sgn_not, sgn_of, ← Int.sub_eq_add_neg] at hSum
  have HS := hide hSum
  have hgl : g < w.drew.heap.size := hX.lt
  have hgyl : gy < w.drew.heap.size := hY.lt
  clear hSum hx hy ha hb
  obtain ⟨bx, hbx⟩ : ∃ bx, bx = decide (x < 0) := ⟨_, rfl⟩
  obtain ⟨bY, hbY⟩ : ∃ bY, bY = decide (y < 0) := ⟨_, rfl⟩
  rw [← hbx] at c0 HS
  rw [← hbY] at d0 HS
  clear hbx hbY
  go_enter Tryz.func31, Tryz.ntmps31
  go_wp2_with fail
  go_region_law (first
      | (go_simp; go_at_call 53; refine HS.out.mono ?_; rintro e w1 ⟨s, M, g1, c', rfl, hsg, hr, hle, hg1, hb1⟩; have k0 := below_cell hb1 hgl c0; have k1 := below_cell hb1 hgl c1; have k2 := below_cell hb1 hgyl d0; have k3 := below_cell hb1 hgyl d1)
      | (go_simp; go_at_call 50; refine (qgive_any s _ g c' _ _ _ _ rfl rfl k0 k1 (fun o => (hb1.frozen (p := ⟨g, o, none⟩) hgl).trans (hX.fr o))).mono ?_; rintro e w2 ⟨rfl, k, rfl⟩))
  all_goals
    go_wp2_with fail
    go_ret
    have hbw : Below w.heap.size w w1 := (bdrewN (Below.refl _ w) 1).trans hb1
    have hQ := QAt.put (neg := s) hX.gB k0 k1 (fun o => (hb1.frozen (p := ⟨g, o, none⟩) hgl).trans (hX.fr o)) hr (fun a o z e => by injection e with e; injection e with e; have : g < w.heap.size := hgl; have : w.heap.size ≤ g1 := hg1; omega) hle
    unfold sgn at hsg
    rw [hsg] at hQ
    refine ⟨rfl, hQ.below (bdrewN (Below.refl _ _) k), bdrewN (((hbw.mono hB).setCell hX.gB _).setCell hX.gB _) k, ?_, ?_⟩
    · exact only_drewN (only_setCell (only_setCell ⟨hbw.os, hbw.tape, hbw.output, hbw.size, fun i hi _ => hbw.block i hi⟩ _ _) _ _) k
    · intro r hr1 hr2
      refine ⟨hr1, fun A2 n2 c2 hc2 _ a o z hA e => ?_⟩
      have hgl' : g < w.heap.size := hgl
      have hg1' : w.heap.size ≤ g1 := hg1
      have hce : ((w1.setCell ⟨g, 1, none⟩ (.slice (some ⟨g1, 0, none⟩) (qdigs M).length c')).setCell ⟨g, 0, none⟩ (.bool (s && decide (0 < (qdigs M).length)))).cell? ⟨g, 1, none⟩ = some (.slice (some ⟨g1, 0, none⟩) (qdigs M).length c') := by
        rw [World.cell?_setCell_other _ _ _ _ (by simp), World.cell?_setCell_same _ _ _ k1]
      have hc3 := hce.symm.trans (show _ = some (Value.slice A2 n2 c2) from hc2)
      injection hc3 with hc3
      injection hc3 with hc4 _ _
      rw [← hc4] at hA
      injection hA with hA
      injection hA with hA _ _
      have := hr2 a e.symm
      omega

end Go.Proofs.YtfkhcdcmcplfoaaGreatDoor
