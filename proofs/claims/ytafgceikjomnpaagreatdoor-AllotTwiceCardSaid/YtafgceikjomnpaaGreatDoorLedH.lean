/- slices.Grow of nothing, slices.Concat of two: over balances. -/
import Derived.Test.YtafgceikjomnpaaGreatDoorLedY
import Derived.Lib.AppendZerosOnto
namespace Go.Proofs.YtafgceikjomnpaaGreatDoor
open Go Go.RowKit
set_option linter.unusedVariables false

set_option maxRecDepth 100000 in
theorem growB_nil (n : Nat) (hn : n ≤ 2000) (w : World) :
    Calls Tryz.prog 38 #[.slice none 0 0, .int .i64 n] w fun e w' => ∃ v, e = .returned v ∧ Own w' w.heap.size 36 4 balEnc v ([] : List Bal) ∧ Below w.heap.size w w' := by
  obtain ⟨i0, hi0, hz0, hz1, hz2⟩ := info_parts bal_info
  rcases Nat.eq_zero_or_pos n with rfl | hp
  · go_enter Tryz.func38, Tryz.ntmps38
    go_wp2_with fail
    go_ret
    exact ⟨_, rfl, Own.nil _ _ _ _ _, Below.refl _ _⟩
  · have h1 : ¬ ((n : Int) < 0) := by omega
    have h4 : (0 : Int) < (n : Int) := by omega
    have hw : IntKind.i64.wrap (n : Int) = (n : Int) := IntWalk.i64_in _ (by omega)
    have hrz : ∀ ty, (Builtin.append_ #[24, 3] ty #[.slice none 0 0, .int .i64 (n : Int)]).run Tryz.prog w =
        .ok (.slice (some ⟨w.heap.size, 0, none⟩) n (grownCap w n 0 36)) (w.drew.alloc (.cells (#[] ++ Builtin.zeroCells zeroBal.cells n ++ Builtin.zeroCells zeroBal.cells (grownCap w n 0 36 - n)) 36)) := fun ty => by
      have h := Lib.run_append_grow_zeros w 24 3 ty 36 i0 zeroBal .i64 .i64 Tryz.underlying24 Tryz.underlying3 hi0 hz0 none 0 0 [] (run_firstCells_none w.drew i0.size 0 0 0) n hp (by omega) (by omega) (by omega) (by rw [hz2]; omega)
        (by rw [hz2]; exact growslice_fits (by omega) (by omega))
      simpa using h
    have hG := grownCap_ge w n 0 36
    have hGm := grownCap_le_maxLen w n 0 36 (by unfold maxLen; omega)
    generalize grownCap w n 0 36 = G at hrz hG hGm
    have hG63 : G ≤ 9223372036854775807 := hGm
    have hown : Own (w.drew.alloc (.cells (#[] ++ Builtin.zeroCells zeroBal.cells n ++ Builtin.zeroCells zeroBal.cells (G - n)) 36)) w.heap.size 36 4 balEnc (.slice (some ⟨w.heap.size, 0, none⟩) 0 G) ([] : List Bal) := by
      refine ⟨rfl, .inr ⟨w.heap.size, G, #[] ++ Builtin.zeroCells zeroBal.cells n ++ Builtin.zeroCells zeroBal.cells (G - n), rfl, Nat.le_refl _, ?_, Nat.zero_le _, hGm, ?_, by simp⟩⟩
      · exact (MapKept.heap_alloc w.drew _).1
      · have hz : zeroBal.cells.size = 4 := rfl
        simp only [Array.size_append, size_zeroCells, hz, Array.size_empty]
        omega
    have hbel : Below w.heap.size w (w.drew.alloc (.cells (#[] ++ Builtin.zeroCells zeroBal.cells n ++ Builtin.zeroCells zeroBal.cells (G - n)) 36)) := (bdrewN (Below.refl _ w) 1).alloc (Nat.le_refl _) _
    generalize w.drew.alloc (.cells (#[] ++ Builtin.zeroCells zeroBal.cells n ++ Builtin.zeroCells zeroBal.cells (G - n)) 36) = W1 at hrz hown hbel
    go_enter Tryz.func38, Tryz.ntmps38
    go_wp2_with (first | (at_builtin; go_loud (refine Lib.wpList_append_run _ rfl _ _ _ _ rfl _ _ rfl rfl _ _ (hrz _) ?_)))
    go_ret
    exact ⟨_, rfl, hown, hbel⟩

set_option maxHeartbeats 1000000 in
set_option maxRecDepth 100000 in
theorem concat_any (a b : List Bal) (g an ac bn bc : Nat) (A BA : Option Addr) (w : World) (h0 : w.cell? ⟨g, 0, none⟩ = some (.slice A an ac)) (h1 : w.cell? ⟨g, 1, none⟩ = some (.slice BA bn bc)) (han : an ≤ 1000) (hbn : bn ≤ 1000)
    (ha : Rd w 4 balEnc A an a) (hb : Rd w 4 balEnc BA bn b) (hA : A = none → ac = 0) (hB : BA = none → bc = 0) :
    Calls Tryz.prog 17 #[.slice (some ⟨g, 0, none⟩) 2 2] w fun e w' => ∃ v, e = .returned v ∧ Own w' w.heap.size 36 4 balEnc v (a ++ b) ∧ Below w.heap.size w w' := by
  obtain ⟨i0, hi0, hz0, hz1, hz2⟩ := info_parts bal_info
  have hgl : g < w.heap.size := World.block_lt_of_cell? _ _ h0
  have hw1 : IntKind.i64.wrap (an : Int) = (an : Int) := IntWalk.i64_in _ (by omega)
  have hw2 : IntKind.i64.wrap ((an : Int) + (bn : Int)) = (an : Int) + (bn : Int) := IntWalk.i64_in _ (by omega)
  have hn1 : ¬ ((an : Int) < 0) := by omega
  have hn2 : ¬ ((an : Int) + (bn : Int) < 0) := by omega
  have Ha := hide ha.1
  have Hb := hide hb.1
  have hGr := fun W => growB_nil (an + bn) (by omega) W
  rw [Int.natCast_add] at hGr
  go_enter Tryz.func17, Tryz.ntmps17
  go_wp2_with fail
  refine wp_loop_rounds 3 ?_
  rw [rounds_succ]
  go_wp2_with fail
  rw [rounds_succ]
  go_wp2_with fail
  rw [rounds_succ]
  go_wp2_with fail
  refine (hGr w).mono ?_
  rintro e w1 ⟨v1, rfl, hown1, hb1⟩
  have d0 := below_cell hb1 hgl h0
  have d1 := below_cell hb1 hgl h1
  have hgl1 : g < w1.heap.size := Nat.lt_of_lt_of_le hgl hb1.size
  have tok1 : True := trivial
  have hA := hide hA
  have hB := hide hB
  go_wp2_with fail
  refine wp_loop_rounds 3 ?_
  rw [rounds_succ]
  go_wp2_with (first | (at_builtin; (have _t := tok1); go_loud (refine wpList_push _ rfl _ _ 24 rfl w.heap.size 36 i0 zeroBal 4 48 Tryz.underlying24 hi0 hz0 hz1 hz2 rfl (by decide) balEnc_ok _ ([] : List Bal) rfl hown1 _ an ac a rfl (ha.below hb1) hA.out (by simp only [maxLen, List.length_nil]; omega) (by simp only [List.length_nil]; omega) hb1.size ?_); clear tok1; intro v2 w2 hown2 hg2 hat2; rw [List.nil_append] at hown2; have hb2 := hb1.grown hg2 hb1.size (fun k e => (hown1.block k e).1); have f1 := below_cell hb2 hgl h1; clear hown1))
  have hlen : a.length = an := Ha.out
  rw [rounds_succ]
  go_wp2_with (first | (at_builtin; go_loud (refine wpList_push _ rfl _ _ 24 rfl w.heap.size 36 i0 zeroBal 4 48 Tryz.underlying24 hi0 hz0 hz1 hz2 rfl (by decide) balEnc_ok _ a rfl hown2 _ bn bc b rfl (hb.below hb2) hB.out (by simp only [maxLen]; omega) (by omega) hb2.size ?_); intro v3 w3 hown3 hg3 hat3; have hb3 := hb2.grown hg3 hb2.size (fun k e => (hown2.block k e).1)))
  rw [rounds_succ]
  go_wp2_with fail
  go_ret
  exact ⟨_, rfl, hown3, hb3⟩
end Go.Proofs.YtafgceikjomnpaaGreatDoor
