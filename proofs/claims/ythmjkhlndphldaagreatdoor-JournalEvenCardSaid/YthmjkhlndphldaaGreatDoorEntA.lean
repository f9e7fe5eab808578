/- slices.Clone over lines; entry.grouped: what is alike together, in order. -/
import Derived.Test.YthmjkhlndphldaaGreatDoorSortC
import Derived.Maps.AppendAt
import Derived.WalkSpells
namespace Go.Proofs.YthmjkhlndphldaaGreatDoor
open Go Go.RowKit
set_option linter.unusedVariables false

def zeroLine : Value := .agg #[.string ⟨#[]⟩, .string ⟨#[]⟩, .int .i64 0]
theorem line_info : (Tryz.prog.info? 35).map (fun i => (i.zero, i.size, i.bytes)) = some (some zeroLine, 3, 40) := by kernel_rfl

theorem Own.empty (w : World) (B e sz : Nat) {α : Type} (enc : α → List Value) (hB : B ≤ w.heap.size) : Own (w.alloc (.cells #[] e)) B e sz enc (.slice (some ⟨w.heap.size, 0, none⟩) 0 0) ([] : List α) := by
  refine ⟨by simp, .inr ⟨w.heap.size, 0, #[], rfl, hB, by rw [heap_alloc_new], by simp, by unfold maxLen; omega, by simp, by simp⟩⟩

set_option maxRecDepth 100000 in
theorem clone_lines (l : List Line) (A : Option Addr) (n c : Nat) (w : World) (h : Rd w 3 lineEnc A n l) (hn : n ≤ 20) (hA : A = none → c = 0) :
    Calls Tryz.prog 77 #[.slice A n c] w fun e w' => ∃ v, e = .returned v ∧ Own w' w.heap.size 35 3 lineEnc v l ∧ Below w.heap.size w w' := by
  obtain ⟨i0, hi0, hz0, hz1, hz2⟩ := info_parts line_info
  have Hn := hide h.1
  have q := fun (w : World) (a : Option Addr) (n c n' c' : Nat) => Lib.run_eql_slice_nil (P := Tryz.prog) w 23 _ a n c n' c' Tryz.underlying23
  cases A with
  | none =>
    have hn0 : n = 0 := by
      rcases Nat.eq_zero_or_pos n with h0 | h0
      · exact h0
      · obtain ⟨b, off, h', _⟩ := h.2 h0; cases h'
    subst hn0
    have hl0 : l = [] := List.eq_nil_of_length_eq_zero h.1
    subst hl0
    clear Hn
    go_enter Tryz.func77, Tryz.ntmps77
    go_wp2_with fail
    go_ret
    exact ⟨_, rfl, Own.nil _ _ _ _ _, Below.refl _ _⟩
  | some ad =>
    go_enter Tryz.func77, Tryz.ntmps77
    go_wp2_with (first | (at_builtin; go_loud (refine wpList_push _ rfl _ _ 23 rfl w.heap.size 35 i0 zeroLine 3 40 Tryz.underlying23 hi0 hz0 hz1 hz2 rfl (by decide) lineEnc_ok _ [] rfl (Own.empty _ _ _ _ _ (Nat.le_refl _)) _ n c l rfl (Rd.below h ((Below.refl _ _).alloc (Nat.le_refl _) _)) (by intro h; cases h) (by simp only [maxLen, List.length_nil]; omega) (by simp only [List.length_nil]; omega) (by simp) ?_); intro v' w2 hown2 hg2 hat2))
    go_ret
    refine ⟨_, rfl, ?_, ((Below.refl _ _).alloc (Nat.le_refl _) _).grown hg2 (by simp) (fun k e => by (have : some w.heap.size = some k := e); (injection this with this); omega)⟩
    simpa using hown2

/-- entry.Compare of two lines, said with worlds below -/
theorem compare_below (x y : Line) (W : World) :
    Calls Tryz.prog 122 #[.agg #[.string x.acc, .string x.cur, .int .i64 x.amt], .agg #[.string y.acc, .string y.cur, .int .i64 y.amt]] W
      fun e w' => e = .returned (.int .i64 (cmpL x y)) ∧ Below W.heap.size W w' := by
  refine (compare_line x y W).mono fun e w' ⟨he, q, os, hw⟩ => ⟨he, ?_⟩
  subst hw
  refine ⟨rfl, rfl, rfl, ?_, fun i hi => ?_⟩
  · show W.heap.size ≤ (W.heap ++ os).size
    simp
  · show (W.heap ++ os)[i]? = _
    rw [Array.getElem?_append_left hi]
end Go.Proofs.YthmjkhlndphldaaGreatDoor
