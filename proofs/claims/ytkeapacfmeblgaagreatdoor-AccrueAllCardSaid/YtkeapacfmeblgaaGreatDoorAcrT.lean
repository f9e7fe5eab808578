/- strconv.Itoa, its table being listed among what is laid. -/
import Derived.Test.YtkeapacfmeblgaaGreatDoorShelf
import Derived.Test.YtkeapacfmeblgaaGreatDoorRows
import Derived.Test.YtkeapacfmeblgaaGreatDoorOwn
import Derived.Lib.LaidTab
import Derived.Lib.ItoaLen
import Derived.Lib.AppendIntMem
namespace Go.Proofs.YtkeapacfmeblgaaGreatDoor
open Go Go.RowKit
set_option linter.unusedVariables false

theorem laid_plain {P : Program} {l : List (String × DataW Unit)} {w : World} (h : laidMetH P l w) (he : (l.filter fun x => x.2.handleName?.isSome) = []) : laidMet P l w := by
  unfold laidMetH at h
  rw [he] at h
  exact h
theorem laid_third {P : Program} {W : World} {an bn n : String} {ad bd d : DataW Unit} {r : List (String × DataW Unit)} {ps : List MemPlace} (h : DataW.LaidVars P W ((an, ad) :: (bn, bd) :: (n, d) :: r) ps) :
    ∃ g t cs fuel p, P.globalNamed n = some g ∧ (P.globals[g]?).map (·.type) = some t ∧ W.var? P n = some cs ∧ DataW.trod (fun _ => ()) P W 0 (fun _ => true) false fuel t cs.toList = some (d, p) := by
  obtain ⟨_, _, _, _, _, _, _, _, _, _, h1, _⟩ := h
  obtain ⟨_, _, _, _, _, _, _, _, _, _, h2, _⟩ := h1
  obtain ⟨g, t, cs, fuel, p, q, h3, h4, h5, h6, _⟩ := h2
  exact ⟨g, t, cs, fuel, p, h3, h4, h5, h6⟩
theorem itoa_laid {W : World} (hL : laidMetH Tryz.prog Rows.accrueAllRow.laid W) (n : Int) (h0 : -9223372036854775808 ≤ n) (h1 : n ≤ 9223372036854775807) :
    Hid (∀ W' : World, Below W.heap.size W W' → Calls Tryz.prog 12 #[.int .i64 n] W' fun e w' => e = .returned (.string ⟨(Lib.itoa n).toArray⟩) ∧ Below W'.heap.size W' w') := by
  obtain ⟨ps, hv, _⟩ := laid_plain hL (by kernel_rfl)
  obtain ⟨g, t, cs, fuel, p, h3, h4, h5, h6⟩ := laid_third hv
  obtain rfl : g = 0 := Option.some.inj (h3.symm.trans (by kernel_rfl))
  obtain rfl : t = 120 := Option.some.inj (h4.symm.trans (by kernel_rfl))
  have hc := Lib.cells_of_tab (k := .u64) (zs := Lib.pow10Tab) Tryz.underlying120 Tryz.underlying68 (by kernel_rfl) (by kernel_rfl) h6
  have hT : Lib.TabIs Tryz.prog W _ .u64 Lib.pow10Tab := h5.trans (congrArg some (by rw [← hc]))
  intro W' hb
  refine (Tryz.strconv_Itoa n h0 h1 W' (Lib.tabBelow_of_tabIs hT W' hb)).mono ?_
  rintro e w' ⟨rfl, k, os, rfl⟩
  exact ⟨rfl, Lib.below_grow _ _ (Nat.le_refl _) k os⟩
theorem itoa_size (n : Int) (h0 : -9223372036854775808 ≤ n) (h1 : n ≤ 9223372036854775807) : (⟨(Lib.itoa n).toArray⟩ : ByteArray).size ≤ 21 := by
  have := Lib.itoa_length_le n h0 h1
  simpa [ByteArray.size] using this
end Go.Proofs.YtkeapacfmeblgaaGreatDoor
