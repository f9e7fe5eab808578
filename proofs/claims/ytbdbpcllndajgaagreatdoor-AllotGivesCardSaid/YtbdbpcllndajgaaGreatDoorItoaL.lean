/- strconv.Itoa, its table being among what is laid (any row, handles or none). -/
import Derived.Test.YtbdbpcllndajgaaGreatDoorShelf
import Derived.Test.YtbdbpcllndajgaaGreatDoorRows
import Derived.Test.YtbdbpcllndajgaaGreatDoorOwn
import Derived.Lib.LaidTab
import Derived.Lib.ItoaLen
import Derived.Lib.AppendIntMem
namespace Go.Proofs.YtbdbpcllndajgaaGreatDoor
open Go Go.RowKit
set_option linter.unusedVariables false

theorem laid_parts {P : Program} {l : List (String × DataW Unit)} {w : World} (h : laidMetH P l w) : laidMet P (l.filter fun x => x.2.handleName?.isNone) w := by
  unfold laidMetH at h
  generalize hfl : (l.filter fun x => x.2.handleName?.isSome) = fl at h
  cases fl with
  | nil =>
    have e : (l.filter fun x => x.2.handleName?.isNone) = l := by
      apply List.filter_eq_self.2
      intro x hx
      cases hn : x.2.handleName? with
      | none => rfl
      | some y =>
        have hm : x ∈ l.filter fun x => x.2.handleName?.isSome := List.mem_filter.2 ⟨hx, by rw [hn]; rfl⟩
        rw [hfl] at hm
        cases hm
    rw [e]
    exact h
  | cons a rest => exact h.1
theorem laid_mem {P : Program} {W : World} {n : String} {d : DataW Unit} : ∀ {l : List (String × DataW Unit)} {ps : List MemPlace}, DataW.LaidVars P W l ps → (n, d) ∈ l →
    ∃ g t cs fuel p, P.globalNamed n = some g ∧ (P.globals[g]?).map (·.type) = some t ∧ W.var? P n = some cs ∧ DataW.trod (fun _ => ()) P W 0 (fun _ => true) false fuel t cs.toList = some (d, p)
  | [], _, _, hm => by cases hm
  | (a, b) :: r, ps, h, hm => by
    obtain ⟨g, t, cs, fuel, p, q, h3, h4, h5, h6, h7, _⟩ := h
    rcases List.mem_cons.1 hm with e | e
    · injection e with e1 e2
      subst e1 e2
      exact ⟨g, t, cs, fuel, p, h3, h4, h5, h6⟩
    · exact laid_mem h7 e
theorem itoa_laidL {laid : List (String × DataW Unit)} {W : World} (hL : laidMetH Tryz.prog laid W) (hx : ("internal/strconv.uint64pow10", Rows.laid_internal_strconv_uint64pow10) ∈ laid) (n : Int) (h0 : -9223372036854775808 ≤ n) (h1 : n ≤ 9223372036854775807) :
    Hid (∀ W' : World, Below W.heap.size W W' → Calls Tryz.prog 26 #[.int .i64 n] W' fun e w' => e = .returned (.string ⟨(Lib.itoa n).toArray⟩) ∧ Below W'.heap.size W' w') := by
  obtain ⟨ps, hv, _⟩ := laid_parts hL
  obtain ⟨g, t, cs, fuel, p, h3, h4, h5, h6⟩ := laid_mem hv (List.mem_filter.2 ⟨hx, rfl⟩)
  obtain rfl : g = 1 := Option.some.inj (h3.symm.trans (by kernel_rfl))
  obtain rfl : t = 222 := Option.some.inj (h4.symm.trans (by kernel_rfl))
  have hc := Lib.cells_of_tab (k := .u64) (zs := Lib.pow10Tab) Tryz.underlying222 Tryz.underlying142 (by kernel_rfl) (by kernel_rfl) h6
  have hT : Lib.TabIs Tryz.prog W _ .u64 Lib.pow10Tab := h5.trans (congrArg some (by rw [← hc]))
  intro W' hb
  refine (Tryz.strconv_Itoa n h0 h1 W' (Lib.tabBelow_of_tabIs hT W' hb)).mono ?_
  rintro e w' ⟨rfl, k, os, rfl⟩
  exact ⟨rfl, Lib.below_grow _ _ (Nat.le_refl _) k os⟩
theorem itoa_sizeL (n : Int) (h0 : -9223372036854775808 ≤ n) (h1 : n ≤ 9223372036854775807) : (⟨(Lib.itoa n).toArray⟩ : ByteArray).size ≤ 21 := by
  have := Lib.itoa_length_le n h0 h1
  simpa [ByteArray.size] using this
theorem itoa_pos (n : Int) (h0 : 1 ≤ n) : (⟨(Lib.itoa n).toArray⟩ : ByteArray) = ⟨(Lib.decDigits n.toNat).toArray⟩ := by
  unfold Lib.itoa
  rw [if_neg (by omega)]
end Go.Proofs.YtbdbpcllndajgaaGreatDoor
