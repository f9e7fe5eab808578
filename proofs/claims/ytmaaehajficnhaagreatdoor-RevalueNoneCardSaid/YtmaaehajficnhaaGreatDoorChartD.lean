/- chart.below, chart.Under, chart.Find: what each returns. -/
import Derived.Test.YtmaaehajficnhaaGreatDoorChartC
namespace Go.Proofs.YtmaaehajficnhaaGreatDoor
open Go Go.RowKit
set_option linter.unusedVariables false

/-- block g is n booleans, the function f's -/
def BRow (w : World) (g n : Nat) (f : Nat → Bool) : Prop := w.heap[g]? = some (.cells ((List.range n).map fun j => Value.bool (f j)).toArray 4 (0, 0))

section
variable {w w' : World} {g n : Nat} {f : Nat → Bool}
theorem BRow.lt (h : BRow w g n f) : g < w.heap.size := by
  rcases Nat.lt_or_ge g w.heap.size with hlt | hge
  · exact hlt
  · unfold BRow at h; rw [Array.getElem?_eq_none hge] at h; cases h
theorem BRow.cell (h : BRow w g n f) (j : Nat) (hj : j < n) : w.cell? ⟨g, j, none⟩ = some (.bool (f j)) := by
  rw [cell_of_row w g j _ _ (0, 0) h]
  simp [hj]
theorem BRow.frozen (h : BRow w g n f) (j : Nat) : w.frozen? ⟨g, j, none⟩ = false := frozen_of_row w g j _ _ h
theorem BRow.below (h : BRow w g n f) (hb : Below w.heap.size w w') : BRow w' g n f := (hb.block g h.lt).trans h
theorem BRow.drew (h : BRow w g n f) : BRow w.drew g n f := h
theorem BRow.drewN (h : BRow w g n f) (k : Nat) : BRow (w.drewN k) g n f := h
theorem BRow.set_ (h : BRow w g n f) (k : Nat) (b : Bool) : BRow (w.setCell ⟨g, k, none⟩ (.bool b)) g n (fun j => if j = k then b else f j) := by
  unfold BRow at h ⊢
  rw [heap_setCell_same w g k _ _ _ h]
  congr 2
  apply Array.ext
  · simp
  · intro j h1 h2
    by_cases e : k = j
    · subst e; simp
    · have e' : ¬ j = k := fun h => e h.symm
      simp [e, e']
end

theorem madeCells_one (z : Value) (n : Nat) : madeCells #[z] n = Array.replicate n z := by
  apply Array.toList_inj.1
  rw [toList_madeCells_one, Array.toList_replicate]
/-- behind m rounds of chart.below: which accounts are known to be under i -/
def belTo (l : List Acc) (i : Nat) : Nat → Nat → Bool
  | 0, j => j == i
  | m + 1, j => if j = i + 1 + m then (match l[i + 1 + m]? with
      | some a => (match idxO (l.take (i + 1 + m)) a.parent with | some p => belTo l i m p | none => false)
      | none => false) else belTo l i m j

theorem bel_step {l : List Acc} {i k : Nat} (h : i + 1 ≤ k) (hk : k < l.length) : belTo l i (k + 1 - i - 1) = fun j => if j = k then (match idxO (l.take k) l[k].parent with | some p => belTo l i (k - i - 1) p | none => false) else belTo l i (k - i - 1) j := by
  obtain ⟨m, rfl⟩ : ∃ m, k = i + 1 + m := ⟨k - i - 1, by omega⟩
  rw [show i + 1 + m + 1 - i - 1 = m + 1 from by omega, show i + 1 + m - i - 1 = m from by omega]
  funext j
  rw [belTo, List.getElem?_eq_getElem hk]
theorem init_row (n i : Nat) : (Array.replicate n (Value.bool false)).setIfInBounds i (.bool true) = ((List.range n).map fun j => Value.bool (j == i)).toArray := by
  apply Array.toList_inj.1
  rw [Array.toList_setIfInBounds, Array.toList_replicate]
  apply List.ext_getElem?
  intro j
  rw [List.getElem?_set, List.getElem?_map]
  by_cases e : i = j
  · subst e
    by_cases h : i < n <;> simp [h]
  · have e' : ¬ j = i := fun h => e h.symm
    by_cases h : j < n
    · simp [e, h, e']
    · simp [e, h]
theorem bool_info : (Tryz.prog.info? 4).map (fun i => (i.zero, i.size, i.bytes)) = some (some (.bool false), 1, 1) := by kernel_rfl

theorem run_mk (t e : TypeId) (i : TypeInfo) (z : Value) (ht : Tryz.prog.underlying t = some (.slice e)) (hi : Tryz.prog.info? e = some i) (hz : i.zero = some z) (n : Nat) (hb : i.bytes * n ≤ 281474976710656) (h63 : n ≤ 9223372036854775807) (w : World) :
    (Instr.makeSlice t (.int .i64 (n : Int)) (.int .i64 (n : Int))).run Tryz.prog w = .ok (.slice (some ⟨w.heap.size, 0, none⟩) n n) (w.alloc (.cells (madeCells z.cells (n * i.size)) e)) := by
  have hr := run_make (P := Tryz.prog) w t e i z ht hi hz .i64 .i64 n n (by omega) (by omega) (by rw [← Int.natCast_mul]; omega) (by omega)
  simp only [Int.toNat_natCast] at hr
  exact hr

end Go.Proofs.YtmaaehajficnhaaGreatDoor
