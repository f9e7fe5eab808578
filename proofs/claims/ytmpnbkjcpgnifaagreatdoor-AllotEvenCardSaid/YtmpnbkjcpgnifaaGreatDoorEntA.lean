/- slices.Clone over lines; entry.grouped: what is alike together, in order. -/
import Derived.Test.YtmpnbkjcpgnifaaGreatDoorSortA
import Derived.Maps.AppendAt
import Derived.WalkSpells
namespace Go.Proofs.YtmpnbkjcpgnifaaGreatDoor
open Go Go.RowKit
set_option linter.unusedVariables false

def zeroLine : Value := .agg #[.string ⟨#[]⟩, .string ⟨#[]⟩, .int .i64 0]
theorem line_info : (Tryz.prog.info? 42).map (fun i => (i.zero, i.size, i.bytes)) = some (some zeroLine, 3, 40) := by kernel_rfl

theorem Own.empty (w : World) (B e sz : Nat) {α : Type} (enc : α → List Value) (hB : B ≤ w.heap.size) : Own (w.alloc (.cells #[] e)) B e sz enc (.slice (some ⟨w.heap.size, 0, none⟩) 0 0) ([] : List α) := by
  refine ⟨by simp, .inr ⟨w.heap.size, 0, #[], rfl, hB, by rw [heap_alloc_new], by simp, by unfold maxLen; omega, by simp, by simp⟩⟩

end Go.Proofs.YtmpnbkjcpgnifaaGreatDoor
