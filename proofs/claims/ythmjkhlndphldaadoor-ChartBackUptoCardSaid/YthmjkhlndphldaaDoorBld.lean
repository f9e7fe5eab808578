/- chart.Print: what it returns. -/
import Derived.Test.YthmjkhlndphldaaDoorPrintA
import Derived.Deep.RegionHeld3
import Derived.Deep.Heap
import Derived.Deep.RegionWith
import Derived.Deep.DeepFit
namespace Go.Proofs.YthmjkhlndphldaaDoor
open Go Go.RowKit Go.Shelf
set_option linter.unusedVariables false

theorem or_yes (s : ByteArray) (w : World) (h : s.toList.isEmpty = true) : Calls Tryd.prog 46 #[.string s] w fun e w' => e = .returned (.string ⟨#[45]⟩) ∧ w = w' := by
  go_enter Tryd.func46, Tryd.ntmps46
  go_wp2_with fail
  go_ret
  exact ⟨rfl, rfl⟩
theorem or_no (s : ByteArray) (w : World) (h : s.toList.isEmpty = false) : Calls Tryd.prog 46 #[.string s] w fun e w' => e = .returned (.string s) ∧ w = w' := by
  go_enter Tryd.func46, Tryd.ntmps46
  go_wp2_with fail
  go_ret
  exact ⟨rfl, rfl⟩
theorem or_any (s : ByteArray) (w : World) : Calls Tryd.prog 46 #[.string s] w fun e w' => e = .returned (.string ⟨(parB s).toArray⟩) ∧ w = w' := by
  cases h : s.toList.isEmpty with
  | true => exact (or_yes s w h).mono fun e w' ⟨he, hw⟩ => ⟨by rw [he, parB, if_pos h], hw⟩
  | false => exact (or_no s w h).mono fun e w' ⟨he, hw⟩ => ⟨by rw [he, parB, if_neg (by simp [h])], hw⟩

theorem bat_below {T e : TypeId} {B b : Nat} {p : Value} {bs : List Value} {w w' : World} (h : Lib.BuilderAt T e B b p bs w) (hb : Below w.heap.size w w') : Lib.BuilderAt T e B b p bs w' := by
  have hlt := h.lt
  obtain ⟨hB, v, hv, hown, hne⟩ := h
  refine ⟨hB, v, (hb.block b hlt).trans hv, ?_, hne⟩
  refine World.ownsRow.kept (row := none) hown ⟨hb.os, hb.tape, hb.output, hb.size, fun i hi _ => hb.block i hi⟩ ?_
  cases hv : v.ownBlock with
  | none => exact .inl rfl
  | some k => exact .inr (by simp)
theorem bld_below {T e : TypeId} {B b : Nat} {bs : List Value} {w w' : World} (h : Lib.IsBuilder T e B b bs w) (hb : Below w.heap.size w w') : Lib.IsBuilder T e B b bs w' := by
  rcases h with h | h
  · exact .inl (bat_below h hb)
  · exact .inr (bat_below h hb)

theorem bcc (B b : Nat) (bs : List Value) (w : World) (h : Lib.IsBuilder 88 5 B b bs w) :
    Calls Tryd.prog 77 #[.pointer (some ⟨b, 0, none⟩)] w fun e w' => e = .returned (.tuple #[]) ∧ Lib.BuilderAt 88 5 B b (.pointer (some ⟨b, 0, none⟩)) bs w' ∧ Below B w w' ∧ w'.heap.size = w.heap.size ∧ w'.cell? ⟨b, 1, none⟩ = w.cell? ⟨b, 1, none⟩ ∧ ∀ i, i ≠ b → w'.heap[i]? = w.heap[i]? := by
  rcases h with h | h
  · refine (Any.Builder_copyCheck_fresh (P := Tryd.prog) (ρ := Tryd.lays156_ren) { Tryd.lays156 with } Tryd.Builder_Extra_156.toX72 b w h.cell0 h.shape h.frozen0).mono ?_
    rintro e w' ⟨rfl, rfl⟩
    refine ⟨rfl, h.used _, (Below.refl B w).setCell (p := ⟨b, 0, none⟩) h.1 _, by simp, ?_, fun i hi => ?_⟩
    · exact World.cell?_setCell_other _ _ _ _ (by simp)
    exact Go.Deep.blk_setCell_other _ _ _ _ hi
  · refine (Any.Builder_copyCheck_used (P := Tryd.prog) (ρ := Tryd.lays156_ren) { Tryd.lays156 with } Tryd.Builder_Extra_156.toX72 b w h.cell0).mono ?_
    rintro e w' ⟨rfl, rfl⟩
    exact ⟨rfl, h, Below.refl B _, rfl, rfl, fun _ _ => rfl⟩

set_option maxHeartbeats 1000000 in
set_option maxRecDepth 100000 in
/-- Builder.WriteString, and what it leaves alone: whatever was laid behind the world w0 in which the builder was as it is -/
theorem bld_writeF (B b : Nat) (bs : List Value) (s : ByteArray) (w0 w : World) (h0 : Lib.IsBuilder 88 5 B b bs w0) (hw : Below w0.heap.size w0 w) (hlen : bs.length + s.size ≤ 140737488355328) (hB0 : B ≤ w0.heap.size) :
    Calls Tryd.prog 44 #[.pointer (some ⟨b, 0, none⟩), .string s] w fun e w' => e = .returned (.tuple #[.int .i64 s.size, .nilIface]) ∧ Lib.BuilderAt 88 5 B b (.pointer (some ⟨b, 0, none⟩)) (bs ++ Lib.strCells s) w' ∧ Below B w w' ∧ ∀ i, w0.heap.size ≤ i → i < w.heap.size → w'.heap[i]? = w.heap[i]? := by
  have hbw := bld_below h0 hw
  have hsz := hw.size
  have hb0 : b < w0.heap.size := by rcases h0 with h | h <;> exact h.lt
  obtain ⟨i0, hi, hz0, hz1, hz2⟩ := info_parts Tryd.Builder_Extra_156.infoByte
  go_enter Tryd.func44, Tryd.ntmps44
  go_wp2_with (go_at_call 77; refine (bcc B b bs _ hbw).mono ?_)
  rintro e w1 ⟨rfl, h1, hb1, hs1, hc1, hk1⟩
  obtain ⟨hB, v, hbk, hown, hne⟩ := h1
  have hv : ∀ g, v.ownBlock = some g → g < w0.heap.size := by
    intro g hg
    have key : ∀ p, Lib.BuilderAt 88 5 B b p bs w0 → g < w0.heap.size := by
      rintro p ⟨_, v0, hv0, hown0, _⟩
      have e0 : w0.cell? ⟨b, 1, none⟩ = some v0 := by rw [Lib.cell_of_heap hv0]; rfl
      have e1 : w1.cell? ⟨b, 1, none⟩ = some v := by rw [Lib.cell_of_heap hbk]; rfl
      rw [hc1, below_cell hw hb0 e0] at e1
      cases e1
      exact (hown0.lt g hg).2
    rcases h0 with h | h
    · exact key _ h
    · exact key _ h
  have c0 : w1.cell? ⟨b, 0, none⟩ = some (.pointer (some ⟨b, 0, none⟩)) := by rw [Lib.cell_of_heap hbk]; rfl
  have c1 : w1.cell? ⟨b, 1, none⟩ = some v := by rw [Lib.cell_of_heap hbk]; rfl
  clear hc1
  go_wp2_with (at_builtin; refine Lib.wpList_append_own_string _ rfl _ _ 86 9 rfl B 5 i0 rfl rfl hi hz0 hz1 hz2 _ _ _ rfl hown s rfl ?c3 ?c4 ?c5 ?_)
  case c3 => unfold maxLen; omega
  case c4 => omega
  case c5 => omega
  intro v' w2 hown' hgrow _
  have hb2 : w2.heap[b]? = some (.cells #[.pointer (some ⟨b, 0, none⟩), v] 88 (0, 0)) := (hgrow.block b (by omega) (fun e => hne e.symm)).trans hbk
  have d0 : w2.cell? ⟨b, 0, none⟩ = some (.pointer (some ⟨b, 0, none⟩)) := by rw [Lib.cell_of_heap hb2]; rfl
  have d1 : w2.cell? ⟨b, 1, none⟩ = some v := by rw [Lib.cell_of_heap hb2]; rfl
  have f1 : w2.frozen? ⟨b, 1, none⟩ = false := Lib.frozen_of_heap hb2 1
  obtain ⟨ao, n', cap, rfl⟩ : ∃ ao n' cap, v' = .slice ao n' cap := by
    rcases hown'.2 with ⟨hv, _⟩ | ⟨g, cap, cur, hv, _⟩
    · exact ⟨_, _, _, hv⟩
    · exact ⟨_, _, _, hv⟩
  go_wp2
  go_ret2
  refine ⟨rfl, ?_, ?_, ?_⟩
  · exact Lib.BuilderAt.put (T := 88) (e := 5) hB hb2 (bs' := bs ++ Lib.strCells s) (by simpa [Lib.strCells_length] using hown') Tryd.Builder_Extra_156.neB5
  · exact (hb1.grown hgrow (by omega) (fun k hk => (hown.lt k hk).1)).setCell (p := ⟨b, 1, none⟩) hB _
  · intro i h1 h2
    rw [Go.Deep.blk_setCell_other _ _ _ _ (by show i ≠ b; omega), hgrow.block i (by omega) (fun e => by have := hv i e.symm; omega), hk1 i (by omega)]
end Go.Proofs.YthmjkhlndphldaaDoor
