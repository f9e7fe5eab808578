/- slices.Sort over the currencies that the call has gathered. -/
import Derived.Test.YtjojjicpdfmopaaGreatDoorTrlM
import Derived.Sort.OwnSorted
namespace Go.Proofs.YtjojjicpdfmopaaGreatDoor
open Go Go.RowKit
set_option linter.unusedVariables false

theorem strs_flat (l : List ByteArray) : l.flatMap strEnc = (l.map (·.data.toList)).map encStr := by
  induction l with
  | nil => rfl
  | cons a l ih => rw [List.flatMap_cons, ih]; rfl
theorem strs_back (l : List (List UInt8)) : (l.map fun b => (⟨b.toArray⟩ : ByteArray)).flatMap strEnc = l.map encStr := by
  induction l with
  | nil => rfl
  | cons a l ih => rw [List.map_cons, List.flatMap_cons, ih]; rfl
set_option maxRecDepth 100000 in
theorem sort_strs (l : List ByteArray) (B : Nat) (v : Value) (w : World) (h : Own w B 9 1 strEnc v l) (hl : l.length ≤ 1000) :
    Calls Tryz.prog 14 #[v] w fun e w' => e = .returned (.tuple #[]) ∧ ∃ s : List ByteArray, s.Perm l ∧ Own w' B 9 1 strEnc v s ∧ w.grownBy w' v.ownBlock := by
  have h' := h
  rcases h.2 with ⟨rfl, h0⟩ | ⟨g, cap, cur, rfl, hBg, hg, hc, hm, hcs, ht⟩
  · have hl0 : l = [] := List.eq_nil_of_length_eq_zero h0
    subst hl0
    refine Calls.mono (Tryz.slices_Sort_string_none none 0 w) (fun e w' hw => ?_)
    obtain ⟨rfl, rfl⟩ := hw
    exact ⟨rfl, [], List.Perm.refl _, h', World.grownBy.refl _ _⟩
  · have ht' : cur.toList.take (l.map (·.data.toList)).length = (l.map (·.data.toList)).map encStr := by
      rw [List.length_map, ← strs_flat, ← ht, Nat.mul_one]
    have hH := holds_of_block hg ht'
    have hlt : g < w.heap.size := (Array.getElem?_eq_some_iff.1 hg).1
    have hcon := Tryz.slices_Sort_string g 0 cap (l.map (·.data.toList)) w hH hlt (by rw [List.length_map]; omega)
    rw [List.length_map] at hcon
    refine Calls.mono hcon (fun e w' hw => ?_)
    obtain ⟨rfl, n, os, rfl⟩ := hw
    obtain ⟨ts, hts⟩ : ∃ ts, ts = (l.map (·.data.toList)).mergeSort fun x y => decide (x ≤ y) := ⟨_, rfl⟩
    have hp : ts.Perm (l.map (·.data.toList)) := by rw [hts]; exact List.mergeSort_perm _ _
    rw [← hts]
    have hlen : ts.length = l.length := by rw [hp.length_eq, List.length_map]
    have hps : (ts.map fun b => (⟨b.toArray⟩ : ByteArray)).Perm l := by
      have h1 := hp.map fun b => (⟨b.toArray⟩ : ByteArray)
      rw [List.map_map] at h1
      have h2 : l.map ((fun b : List UInt8 => (⟨b.toArray⟩ : ByteArray)) ∘ fun s : ByteArray => s.data.toList) = l := by
        rw [show ((fun b : List UInt8 => (⟨b.toArray⟩ : ByteArray)) ∘ fun s : ByteArray => s.data.toList) = id from rfl, List.map_id]
      rwa [h2] at h1
    refine ⟨rfl, _, hps, ?_, grownBy_sorted _⟩
    have hown := ownsRow_sorted (w := w) (base := B) (n := n) (e := 9) (os := os) (ss := l.map (·.data.toList)) (ts := ts) (by rw [List.length_map]; exact hlen) hBg hg (by rw [List.length_map]; exact hc) hm hcs
    rw [List.length_map] at hown
    unfold Own
    rw [strs_back, List.length_map, hlen]
    exact hown
end Go.Proofs.YtjojjicpdfmopaaGreatDoor
