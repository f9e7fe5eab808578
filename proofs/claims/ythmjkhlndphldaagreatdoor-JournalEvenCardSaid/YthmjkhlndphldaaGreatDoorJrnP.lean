/- The numbers of a journal's entries: plain facts. -/
import Derived.Test.YthmjkhlndphldaaGreatDoorJrnB
namespace Go.Proofs.YthmjkhlndphldaaGreatDoor
open Go Go.RowKit
set_option linter.unusedVariables false

theorem ofTo_mem {es : List Ent} {a b : Int} {k : Nat} {x : Int} : x ∈ ofTo es a b k ↔ ∃ (i : Nat) (h : i < es.length), i < k ∧ x = (i : Int) ∧ ofB a b es[i] = true := by
  unfold ofTo
  rw [List.mem_map]
  constructor
  · rintro ⟨i, hi, rfl⟩
    obtain ⟨h1, h2⟩ := List.mem_filter.1 hi
    by_cases h : i < es.length
    · rw [List.getElem?_eq_getElem h] at h2
      exact ⟨i, h, List.mem_range.1 h1, rfl, h2⟩
    · rw [List.getElem?_eq_none (by omega)] at h2
      cases h2
  · rintro ⟨i, h, hk, rfl, hb⟩
    exact ⟨i, List.mem_filter.2 ⟨List.mem_range.2 hk, by rw [List.getElem?_eq_getElem h]; exact hb⟩, rfl⟩
theorem ofTo_sorted (es : List Ent) (a b : Int) (k : Nat) : (ofTo es a b k).Pairwise (fun x y => x < y) := by
  unfold ofTo
  rw [List.pairwise_map]
  refine List.Pairwise.filter _ ?_
  exact (List.pairwise_lt_range (n := k)).imp fun h => by omega
theorem ofTo_lt {es : List Ent} {a b : Int} {k : Nat} (i : Nat) (h : i + 1 < (ofTo es a b k).length) : (ofTo es a b k)[i] < (ofTo es a b k)[i + 1] :=
  List.pairwise_iff_getElem.1 (ofTo_sorted es a b k) i (i + 1) (by omega) h (by omega)
theorem ofTo_count (es : List Ent) (a b : Int) (k : Nat) (h : k ≤ es.length) : (ofTo es a b k).length = ((es.take k).filter (ofB a b)).length := by
  induction k with
  | zero => simp [ofTo]
  | succ k ih =>
    have hk : k < es.length := by omega
    rw [List.take_succ_eq_append_getElem hk, List.filter_append, List.length_append, ← ih (by omega)]
    cases hb : ofB a b es[k] with
    | true => rw [ofTo_yes hk hb]; simp [hb]
    | false => rw [ofTo_no hk hb]; simp [hb]
theorem ofTo_all (es : List Ent) : (ofTo es 0 0 es.length).length = es.length := by
  rw [ofTo_count es 0 0 es.length (Nat.le_refl _), List.take_length, List.filter_eq_self.2]
  intro e _
  simp [ofB]
/-- those of the entities up to e -/
def upTo (es : List Ent) (e : Int) : Nat := (es.filter fun x => decide (1 ≤ x.ent) && decide (x.ent ≤ e)).length
theorem upTo_zero (es : List Ent) : upTo es 0 = 0 := by
  unfold upTo
  rw [List.filter_eq_nil_iff.2]
  · rfl
  · intro x _
    simp only [Bool.and_eq_true, decide_eq_true_eq]
    omega
theorem upTo_succ (es : List Ent) (e : Int) (he : 0 ≤ e) : upTo es (e + 1) = upTo es e + (ofTo es (e + 1) 0 es.length).length := by
  rw [ofTo_count es _ _ es.length (Nat.le_refl _), List.take_length]
  unfold upTo
  induction es with
  | nil => simp
  | cons x es ih =>
    simp only [List.filter_cons]
    by_cases h1 : x.ent = e + 1
    · have b1 : (decide (1 ≤ x.ent) && decide (x.ent ≤ e + 1)) = true := by simp; omega
      have b2 : (decide (1 ≤ x.ent) && decide (x.ent ≤ e)) = false := by simp; omega
      have b3 : ofB (e + 1) 0 x = true := by simp [ofB, h1]
      rw [b1, b2, b3]
      simp only [if_true, List.length_cons, ih, Bool.false_eq_true, if_false]
      omega
    · have b3 : ofB (e + 1) 0 x = false := by
        have : ¬ e + 1 = 0 := by omega
        simp [ofB, h1, this]
      rw [b3]
      by_cases h2 : 1 ≤ x.ent ∧ x.ent ≤ e
      · have b1 : (decide (1 ≤ x.ent) && decide (x.ent ≤ e + 1)) = true := by simp; omega
        have b2 : (decide (1 ≤ x.ent) && decide (x.ent ≤ e)) = true := by simp; omega
        rw [b1, b2]
        simp only [if_true, List.length_cons, ih, Bool.false_eq_true, if_false]
        omega
      · have b1 : (decide (1 ≤ x.ent) && decide (x.ent ≤ e + 1)) = false := by simp; omega
        have b2 : (decide (1 ≤ x.ent) && decide (x.ent ≤ e)) = false := by simp; omega
        rw [b1, b2]
        simp only [Bool.false_eq_true, if_false, ih]
theorem upTo_all {es : List Ent} (h : ∀ x, x ∈ es → 1 ≤ x.ent ∧ x.ent ≤ 12) : upTo es 12 = es.length := by
  unfold upTo
  rw [List.filter_eq_self.2]
  intro x hx
  have := h x hx
  simp; omega
/-- each of an entity's numbers: its entry is of it, and it is among those of its period -/
theorem ofTo_at {es : List Ent} {a : Int} (ha : a ≠ 0) {i : Nat} (h : i < (ofTo es a 0 es.length).length) : ∃ (j : Nat) (hj : j < es.length), (ofTo es a 0 es.length)[i] = (j : Int) ∧ es[j].ent = a ∧ (j : Int) ∈ ofTo es a es[j].per es.length := by
  obtain ⟨j, hj, _, e, hb⟩ := ofTo_mem.1 (List.getElem_mem h)
  have he : es[j].ent = a := by simpa [ofB, ha] using hb
  exact ⟨j, hj, e, he, ofTo_mem.2 ⟨j, hj, hj, rfl, by simp [ofB, he]⟩⟩
end Go.Proofs.YthmjkhlndphldaaGreatDoor
