/- A row of records in a block of its own, sorted: from the shelf's words to ours. -/
import Derived.Test.YtafgceikjomnpaaGreatDoorOwn
import Derived.Shelf.SlSortCmp.InsertionK
namespace Go.Proofs.YtafgceikjomnpaaGreatDoor
open Go Go.RowKit
set_option linter.unusedVariables false

/-- block g has m cells that begin with the records l -/
def RowAt {α : Type} (w : World) (g e sz : Nat) (enc : α → List Value) (m : Nat) (l : List α) : Prop :=
  ∃ cur : Array Value, w.heap[g]? = some (.cells cur e (0, 0)) ∧ cur.size = m ∧ cur.toList.take (l.length * sz) = l.flatMap enc

section
variable {α : Type} {enc : α → List Value} {w : World} {g e sz m : Nat} {l : List α}

theorem RowAt.lt (h : RowAt w g e sz enc m l) : g < w.heap.size := by
  obtain ⟨cur, hc, _, _⟩ := h
  rcases Nat.lt_or_ge g w.heap.size with hlt | hge
  · exact hlt
  · rw [Array.getElem?_eq_none hge] at hc; cases hc
theorem RowAt.below {w' : World} (h : RowAt w g e sz enc m l) (hb : Below w.heap.size w w') : RowAt w' g e sz enc m l := by
  have hlt := h.lt
  obtain ⟨cur, hc, hs, ht⟩ := h
  exact ⟨cur, (hb.block g hlt).trans hc, hs, ht⟩
theorem RowAt.rd (he : Enc sz enc) (h : RowAt w g e sz enc m l) : Rd w sz enc (some ⟨g, 0, none⟩) l.length l := by
  obtain ⟨cur, hc, hs, ht⟩ := h
  refine ⟨rfl, fun _ => ⟨g, 0, rfl, fun k j u hk hu => ?_⟩⟩
  have hj : j < sz := by
    have := (List.getElem?_eq_some_iff.1 hu).1
    rw [he.len] at this; exact this
  rw [cell_of_row w g _ cur e (0, 0) hc, Nat.zero_add, ← hu, ← flatMap_get he l k j hk hj, ← ht, List.getElem?_take]
  have hlt : k * sz + j < l.length * sz := by
    have : (k + 1) * sz ≤ l.length * sz := Nat.mul_le_mul_right _ hk
    rw [Nat.add_mul] at this; omega
  rw [if_pos hlt]
  simp
theorem RowAt.frozen (h : RowAt w g e sz enc m l) (j : Nat) : w.frozen? ⟨g, j, none⟩ = false := by
  obtain ⟨cur, hc, hs, ht⟩ := h
  exact frozen_of_row w g j _ _ hc
theorem RowAt.own {B cap : Nat} (h : RowAt w g e sz enc (cap * sz) l) (he : Enc sz enc) (hB : B ≤ g) (hc : l.length ≤ cap) (hm : cap ≤ maxLen) : Own w B e sz enc (.slice (some ⟨g, 0, none⟩) l.length cap) l := by
  obtain ⟨cur, hc', hs, ht⟩ := h
  exact ⟨flatMap_len he l, .inr ⟨g, cap, cur, rfl, hB, hc', hc, hm, hs, ht⟩⟩

variable [Inhabited α]
theorem flatK_eq (he : Enc sz enc) (l : List α) : (Go.Sort.flatK enc sz l.toArray).toList = l.flatMap enc := by
  apply List.ext_getElem?
  intro j
  by_cases hj : j < l.length * sz
  · have hsz : 0 < sz := by rcases Nat.eq_zero_or_pos sz with h | h; (· subst h; simp at hj); (· exact h)
    have hk : j / sz < l.length := Nat.div_lt_of_lt_mul (by rw [Nat.mul_comm]; exact hj)
    have hm := Nat.mod_lt j hsz
    have hsum : j / sz * sz + j % sz = j := by rw [Nat.mul_comm]; exact Nat.div_add_mod j sz
    have h1 := flatMap_get he l (j / sz) (j % sz) hk hm
    rw [hsum] at h1
    rw [h1]
    have hs : j < (Go.Sort.flatK enc sz l.toArray).size := by simpa using hj
    rw [Array.getElem?_toList, Array.getElem?_eq_getElem hs]
    have h2 := Go.Sort.get_flatK enc sz l.toArray j (by simpa using hj)
    rw [getElem!_pos _ j hs] at h2
    rw [h2]
    have hkk : (l.toArray[j / sz]! : α) = l[j / sz] := by rw [getElem!_pos l.toArray (j / sz) (by simpa using hk)]; simp
    rw [hkk]
    have hlen : j % sz < (enc l[j / sz]).length := by rw [he.len]; exact hm
    rw [getElem!_pos (enc l[j / sz]) (j % sz) hlen, List.getElem?_eq_getElem hlen]
  · rw [List.getElem?_eq_none (by simp; omega), List.getElem?_eq_none (by rw [flatMap_len he]; omega)]

theorem RowAt.holds (he : Enc sz enc) (h : RowAt w g e sz enc m l) : Go.Sort.HoldsK enc sz w g 0 l.toArray := by
  obtain ⟨cur, hc, hs, ht⟩ := h
  intro j hj
  refine ⟨?_, frozen_of_row w g _ _ _ hc⟩
  have hj' : j < l.length * sz := by simpa using hj
  rw [cell_of_row w g _ cur e (0, 0) hc, Nat.zero_add]
  have h1 : cur.toList[j]? = (l.flatMap enc)[j]? := by rw [← ht, List.getElem?_take, if_pos hj']
  rw [← Array.getElem?_toList, h1, ← flatK_eq he l, Array.getElem?_toList, getElem!_pos _ j hj]
  simp [hj']

theorem RowAt.resorted (he : Enc sz enc) (h : RowAt w g e sz enc m l) (n : Nat) (os : Array Obj) (d : Array α) (hd : d.size = l.length) :
    RowAt (Go.Proofs.sortWorldK enc sz w g 0 n d os) g e sz enc m d.toList ∧ w.grownBy (Go.Proofs.sortWorldK enc sz w g 0 n d os) (some g) := by
  have hlt := h.lt
  obtain ⟨cur, hc, hs, ht⟩ := h
  have hlen : l.length * sz ≤ cur.size := by
    have := congrArg List.length ht
    rw [List.length_take, flatMap_len he] at this
    have h2 : cur.toList.length = cur.size := by simp
    omega
  have hblk : (Go.Proofs.sortWorldK enc sz w g 0 n d os).heap[g]? = some (.cells (Go.Sort.putCells id 0 (Go.Sort.flatK enc sz d) cur) e (0, 0)) := by
    show ((w.heap.modify g (Go.Sort.onCells (Go.Sort.putCells id 0 (Go.Sort.flatK enc sz d)))) ++ os)[g]? = _
    rw [Array.getElem?_append_left (by simpa using hlt), Array.getElem?_modify, if_pos rfl, hc]
    rfl
  have hsz : d.size * sz ≤ cur.size := by rw [hd]; exact hlen
  refine ⟨⟨_, hblk, by simpa [Go.Sort.putCells] using hs, ?_⟩, rfl, rfl, rfl, ?_, fun i hi hne => ?_⟩
  · have hf := flatK_eq (sz := sz) (enc := enc) he d.toList
    rw [show d.toList.toArray = d from by simp] at hf
    rw [← hf]
    apply List.ext_getElem?
    intro j
    rw [List.getElem?_take]
    by_cases hj : j < d.toList.length * sz
    · rw [if_pos hj]
      have hj' : j < d.size * sz := by simpa using hj
      have hjc : j < cur.size := by omega
      have hjf : j < (Go.Sort.flatK enc sz d).size := by simpa using hj'
      rw [Array.getElem?_toList, Array.getElem?_toList, Array.getElem?_eq_getElem hjf]
      simp only [Go.Sort.putCells, Array.getElem?_mapIdx, Array.getElem?_eq_getElem hjc, Option.map_some, Nat.zero_le, true_and, Nat.zero_add, Nat.sub_zero, id]
      rw [if_pos hjf, getElem!_pos _ j hjf]
    · rw [if_neg hj, List.getElem?_eq_none (by simpa using hj)]
  · show w.heap.size ≤ ((w.heap.modify g _) ++ os).size
    simp
  · show ((w.heap.modify g _) ++ os)[i]? = _
    rw [Array.getElem?_append_left (by simpa using hi), Array.getElem?_modify, if_neg (fun e => hne (by rw [e]))]
end
end Go.Proofs.YtafgceikjomnpaaGreatDoor
