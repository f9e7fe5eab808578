/- Plain facts behind ChartSums. -/
import Derived.Test.YthmjkhlndphldaaDoorRoll
import Derived.Test.YthmjkhlndphldaaDoorParts
namespace Go.Proofs.YthmjkhlndphldaaDoor
open Go Go.RowKit
set_option linter.unusedVariables false

/-- the sum of f over the first k -/
def ssum (f : Nat → Int) (k : Nat) : Int := ((List.range k).map f).sum
theorem ssum_zero (f : Nat → Int) : ssum f 0 = 0 := rfl
theorem ssum_succ (f : Nat → Int) (k : Nat) : ssum f (k + 1) = ssum f k + f k := by
  unfold ssum
  rw [List.range_succ, List.map_append, List.sum_append]
  simp
theorem ssum_congr {f g : Nat → Int} {k : Nat} (h : ∀ j, j < k → f j = g j) : ssum f k = ssum g k := by
  unfold ssum
  rw [List.map_congr_left (fun a ha => h a (List.mem_range.1 ha))]
theorem ssum_add (f g : Nat → Int) (k : Nat) : ssum (fun j => f j + g j) k = ssum f k + ssum g k := by
  induction k with
  | zero => rfl
  | succ k ih => rw [ssum_succ, ssum_succ, ssum_succ, ih]; omega
theorem filt_sum (p : Nat → Bool) (f : Nat → Int) (k : Nat) : (((List.range k).filter p).map f).sum = ssum (fun j => if p j = true then f j else 0) k := by
  induction k with
  | zero => rfl
  | succ k ih =>
    rw [List.range_succ, List.filter_append, List.map_append, List.sum_append, ih, ssum_succ]
    cases h : p k with
    | true => simp [h]
    | false => simp [h]
theorem list_ssum (am : List Int) : am.sum = ssum (fun j => am.getD j 0) am.length := by
  unfold ssum
  congr 1
  apply List.ext_getElem
  · simp
  · intro i h1 h2
    simp [List.getD_eq_getElem?_getD, List.getElem?_eq_getElem h1]

/-- what is under those of the first i that have no parent -/
def topsTo (l : List Acc) (am : List Int) (i : Nat) : List Int := ((List.range i).filter fun j => topB l j).map (rollOf l am)
theorem topsTo_len (l : List Acc) (am : List Int) (i : Nat) : (topsTo l am i).length ≤ i := by
  unfold topsTo
  rw [List.length_map]
  exact Nat.le_trans (List.length_filter_le _ _) (by simp)
theorem topsTo_yes {l : List Acc} {am : List Int} {i : Nat} (h : topB l i = true) : topsTo l am (i + 1) = topsTo l am i ++ [rollOf l am i] := by
  unfold topsTo
  rw [List.range_succ, List.filter_append, List.map_append]
  simp [h]
theorem topsTo_no {l : List Acc} {am : List Int} {i : Nat} (h : topB l i = false) : topsTo l am (i + 1) = topsTo l am i := by
  unfold topsTo
  rw [List.range_succ, List.filter_append, List.map_append]
  simp [h]
theorem topsTo_64 {l : List Acc} {am : List Int} (hf : Fit64 l am l.length) : Ints64 (topsTo l am l.length) := by
  intro x hx
  unfold topsTo at hx
  obtain ⟨j, hj, rfl⟩ := List.mem_map.1 hx
  have hjk : j < l.length := List.mem_range.1 (List.mem_filter.1 hj).1
  have := hf j hjk
  unfold in64 at this
  simp only [Bool.and_eq_true, decide_eq_true_eq] at this
  exact this

theorem roll_ssum (l : List Acc) (am : List Int) (i : Nat) : rollOf l am i = ssum (fun j => if bel l i j = true then am.getD j 0 else 0) l.length := filt_sum _ _ _

theorem tops_part (l : List Acc) (am : List Int) : ∀ m, (topsTo l am m).sum = ssum (fun t => (seenTo l m t : Int) * am.getD t 0) l.length := by
  intro m
  induction m with
  | zero =>
    rw [ssum_congr (g := fun _ => 0) (fun j _ => by simp [seenTo])]
    have : ∀ k, ssum (fun _ => 0) k = 0 := by
      intro k
      induction k with
      | zero => rfl
      | succ k ih => rw [ssum_succ, ih]; rfl
    rw [this]; rfl
  | succ m ih =>
    cases h : topB l m with
    | false =>
      rw [topsTo_no h, ih]
      exact ssum_congr (fun j _ => by rw [seenTo_succ, h]; simp)
    | true =>
      rw [topsTo_yes h, List.sum_append, ih, show [rollOf l am m].sum = rollOf l am m by simp, roll_ssum, ← ssum_add]
      refine ssum_congr (fun j _ => ?_)
      rw [seenTo_succ, h, Bool.true_and]
      cases hb : bel l m j with
      | true => simp [Int.add_mul]
      | false => simp
theorem tops_all {l : List Acc} {am : List Int} (h : chartE l = 0) (hm : am.length = l.length) : (topsTo l am l.length).sum = am.sum := by
  rw [tops_part, list_ssum, hm]
  exact ssum_congr (fun j hj => by rw [seen_one h j hj]; simp)

theorem uIdx_lt_sorted (l : List Acc) (i : Nat) : (uIdx l i).Pairwise (· < ·) := List.Pairwise.filter _ List.pairwise_lt_range
theorem uIdx_first {l : List Acc} {i : Nat} (hi : i < l.length) : (uIdx l i)[0]'(uIdx_pos hi) = i := by
  have hb := uIdx_bel (List.getElem_mem (uIdx_pos hi))
  have h1 : ¬ (uIdx l i)[0]'(uIdx_pos hi) < i := fun h => by rw [bel_lt h] at hb; cases hb
  obtain ⟨k, hk, hki⟩ := List.getElem_of_mem (uIdx_mem hi (bel_self l i))
  rcases Nat.eq_zero_or_pos k with e | e
  · subst e; exact hki
  · have := List.pairwise_iff_getElem.1 (uIdx_lt_sorted l i) 0 k (uIdx_pos hi) hk e
    omega
theorem leaf_roll {l : List Acc} {am : List Int} {i : Nat} (hi : i < l.length) (hm : am.length = l.length) (h1 : (uIdx l i).length = 1) : rollOf l am i = am[i] := by
  obtain ⟨x, hx⟩ := List.length_eq_one_iff.1 h1
  have hf := uIdx_first hi
  have hxi : x = i := by simp only [hx, List.getElem_cons_zero] at hf; exact hf
  subst hxi
  show (((List.range l.length).filter fun j => bel l x j).map fun j => am.getD j 0).sum = _
  rw [show ((List.range l.length).filter fun j => bel l x j) = [x] from hx]
  simp [List.getD_eq_getElem?_getD, List.getElem?_eq_getElem (show x < am.length by omega)]

theorem bel_trans {l : List Acc} {p i : Nat} (hp : bel l p i = true) : ∀ k, k < l.length → bel l i k = true → bel l p k = true := by
  intro k
  induction k using Nat.strongRecOn with
  | _ k ih =>
    intro hk hb
    rcases Nat.lt_trichotomy i k with h1 | h1 | h1
    · have hpi : ¬ i < p := fun h => by rw [bel_lt h] at hp; cases hp
      rw [bel_gt h1 hk] at hb
      rw [bel_gt (by omega) hk]
      cases hx : idxO (l.take k) l[k].parent with
      | none => rw [hx] at hb; cases hb
      | some q =>
        rw [hx] at hb
        have hq := idxO_lt hx
        rw [List.length_take] at hq
        exact ih q (by omega) (by omega) hb
    · subst h1; exact hp
    · rw [bel_lt h1] at hb; cases hb
theorem under_more {l : List Acc} {p i : Nat} (hpi : p < i) (hi : i < l.length) (hb : bel l p i = true) : (uIdx l i).length < (uIdx l p).length := by
  have e : uIdx l i = (uIdx l p).filter fun j => bel l i j := by
    unfold uIdx
    rw [List.filter_filter]
    apply List.filter_congr
    intro k hk
    cases hk' : bel l i k with
    | false => simp
    | true => simp [bel_trans hb k (List.mem_range.1 hk) hk']
  rw [e]
  rcases Nat.lt_or_ge ((uIdx l p).filter fun j => bel l i j).length (uIdx l p).length with h | h
  · exact h
  · exfalso
    have := List.length_filter_eq_length_iff.1 (Nat.le_antisymm (List.length_filter_le (fun j => bel l i j) (uIdx l p)) h) p (uIdx_mem (by omega) (bel_self l p))
    rw [bel_lt hpi] at this; cases this

/-- is the code among the first k under p? -/
def hasTo (l : List Acc) (p : Nat) (c : ByteArray) (k : Nat) : Bool := ((uIdx l p).take k).any fun t => ((l[t]?).map (·.code.toList)) == some c.toList
theorem hasTo_zero (l : List Acc) (p : Nat) (c : ByteArray) : hasTo l p c 0 = false := rfl
theorem hasTo_succ {l : List Acc} {p : Nat} {c : ByteArray} {k : Nat} (hk : k < (uIdx l p).length) :
    hasTo l p c (k + 1) = (hasTo l p c k || ((l[(uIdx l p)[k]]'(uIdx_lt (List.getElem_mem hk))).code.toList == c.toList)) := by
  unfold hasTo
  rw [List.take_succ_eq_append_getElem hk, List.any_append]
  simp [List.getElem?_eq_getElem (uIdx_lt (List.getElem_mem hk))]
theorem hasTo_all {l : List Acc} {p i : Nat} (hi : i < l.length) (hb : bel l p i = true) : hasTo l p l[i].code (uIdx l p).length = true := by
  unfold hasTo
  rw [List.take_length, List.any_eq_true]
  exact ⟨i, uIdx_mem hi hb, by simp [hi]⟩

theorem fact_roll : rollTo fact0 [3, 4] 2 = [7, 4] := by decide +kernel
theorem fact_fit : Fit64 fact0 [3, 4] 2 := by
  intro i hi
  rcases (show i = 0 ∨ i = 1 by omega) with rfl | rfl <;> decide +kernel
end Go.Proofs.YthmjkhlndphldaaDoor
