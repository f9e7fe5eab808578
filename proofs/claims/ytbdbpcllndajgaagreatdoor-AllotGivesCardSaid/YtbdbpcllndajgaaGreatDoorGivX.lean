/- Plain: what is left of a total is given one by one to the greatest rest, the first of alike ones: the order of the rests, put in order once. -/
import Derived.Test.YtbdbpcllndajgaaGreatDoorShrP
import Derived.Sort.LotA
namespace Go.Proofs.YtbdbpcllndajgaaGreatDoor
set_option linter.unusedVariables false

/-- ahead of it: a greater rest, or as great a one that stands earlier -/
def RestR (ms : List Int) (i j : Nat) : Prop := ms.getD j 0 < ms.getD i 0 ∨ (ms.getD i 0 = ms.getD j 0 ∧ i < j)
/-- the first of the greatest among the first i + 1 -/
def argTo (cut : List Int) : Nat → Nat
  | 0 => 0
  | i + 1 => if cut.getD (argTo cut i) 0 < cut.getD (i + 1) 0 then i + 1 else argTo cut i
theorem argTo_le (cut : List Int) : ∀ i, argTo cut i ≤ i
  | 0 => Nat.le_refl _
  | i + 1 => by
    have := argTo_le cut i
    rw [argTo]
    split <;> omega
theorem argTo_is {cut : List Int} {i0 n : Nat} (hi : i0 < n) (h : ∀ j, j < n → j ≠ i0 → cut.getD j 0 < cut.getD i0 0 ∨ (cut.getD j 0 = cut.getD i0 0 ∧ i0 < j)) : ∀ i, i < n → i0 ≤ i → argTo cut i = i0
  | 0, _, h0 => by have : i0 = 0 := by omega
                   rw [this]; rfl
  | i + 1, hn, h0 => by
    rw [argTo]
    by_cases e : i0 = i + 1
    · have hl := argTo_le cut i
      rcases h (argTo cut i) (by omega) (by omega) with h1 | ⟨_, h2⟩
      · rw [e] at h1 ⊢
        rw [if_pos h1]
      · omega
    · have ih := argTo_is hi h i (by omega) (by omega)
      rw [ih]
      have h1 : ¬ cut.getD i0 0 < cut.getD (i + 1) 0 := by
        rcases h (i + 1) (by omega) (fun e2 => e e2.symm) with h1 | ⟨h1, _⟩ <;> omega
      rw [if_neg h1]
/-- one by one -/
def greedy (s : Int) : Nat → List Int → List Int → List Int
  | 0, out, _ => out
  | k + 1, out, cut => greedy s k (out.set (argTo cut (cut.length - 1)) (out.getD (argTo cut (cut.length - 1)) 0 + s)) (cut.set (argTo cut (cut.length - 1)) (-1))
theorem getD_setG {l : List Int} {i j : Nat} {x : Int} : (l.set i x).getD j 0 = if i = j ∧ j < l.length then x else l.getD j 0 := by
  simp only [List.getD_eq_getElem?_getD, List.getElem?_set]
  by_cases e : i = j
  · subst e
    by_cases hl : i < l.length
    · simp [hl]
    · simp [hl]
  · simp [e]
/-- the places that are still to be given to, in order -/
structure Order (ms cut : List Int) (rest : List Nat) : Prop where
  len : cut.length = ms.length
  pos : ∀ j, j < ms.length → 0 ≤ ms.getD j 0
  nd : rest.Nodup
  lt : ∀ j, j ∈ rest → j < ms.length
  ord : rest.Pairwise (RestR ms)
  val : ∀ j, j < ms.length → cut.getD j 0 = if j ∈ rest then ms.getD j 0 else -1
theorem Order.head {ms cut : List Int} {i : Nat} {rest : List Nat} (h : Order ms cut (i :: rest)) : argTo cut (cut.length - 1) = i := by
  have hi := h.lt i (by simp)
  have hl := h.len
  refine argTo_is (n := cut.length) (by omega) (fun j hj hne => ?_) _ (by omega) (by omega)
  have hv := h.val j (by omega)
  have hvi := h.val i hi
  rw [if_pos (by simp)] at hvi
  have hp := h.pos i hi
  by_cases hm : j ∈ i :: rest
  · rw [if_pos hm] at hv
    have hr : j ∈ rest := by
      rcases List.mem_cons.1 hm with e | e
      · exact absurd e hne
      · exact e
    have ho := (List.pairwise_cons.1 h.ord).1 j hr
    rw [hv, hvi]
    rcases ho with h1 | ⟨h1, h2⟩
    · exact .inl h1
    · exact .inr ⟨h1.symm, h2⟩
  · rw [if_neg hm] at hv
    left; omega
theorem Order.tail {ms cut : List Int} {i : Nat} {rest : List Nat} (h : Order ms cut (i :: rest)) : Order ms (cut.set i (-1)) rest := by
  obtain ⟨n1, n2⟩ := List.nodup_cons.1 h.nd
  refine ⟨by rw [List.length_set]; exact h.len, h.pos, n2, fun j hj => h.lt j (by simp [hj]), (List.pairwise_cons.1 h.ord).2, fun j hj => ?_⟩
  rw [getD_setG]
  have hl := h.len
  by_cases e : i = j
  · subst e
    rw [if_pos ⟨rfl, by omega⟩, if_neg n1]
  · rw [if_neg (fun h2 => e h2.1), h.val j hj]
    have : (j ∈ i :: rest) ↔ j ∈ rest := by
      constructor
      · intro h2
        rcases List.mem_cons.1 h2 with e2 | e2
        · exact absurd e2.symm e
        · exact e2
      · intro h2; simp [h2]
    simp only [this]
theorem greedy_bump (s : Int) : ∀ (rest : List Nat) (k : Nat) (out ms cut : List Int), k ≤ rest.length → Order ms cut rest → greedy s k out cut = bump s out (rest.take k)
  | _, 0, out, ms, cut, _, _ => by simp [greedy, bump]
  | [], k + 1, out, ms, cut, hk, _ => by simp at hk
  | i :: rest, k + 1, out, ms, cut, hk, h => by
    rw [greedy, h.head, List.take_succ_cons]
    have ih := greedy_bump s rest k (out.set i (out.getD i 0 + s)) ms (cut.set i (-1)) (by simpa using hk) h.tail
    rw [ih]
    rfl
theorem order_start {ms : List Int} {ord : List Nat} (hp : ord.Perm (List.range ms.length)) (ho : ord.Pairwise (RestR ms)) (h0 : ∀ j, j < ms.length → 0 ≤ ms.getD j 0) : Order ms ms ord := by
  have hm : ∀ j, j ∈ ord ↔ j < ms.length := fun j => by rw [hp.mem_iff, List.mem_range]
  exact ⟨rfl, h0, (hp.nodup_iff).2 List.nodup_range, fun j hj => (hm j).1 hj, ho, fun j hj => by rw [if_pos ((hm j).2 hj)]⟩
end Go.Proofs.YtbdbpcllndajgaaGreatDoor

namespace Go.Proofs.YtbdbpcllndajgaaGreatDoor
open Go.Sort
set_option linter.unusedVariables false

/-- ahead of it: a greater rest, or as great a one of a lesser number -/
def RestN (ms : Nat → Nat) (i j : Nat) : Prop := ms j < ms i ∨ (ms i = ms j ∧ i < j)
section
variable {n : Nat}
/-- a whole order out of a weak one: alike ones by their numbers -/
def lexOf (lt : Fin n → Fin n → Bool) (x y : Fin n) : Bool := lt x y || (!lt y x && decide (x.val < y.val))
theorem lexOf_far {lt : Fin n → Fin n → Bool} {x y : Fin n} (h : y.val < x.val) : lexOf lt x y = lt x y := by
  unfold lexOf
  rw [decide_eq_false (by omega), Bool.and_false, Bool.or_false]
theorem swo_lex {lt : Fin n → Fin n → Bool} (hS : SWO lt) : SWO (lexOf lt) := by
  have anti : ∀ x y, lt x y = true → lt y x = false := fun x y h => by
    cases h2 : lt y x with
    | false => rfl
    | true => have := hS.trans x y x h h2; rw [hS.irrefl] at this; cases this
  have mix1 : ∀ x y z, lt x y = true → lt z y = false → lt x z = true := fun x y z h1 h2 => by
    cases h3 : lt x z with
    | true => rfl
    | false => have := hS.ntrans x z y h3 h2; rw [h1] at this; cases this
  have mix2 : ∀ x y z, lt y x = false → lt y z = true → lt x z = true := fun x y z h1 h2 => by
    cases h3 : lt x z with
    | true => rfl
    | false => have := hS.ntrans y x z h1 h3; rw [h2] at this; cases this
  refine ⟨fun x => by simp [lexOf, hS.irrefl], fun x y z h k => ?_, fun x y z h k => ?_⟩
  · simp only [lexOf, Bool.or_eq_true, Bool.and_eq_true, Bool.not_eq_true', decide_eq_true_eq] at h k ⊢
    rcases h with h | ⟨h1, h2⟩
    · rcases k with k | ⟨k1, k2⟩
      · exact .inl (hS.trans x y z h k)
      · exact .inl (mix1 x y z h k1)
    · rcases k with k | ⟨k1, k2⟩
      · exact .inl (mix2 x y z h1 k)
      · exact .inr ⟨hS.ntrans z y x k1 h1, by omega⟩
  · have key : ∀ a b : Fin n, lexOf lt a b = false ↔ (lt a b = false ∧ (lt b a = true ∨ b.val ≤ a.val)) := fun a b => by
      unfold lexOf
      rw [Bool.or_eq_false_iff, Bool.and_eq_false_iff, Bool.not_eq_false', decide_eq_false_iff_not, Nat.not_lt]
    rw [key] at h k ⊢
    refine ⟨hS.ntrans x y z h.1 k.1, ?_⟩
    rcases h.2 with h2 | h2
    · exact .inl (mix2 z y x k.1 h2)
    · rcases k.2 with k2 | k2
      · exact .inl (mix1 z y x k2 h.1)
      · exact .inr (by omega)
theorem lex_total {lt : Fin n → Fin n → Bool} {x y : Fin n} (h : lexOf lt x y = false) (hne : x ≠ y) : lexOf lt y x = true := by
  have hv : x.val ≠ y.val := fun e => hne (Fin.ext e)
  unfold lexOf at h ⊢
  cases h1 : lt x y with
  | true => rw [h1] at h; simp at h
  | false =>
    rw [h1] at h
    cases h2 : lt y x with
    | true => rfl
    | false =>
      rw [h2] at h
      simp at h ⊢
      omega
variable [Inhabited (Fin n)]
/-- what is moved stands above all ahead of it: alike by both -/
theorem inner_same (lt : Fin n → Fin n → Bool) : ∀ (j : Nat) (d : Array (Fin n)), j < d.size → (∀ p, p < j → d[p]!.val < d[j]!.val) → insInner lt 0 j d = insInner (lexOf lt) 0 j d
  | 0, d, _, _ => rfl
  | j + 1, d, hj, h => by
    have e : lexOf lt d[j + 1]! d[j]! = lt d[j + 1]! d[j]! := lexOf_far (h j (by omega))
    rw [insInner, insInner, e]
    by_cases hc : (decide (j + 1 > 0) && lt d[j + 1]! d[j]!) = true
    · rw [if_pos hc, if_pos hc]
      refine inner_same lt j _ (by rw [size_swp]; omega) (fun p hp => ?_)
      rw [swp_right d (j + 1) j (by omega), swp_other d (j + 1) j p (by omega) (by omega)]
      exact h p (by omega)
    · rw [if_neg hc, if_neg hc]
/-- what all places up to j are, they are behind it -/
theorem inner_all (lt : Fin n → Fin n → Bool) {Q : Fin n → Prop} : ∀ (j : Nat) (d : Array (Fin n)), j < d.size → (∀ p, p ≤ j → Q d[p]!) → (∀ p, p ≤ j → Q (insInner lt 0 j d)[p]!) ∧ (∀ p, j < p → (insInner lt 0 j d)[p]! = d[p]!) ∧ (insInner lt 0 j d).size = d.size
  | 0, d, _, h => ⟨h, fun _ _ => rfl, rfl⟩
  | j + 1, d, hj, h => by
    rw [insInner]
    by_cases hc : (decide (j + 1 > 0) && lt d[j + 1]! d[j]!) = true
    · rw [if_pos hc]
      obtain ⟨i1, i2, i3⟩ := inner_all lt (Q := Q) j (swp d (j + 1) j) (by rw [size_swp]; omega) (fun p hp => by
        by_cases e : p = j
        · subst e; rw [swp_right d (p + 1) p (by omega)]; exact h _ (by omega)
        · rw [swp_other d (j + 1) j p (by omega) e]; exact h p (by omega))
      refine ⟨fun p hp => ?_, fun p hp => ?_, by rw [i3, size_swp]⟩
      · by_cases e : p = j + 1
        · subst e
          rw [i2 (j + 1) (by omega), swp_left d (j + 1) j hj (by omega)]
          exact h j (by omega)
        · exact i1 p (by omega)
      · rw [i2 p (by omega), swp_other d (j + 1) j p (by omega) (by omega)]
    · rw [if_neg hc]
      exact ⟨h, fun _ _ => rfl, rfl⟩
theorem outer_same (lt : Fin n → Fin n → Bool) (b : Nat) : ∀ (k i : Nat) (d : Array (Fin n)), b - i = k → b ≤ d.size → (∀ p, p < i → p < d.size → d[p]!.val < i) → (∀ p, i ≤ p → p < d.size → d[p]!.val = p) → insOuter lt 0 b i d = insOuter (lexOf lt) 0 b i d
  | 0, i, d, hk, _, _, _ => by
    rw [insOuter, if_neg (by omega), insOuter, if_neg (by omega)]
  | k + 1, i, d, hk, hb, h1, h2 => by
    have l1 : insOuter lt 0 b i d = insOuter lt 0 b (i + 1) (insInner lt 0 i d) := by rw [insOuter, if_pos (by omega)]
    have l2 : insOuter (lexOf lt) 0 b i d = insOuter (lexOf lt) 0 b (i + 1) (insInner (lexOf lt) 0 i d) := by rw [insOuter, if_pos (by omega)]
    rw [l1, l2]
    have hi := h2 i (Nat.le_refl _) (by omega)
    have e := inner_same lt i d (by omega) (fun p hp => by rw [hi]; exact h1 p hp (by omega))
    obtain ⟨a1, a2, a3⟩ := inner_all lt (Q := fun x => x.val < i + 1) i d (by omega) (fun p hp => by
      by_cases e : p = i
      · subst e; rw [hi]; omega
      · have := h1 p (by omega) (by omega); omega)
    rw [← e]
    refine outer_same lt b k (i + 1) _ (by omega) (by rw [a3]; exact hb) (fun p hp hs => a1 p (by omega)) (fun p hp hs => ?_)
    rw [a2 p (by omega)]
    exact h2 p (by omega) (by rw [a3] at hs; exact hs)
theorem ins_same (lt : Fin n → Fin n → Bool) : insertionSort lt (Array.ofFn fun i : Fin n => i) 0 n = insertionSort (lexOf lt) (Array.ofFn fun i : Fin n => i) 0 n := by
  have hs : (Array.ofFn fun i : Fin n => i).size = n := by simp
  have hg : ∀ p, p < n → ((Array.ofFn fun i : Fin n => i)[p]!).val = p := fun p hp => by
    rw [getElem!_pos _ p (by rw [hs]; exact hp)]
    simp
  unfold insertionSort
  refine outer_same lt n _ 1 _ rfl (by rw [hs]; exact Nat.le_refl _) (fun p hp hn => ?_) (fun p _ hn => hg p (by rw [hs] at hn; exact hn))
  rw [hg p (by rw [hs] at hn; exact hn)]; omega
/-- the order is by the rests -/
theorem sorted_rest {ms : Nat → Nat} {lt : Fin n → Fin n → Bool} (hlt : ∀ x y, lt x y = decide (ms y.val < ms x.val)) {d : Array (Fin n)} (hs : d.size = n) (hd : (d.toList.map fun x => x.val).Nodup) (h : SortedIn (lexOf lt) 0 n d) : (d.toList.map fun x => x.val).Pairwise (RestN ms) := by
  rw [List.pairwise_iff_getElem]
  intro i j hi hj hij
  have hi2 : i < d.size := by simpa using hi
  have hj2 : j < d.size := by simpa using hj
  have h1 := h i j (Nat.zero_le _) hij (by omega)
  rw [getElem!_pos d i hi2, getElem!_pos d j hj2] at h1
  have hne : d[j] ≠ d[i] := by
    intro e
    have h2 := (List.pairwise_iff_getElem.1 hd) i j hi hj hij
    apply h2
    simp [e]
  have h3 := lex_total h1 hne
  unfold lexOf at h3
  rw [hlt, hlt] at h3
  simp only [Bool.or_eq_true, Bool.and_eq_true, Bool.not_eq_true', decide_eq_true_eq, decide_eq_false_iff_not] at h3
  simp only [List.getElem_map, Array.getElem_toList]
  unfold RestN
  rcases h3 with h3 | ⟨h3, h4⟩
  · exact .inl h3
  · by_cases e : ms d[j].val < ms d[i].val
    · exact .inl e
    · exact .inr ⟨by omega, h4⟩
end
end Go.Proofs.YtbdbpcllndajgaaGreatDoor
