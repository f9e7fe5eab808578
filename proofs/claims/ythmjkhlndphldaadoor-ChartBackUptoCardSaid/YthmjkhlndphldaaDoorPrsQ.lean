/- The library's pieces and places, in the plain words for a text that is cut. -/
import Derived.Test.YthmjkhlndphldaaDoorPrsP
import Derived.Lib.SplitLaws
import Derived.Lib.IndexLaws
import Derived.Lib.IndexBytes
namespace Go.Proofs.YthmjkhlndphldaaDoor
open Go Go.RowKit
set_option linter.unusedVariables false

theorem cut_idx {c : UInt8} {l : List UInt8} {i : Nat} (h : l[i]? = some c) (hn : ∀ k, k < i → l[k]? ≠ some c) : l = l.take i ++ c :: l.drop (i + 1) ∧ c ∉ l.take i := by
  obtain ⟨hi, e⟩ := List.getElem?_eq_some_iff.1 h
  refine ⟨?_, fun hm => ?_⟩
  · rw [← e, ← List.drop_eq_getElem_cons hi, List.take_append_drop]
  · rw [List.mem_take_iff_getElem] at hm
    obtain ⟨k, hk, e2⟩ := hm
    exact hn k (by omega) (by rw [List.getElem?_eq_getElem (by omega), e2])
theorem idx_cases (l : List UInt8) (c : UInt8) : (Lib.indexByte l c = -1 ∧ c ∉ l) ∨ ∃ i : Nat, Lib.indexByte l c = i ∧ i < l.length ∧ l = l.take i ++ c :: l.drop (i + 1) ∧ c ∉ l.take i := by
  by_cases h : Lib.indexByte l c = -1
  · refine .inl ⟨h, fun hm => ?_⟩
    obtain ⟨k, hk, e⟩ := List.getElem_of_mem hm
    exact Lib.indexByte_none h k (by rw [List.getElem?_eq_getElem hk, e])
  · have h0 := Lib.indexByte_ge l c
    obtain ⟨i, hi⟩ : ∃ i : Nat, Lib.indexByte l c = i := ⟨(Lib.indexByte l c).toNat, by omega⟩
    obtain ⟨h1, h2⟩ := Lib.indexByte_some hi
    obtain ⟨h3, h4⟩ := cut_idx h1 h2
    exact .inr ⟨i, hi, (List.getElem?_eq_some_iff.1 h1).1, h3, h4⟩
theorem splitK_cut (c : UInt8) : ∀ (k : Nat) (s : List UInt8), s.count c = k → Lib.splitK [c] 0 k s = cutL c s := by
  intro k
  induction k with
  | zero =>
    intro s h
    show [s] = _
    rw [cutL_none (List.count_eq_zero.1 h)]
  | succ k ih =>
    intro s h
    have hix := Lib.index_one s c
    rcases idx_cases s c with ⟨h1, h2⟩ | ⟨i, h1, hi, h2, h3⟩
    · rw [List.count_eq_zero.2 h2] at h; omega
    · have hc : (s.drop (i + 1)).count c = k := by
        rw [h2, List.count_append, List.count_cons_self, List.count_eq_zero.2 h3] at h
        omega
      have h4 := ih _ hc
      unfold Lib.splitK
      rw [hix, h1, if_neg (by rw [beq_iff_eq]; omega)]
      show s.take (((i : Nat) : Int).toNat + 0) :: Lib.splitK [c] 0 k (s.drop (((i : Nat) : Int).toNat + 1)) = _
      rw [Int.toNat_natCast, Nat.add_zero, h4]
      conv => rhs; rw [h2]
      rw [cutL_at h3]
theorem list_bs {l : List ByteArray} {m : List (List UInt8)} (h : l.map (·.data.toList) = m) : l = m.map bs := by
  rw [← h, List.map_map]
  exact (List.map_id l).symm
/-- strings.Split at one byte -/
theorem split_one (s : ByteArray) (c : UInt8) : Lib.splitB ⟨#[c]⟩ 0 (Lib.countB s ⟨#[c]⟩) s = (cutL c s.data.toList).map bs := by
  refine list_bs ?_
  rw [Lib.splitB_data]
  have : Lib.countB s ⟨#[c]⟩ = s.data.toList.count c := Lib.count_one c s.data.toList
  rw [this]
  exact splitK_cut c _ _ rfl
theorem count_cut (s : ByteArray) (c : UInt8) : Lib.countB s ⟨#[c]⟩ + 1 = (cutL c s.data.toList).length := by
  have h := Lib.splitB_all ⟨#[c]⟩ (Nat.le_refl 1) 0 _ s rfl
  rw [split_one, List.length_map] at h
  exact h.symm
/-- where the first line ends -/
def nlI (s : ByteArray) : Int := Lib.indexByte s.data.toList 10
/-- the first line, and what is behind it -/
def headB (s : ByteArray) : ByteArray := if 0 ≤ nlI s then s.extract 0 ((nlI s).toNat + 1) else s
def tailB (s : ByteArray) : ByteArray := if 0 ≤ nlI s then s.extract ((nlI s).toNat + 1) s.size else ⟨#[]⟩
theorem ext_data (s : ByteArray) (a b : Nat) : (s.extract a b).data.toList = (s.data.toList.drop a).take (b - a) := by
  rw [← Lib.extract_toList, ByteArray.toList_eq]
theorem data_inj {a b : ByteArray} (h : a.data.toList = b.data.toList) : a = b := by
  have : a.data = b.data := Array.toList_inj.1 h
  cases a; cases b; simp_all
theorem line_cases (s : ByteArray) : (∃ i : Nat, nlI s = i ∧ i < s.size ∧ headB s = s.extract 0 (i + 1) ∧ tailB s = s.extract (i + 1) s.size ∧ ∃ p : List UInt8, (10 : UInt8) ∉ p ∧ headB s = bs (p ++ [10]) ∧ p.length ≤ s.size ∧ cutL 10 s.data.toList = p :: cutL 10 (tailB s).data.toList) ∨
    (nlI s = -1 ∧ headB s = s ∧ tailB s = ⟨#[]⟩ ∧ (10 : UInt8) ∉ s.data.toList ∧ cutL 10 s.data.toList = [s.data.toList]) := by
  have hsz : s.size = s.data.toList.length := Lib.size_eq s
  rcases idx_cases s.data.toList 10 with ⟨h1, h2⟩ | ⟨i, h1, hi, h2, h3⟩
  · exact .inr ⟨h1, if_neg (by unfold nlI; omega), if_neg (by unfold nlI; omega), h2, cutL_none h2⟩
  · have hn : nlI s = i := h1
    have e1 : headB s = s.extract 0 (i + 1) := by unfold headB; rw [hn, if_pos (by omega), Int.toNat_natCast]
    have e2 : tailB s = s.extract (i + 1) s.size := by unfold tailB; rw [hn, if_pos (by omega), Int.toNat_natCast]
    refine .inl ⟨i, hn, by omega, e1, e2, s.data.toList.take i, h3, ?_, by rw [List.length_take]; omega, ?_⟩
    · refine data_inj ?_
      have hg := (Lib.indexByte_some (show Lib.indexByte s.data.toList 10 = (i : Int) from h1)).1
      rw [List.getElem?_eq_getElem hi] at hg
      rw [e1, ext_data, bs_data, List.drop_zero, Nat.sub_zero, List.take_succ_eq_append_getElem hi, Option.some.inj hg]
    · rw [e2, ext_data, List.take_of_length_le (l := s.data.toList.drop (i + 1)) (by rw [List.length_drop]; omega)]
      conv => lhs; rw [h2]
      exact cutL_at h3 _
theorem tail_lt {s : ByteArray} (h : s.size ≠ 0) : (tailB s).size < s.size := by
  rcases line_cases s with ⟨i, _, hi, _, e, _⟩ | ⟨_, _, e, _⟩
  · rw [e, Lib.size_eq, ext_data, List.length_take, List.length_drop, ← Lib.size_eq]; omega
  · rw [e]; show 0 < _; omega
theorem head_le (s : ByteArray) : (headB s).size ≤ s.size := by
  rcases line_cases s with ⟨i, _, hi, e, _⟩ | ⟨_, e, _⟩
  · rw [e, Lib.size_eq, ext_data, List.length_take, List.length_drop, ← Lib.size_eq]; omega
  · rw [e]; exact Nat.le_refl _
/-- a line's end taken off -/
theorem suffix_yes (p : List UInt8) : Lib.trimSuffix (bs (p ++ [10])).data.toList (⟨#[10]⟩ : ByteArray).data.toList = p ∧ Lib.hasSuffix (bs (p ++ [10])).data.toList (⟨#[10]⟩ : ByteArray).data.toList = true := by
  have h : Lib.hasSuffix (p ++ [10]) [10] = true := by
    unfold Lib.hasSuffix
    rw [List.isSuffixOf_iff_suffix]
    exact ⟨p, rfl⟩
  refine ⟨?_, h⟩
  show Lib.trimSuffix (p ++ [10]) [10] = p
  unfold Lib.trimSuffix
  rw [if_pos h]
  simp
theorem suffix_no {s : ByteArray} (h : (10 : UInt8) ∉ s.data.toList) : Lib.hasSuffix s.data.toList (⟨#[10]⟩ : ByteArray).data.toList = false := by
  cases hs : Lib.hasSuffix s.data.toList (⟨#[10]⟩ : ByteArray).data.toList with
  | false => rfl
  | true =>
    unfold Lib.hasSuffix at hs
    rw [List.isSuffixOf_iff_suffix] at hs
    obtain ⟨t, e⟩ := hs
    exact absurd (by rw [← e]; simp) h
theorem parse_hit {p : List UInt8} {s : List UInt8} (acc : List Acc) : parseR (p :: cutL 10 s) acc = match lineA (cutL 32 p) with
    | none => ([], (acc.length : Int), 2)
    | some a => if acc.length = 60 then ([], (acc.length : Int), 4) else if accF acc a = 0 then parseR (cutL 10 s) (acc ++ [a]) else ([], (acc.length : Int), accF acc a) := parse_two p (cutL_ne s) acc
theorem parse_end {p : List UInt8} (h : p ≠ []) (acc : List Acc) : parseR [p] acc = ([], (acc.length : Int), 2) := if_neg h
theorem parse_done (acc : List Acc) : parseR (cutL 10 []) acc = (acc, 0, 0) := rfl
/-- an account that is read from a line has texts no longer than the line -/
theorem lineA_small {p : List UInt8} {a : Acc} (h : lineA (cutL 32 p) = some a) : a.code.size ≤ p.length ∧ a.name.size ≤ p.length ∧ a.parent.size ≤ p.length + 1 := by
  have hp := cutL_part (c := 32) p
  generalize cutL 32 p = w at *
  unfold lineA at h
  split at h
  · rename_i c n k m q
    have h1 := hp c (by simp)
    have h2 := hp n (by simp)
    have h3 := hp q (by simp)
    by_cases e1 : kindOf k = 0
    · rw [if_pos e1] at h; cases h
    · rw [if_neg e1] at h
      by_cases e2 : m ≠ [109] ∧ m ≠ [45]
      · rw [if_pos e2] at h; cases h
      · rw [if_neg e2] at h
        by_cases e3 : q = [45]
        · rw [if_pos e3] at h
          injection h with h
          subst h
          exact ⟨h1, h2, by show 0 ≤ _; omega⟩
        · rw [if_neg e3] at h
          by_cases e4 : digitsB (bs q) 6 = false
          · rw [if_pos e4] at h; cases h
          · rw [if_neg e4] at h
            injection h with h
            subst h
            exact ⟨h1, h2, Nat.le_succ_of_le h3⟩
  · cases h
/-- behind i bytes: the pieces that are whole, and where the next one began -/
structure CutTo (c : UInt8) (s : ByteArray) (f i : Nat) (out : List (List UInt8)) : Prop where
  le : f ≤ i
  all : cutL c s.data.toList = out ++ glue (s.extract f i).data.toList (cutL c (s.data.toList.drop i))
  free : c ∉ (s.extract f i).data.toList
  few : out.length ≤ i
section
variable {c : UInt8} {s : ByteArray} {f i : Nat} {out : List (List UInt8)}
theorem ext_nil (s : ByteArray) (i : Nat) : (s.extract i i).data.toList = [] := by rw [ext_data, Nat.sub_self, List.take_zero]
theorem CutTo.zero (c : UInt8) (s : ByteArray) : CutTo c s 0 0 [] := by
  refine ⟨Nat.le_refl _, ?_, by rw [ext_nil]; simp, by simp⟩
  rw [ext_nil, glue_nil (cutL_ne _), List.drop_zero]; rfl
theorem drop_at (hi : i < s.size) : s.data.toList.drop i = s[i] :: s.data.toList.drop (i + 1) := by
  have h : i < s.data.toList.length := by rw [← Lib.size_eq]; exact hi
  rw [List.drop_eq_getElem_cons h]; rfl
theorem ext_succ (hf : f ≤ i) (hi : i < s.size) : (s.extract f (i + 1)).data.toList = (s.extract f i).data.toList ++ [s[i]] := by
  have h : i < s.data.toList.length := by rw [← Lib.size_eq]; exact hi
  rw [ext_data, ext_data, show i + 1 - f = (i - f) + 1 from by omega, List.take_succ_eq_append_getElem (by rw [List.length_drop]; omega)]
  congr 1
  rw [List.getElem_drop]
  show [s.data.toList[f + (i - f)]] = [s.data.toList[i]]
  simp only [show f + (i - f) = i from by omega]
theorem CutTo.hit (h : CutTo c s f i out) (hi : i < s.size) (hc : s[i] = c) : CutTo c s (i + 1) (i + 1) (out ++ [(s.extract f i).data.toList]) := by
  refine ⟨Nat.le_refl _, ?_, by rw [ext_nil]; simp, by have := h.few; simp; omega⟩
  rw [h.all, drop_at hi, hc, cutL_hit, ext_nil, glue_nil (cutL_ne _)]
  simp [glue]
theorem CutTo.miss (h : CutTo c s f i out) (hi : i < s.size) (hc : s[i] ≠ c) : CutTo c s f (i + 1) out := by
  refine ⟨Nat.le_succ_of_le h.le, ?_, ?_, Nat.le_succ_of_le h.few⟩
  · rw [h.all, drop_at hi, cutL_cons hc, glue_glue, ext_succ h.le hi]
  · rw [ext_succ h.le hi]
    intro hm
    rcases List.mem_append.1 hm with hm | hm
    · exact h.free hm
    · exact hc (List.mem_singleton.1 hm).symm
theorem CutTo.done (h : CutTo c s f i out) (hi : i = s.size) : cutL c s.data.toList = out ++ [(s.extract f s.size).data.toList] := by
  subst hi
  rw [h.all, List.drop_of_length_le (by rw [← Lib.size_eq]; exact Nat.le_refl _)]
  simp [cutL, glue]
end
end Go.Proofs.YthmjkhlndphldaaDoor
