/- chart.line, strings.Lines: what each gives. -/
import Derived.Test.YthmjkhlndphldaaDoorPrsB
import Derived.Test.YthmjkhlndphldaaDoorRngA
namespace Go.Proofs.YthmjkhlndphldaaDoor
open Go Go.RowKit Go.Shelf
set_option linter.unusedVariables false
attribute [local go_sem] Oper.semAt_some

theorem lineA_len {w : List (List UInt8)} (h : w.length ≠ 5) : lineA w = none := by
  unfold lineA
  split
  · exact absurd rfl h
  · rfl
theorem five_of {α : Type} {l : List α} (h : l.length = 5) : ∃ a b c d e, l = [a, b, c, d, e] := by
  rcases l with _ | ⟨a, _ | ⟨b, _ | ⟨c, _ | ⟨d, _ | ⟨e, _ | ⟨f, l⟩⟩⟩⟩⟩⟩ <;> simp at h
  exact ⟨a, b, c, d, e, rfl⟩
/-- chart.line: the account of a line, or false -/
theorem line_any (s : ByteArray) (w : World) (hs : s.size < 4294967281) :
    Calls Tryd.prog 50 #[.string s] w fun e w' => ∃ (a : Acc) (b : Bool), e = .returned (.tuple #[accV a, .bool b]) ∧ (b = true → lineA (cutL 32 s.data.toList) = some a) ∧ (b = false → lineA (cutL 32 s.data.toList) = none) ∧ Below w.heap.size w w' := by
  by_cases h5 : (cutL 32 s.data.toList).length = 5
  · obtain ⟨c, n, k, m, p, h⟩ := five_of h5
    have hpl : p.length ≤ 9223372036854775807 := by
      have := cutL_part (c := 32) s.data.toList p (by rw [h]; simp)
      rw [← Lib.size_eq] at this
      omega
    have e5 : ∀ (a : Acc) (b : Option Acc), lineA [c, n, k, m, p] = b → lineA (cutL 32 s.data.toList) = b := fun a b e => by rw [h]; exact e
    have neg : (k.length ≠ 1 ∨ (m ≠ [109] ∧ m ≠ [45])) → lineA [c, n, k, m, p] = none := by
      rintro (e | e)
      · have : kindOf k = 0 := by
          by_cases e2 : kindOf k = 0
          · exact e2
          · exfalso
            rcases kindOf_cases e2 with ⟨rfl, _⟩ | ⟨rfl, _⟩ | ⟨rfl, _⟩ | ⟨rfl, _⟩ | ⟨rfl, _⟩ <;> exact e rfl
        exact if_pos this
      · show (if _ then _ else _) = _
        by_cases e2 : kindOf k = 0
        · rw [if_pos e2]
        · rw [if_neg e2, if_pos e]
    by_cases hb : k.length ≠ 1 ∨ (m ≠ [109] ∧ m ≠ [45])
    · refine (line_c3 s w hs c n k m p h hb).mono ?_
      rintro e w' ⟨a, rfl, hbw⟩
      exact ⟨a, false, rfl, (fun e => by cases e), fun _ => e5 a _ (neg hb), hbw⟩
    · obtain ⟨x, rfl⟩ : ∃ x, k = [x] := List.length_eq_one_iff.1 (by
        by_cases e : k.length = 1
        · exact e
        · exact absurd (.inl e) hb)
      have hm : m = [109] ∨ m = [45] := by
        by_cases e : m = [109]
        · exact .inl e
        · by_cases e2 : m = [45]
          · exact .inr e2
          · exact absurd (.inr ⟨e, e2⟩) hb
      have hm2 : ¬ (m ≠ [109] ∧ m ≠ [45]) := fun e => hb (.inr e)
      have hk := kindI_of x
      -- what the line is read as, where the parent is well
      have yes : ∀ (par : ByteArray) (mo : Bool), decide (m = [109]) = mo → ((p = [45] ∧ par = ⟨#[]⟩) ∨ (p ≠ [45] ∧ digitsB (bs p) 6 = true ∧ par = bs p)) →
          (decide (0 < kindI x) = true → lineA [c, n, [x], m, p] = some ⟨bs c, bs n, kindI x, par, mo⟩) ∧ (decide (0 < kindI x) = false → lineA [c, n, [x], m, p] = none) := by
        intro par mo hmo hp
        constructor
        · intro e
          have e := of_decide_eq_true e
          rw [if_pos e] at hk
          show (if _ then _ else _) = _
          rw [if_neg (by omega), if_neg hm2, hk, hmo]
          rcases hp with ⟨e1, e2⟩ | ⟨e1, e2, e3⟩
          · rw [if_pos e1, e2]
          · rw [if_neg e1, if_neg (by rw [e2]; decide), e3]
        · intro e
          have e := of_decide_eq_false e
          rw [if_neg e] at hk
          exact if_pos hk
      by_cases hp : p = [45]
      · rcases hm with rfl | rfl
        · refine (line_Am s w hs c n p x h hp).mono ?_
          rintro e w' ⟨rfl, hbw⟩
          have := yes ⟨#[]⟩ true rfl (.inl ⟨hp, rfl⟩)
          exact ⟨_, _, rfl, fun e => e5 ⟨⟨#[]⟩, ⟨#[]⟩, 0, ⟨#[]⟩, false⟩ _ (this.1 e), fun e => e5 ⟨⟨#[]⟩, ⟨#[]⟩, 0, ⟨#[]⟩, false⟩ _ (this.2 e), hbw⟩
        · refine (line_An s w hs c n p x h hp).mono ?_
          rintro e w' ⟨rfl, hbw⟩
          have := yes ⟨#[]⟩ false rfl (.inl ⟨hp, rfl⟩)
          exact ⟨_, _, rfl, fun e => e5 ⟨⟨#[]⟩, ⟨#[]⟩, 0, ⟨#[]⟩, false⟩ _ (this.1 e), fun e => e5 ⟨⟨#[]⟩, ⟨#[]⟩, 0, ⟨#[]⟩, false⟩ _ (this.2 e), hbw⟩
      · cases hd : digitsB (bs p) 6 with
        | false =>
          have no : lineA [c, n, [x], m, p] = none := by
            show (if _ then _ else _) = _
            by_cases e2 : kindOf [x] = 0
            · rw [if_pos e2]
            · rw [if_neg e2, if_neg hm2, if_neg hp, if_pos hd]
          rcases hm with rfl | rfl
          · refine (line_Bm s w hs c n p x h hp hd hpl).mono ?_
            rintro e w' ⟨rfl, hbw⟩
            exact ⟨_, _, rfl, (fun e => by cases e), fun _ => e5 ⟨⟨#[]⟩, ⟨#[]⟩, 0, ⟨#[]⟩, false⟩ _ no, hbw⟩
          · refine (line_Bn s w hs c n p x h hp hd hpl).mono ?_
            rintro e w' ⟨rfl, hbw⟩
            exact ⟨_, _, rfl, (fun e => by cases e), fun _ => e5 ⟨⟨#[]⟩, ⟨#[]⟩, 0, ⟨#[]⟩, false⟩ _ no, hbw⟩
        | true =>
          rcases hm with rfl | rfl
          · refine (line_Cm s w hs c n p x h hp hd hpl).mono ?_
            rintro e w' ⟨rfl, hbw⟩
            have := yes (bs p) true rfl (.inr ⟨hp, hd, rfl⟩)
            exact ⟨_, _, rfl, fun e => e5 ⟨⟨#[]⟩, ⟨#[]⟩, 0, ⟨#[]⟩, false⟩ _ (this.1 e), fun e => e5 ⟨⟨#[]⟩, ⟨#[]⟩, 0, ⟨#[]⟩, false⟩ _ (this.2 e), hbw⟩
          · refine (line_Cn s w hs c n p x h hp hd hpl).mono ?_
            rintro e w' ⟨rfl, hbw⟩
            have := yes (bs p) false rfl (.inr ⟨hp, hd, rfl⟩)
            exact ⟨_, _, rfl, fun e => e5 ⟨⟨#[]⟩, ⟨#[]⟩, 0, ⟨#[]⟩, false⟩ _ (this.1 e), fun e => e5 ⟨⟨#[]⟩, ⟨#[]⟩, 0, ⟨#[]⟩, false⟩ _ (this.2 e), hbw⟩
  · refine (line_c1 s w hs h5).mono ?_
    rintro e w' ⟨a, rfl, hbw⟩
    exact ⟨a, false, rfl, (fun e => by cases e), fun _ => lineA_len h5, hbw⟩
end Go.Proofs.YthmjkhlndphldaaDoor
