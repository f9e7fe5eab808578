/- Pools, in plain words: what is wrong with them, what they give out. -/
import Derived.Test.YtbdbpcllndajgaaGreatDoorOpenX
import Derived.Test.YtbdbpcllndajgaaGreatDoorOpenY
import Derived.Test.YtbdbpcllndajgaaGreatDoorBalY
import Derived.Test.YtbdbpcllndajgaaGreatDoorShrP
namespace Go.Proofs.YtbdbpcllndajgaaGreatDoor
open Go Go.RowKit
set_option linter.unusedVariables false

def ratB (x : Int) : Bool := inB 0 1000000000 x
/-- what is wrong with weights -/
def shE (ws : List Int) : Int := if 40 < ws.length then 4 else if ws.all ratB = false then 1 else if sumTo ws ws.length = 0 then 6 else 0
/-- what is wrong with the accounts that get something -/
def toAt (c : List Acc) (p : Pol) (i : Nat) : Int := match p.to[i]? with | none => 0 | some t => if leafE c t ≠ 0 then leafE c t else if t.toList = p.acc.toList ∨ (p.to.take i).any (fun s => t.toList == s.toList) = true then 8 else 0
def poolE (c : List Acc) (p : Pol) : Int :=
  if leafE c p.acc ≠ 0 then leafE c p.acc else if curB p.cur = false then 2 else if p.to.length = 0 ∨ p.to.length ≠ p.ws.length then 3 else if 19 < p.to.length then 4
  else if firstE (toAt c p) p.to.length ≠ 0 then firstE (toAt c p) p.to.length else shE p.ws
def poolAt (c : List Acc) (l : List Pol) (k : Nat) : Int := match l[k]? with | none => 0 | some p => poolE c p
def poolsE (c : List Acc) (l : List Pol) : Int := if chartE c ≠ 0 then chartE c else if 20 < l.length then 4 else firstE (poolAt c l) l.length
section
variable {c : List Acc} {l : List Pol} {p : Pol} {k : Nat}
theorem shE_4 {ws : List Int} (h : 40 < ws.length) : shE ws = 4 := if_pos h
theorem shE_1 {ws : List Int} (h : ¬ 40 < ws.length) (h2 : ws.all ratB = false) : shE ws = 1 := by rw [shE, if_neg h, if_pos h2]
theorem shE_6 {ws : List Int} (h : ¬ 40 < ws.length) (h2 : ws.all ratB = true) (h3 : sumTo ws ws.length = 0) : shE ws = 6 := by rw [shE, if_neg h, if_neg (by rw [h2]; decide), if_pos h3]
theorem shE_0 {ws : List Int} (h : ¬ 40 < ws.length) (h2 : ws.all ratB = true) (h3 : sumTo ws ws.length ≠ 0) : shE ws = 0 := by rw [shE, if_neg h, if_neg (by rw [h2]; decide), if_neg h3]
theorem shE_good {ws : List Int} (h : shE ws = 0) : ws.length ≤ 40 ∧ (∀ x ∈ ws, 0 ≤ x ∧ x ≤ 1000000000) ∧ 0 < sumTo ws ws.length := by
  unfold shE at h
  split at h
  · cases h
  · split at h
    · cases h
    · split at h
      · cases h
      · rename_i h1 h2 h3
        have h4 : ∀ x ∈ ws, 0 ≤ x ∧ x ≤ 1000000000 := by
          intro x hx
          have := List.all_eq_true.1 (by simpa using h2) x hx
          unfold ratB inB at this
          simpa using this
        have h5 := sum_nonneg ws fun x hx => (h4 x hx).1
        rw [sumTo_eq_sum] at h3 ⊢
        exact ⟨by omega, h4, by omega⟩
theorem shE_range (ws : List Int) : 0 ≤ shE ws ∧ shE ws ≤ 12 := by unfold shE; repeat' split
                                                                   all_goals omega
theorem toAt_range (c : List Acc) (p : Pol) (i : Nat) : 0 ≤ toAt c p i ∧ toAt c p i ≤ 12 := by
  unfold toAt
  split
  · omega
  · rename_i t _
    have := leafE_range c t
    split
    · exact this
    · split <;> omega
theorem poolE_range (c : List Acc) (p : Pol) : 0 ≤ poolE c p ∧ poolE c p ≤ 12 := by
  have h1 := leafE_range c p.acc
  have h2 := firstE_range (toAt_range c p) p.to.length
  have h3 := shE_range p.ws
  unfold poolE
  repeat' split
  all_goals first | omega | exact h1 | exact h2 | exact h3
theorem poolAt_range (c : List Acc) (l : List Pol) (k : Nat) : 0 ≤ poolAt c l k ∧ poolAt c l k ≤ 12 := by
  unfold poolAt
  split
  · omega
  · exact poolE_range _ _
theorem poolsE_range (c : List Acc) (l : List Pol) : 0 ≤ poolsE c l ∧ poolsE c l ≤ 12 := by
  unfold poolsE
  split
  · exact chartE_range c
  · split
    · omega
    · exact firstE_range (poolAt_range c l) _
theorem toAt_some {i : Nat} (h : i < p.to.length) : toAt c p i = if leafE c p.to[i] ≠ 0 then leafE c p.to[i] else if p.to[i].toList = p.acc.toList ∨ (p.to.take i).any (fun s => p.to[i].toList == s.toList) = true then 8 else 0 := by
  unfold toAt
  rw [List.getElem?_eq_getElem h]
theorem poolAt_some (h : k < l.length) : poolAt c l k = poolE c l[k] := by
  unfold poolAt
  rw [List.getElem?_eq_getElem h]
end

/-- what a pool gives, an account at a time -/
def giveTo (p : Pol) (s : List Int) (k : Nat) : List Line := ((p.to.zip s).take k).filterMap fun x => if x.2 ≠ 0 then some ⟨x.1, p.cur, x.2⟩ else none
theorem giveTo_0 (p : Pol) (s : List Int) : giveTo p s 0 = [] := rfl
theorem giveTo_succ {p : Pol} {s : List Int} {k : Nat} (h1 : k < p.to.length) (h2 : k < s.length) : giveTo p s (k + 1) = giveTo p s k ++ (if s[k] ≠ 0 then [⟨p.to[k], p.cur, s[k]⟩] else []) := by
  unfold giveTo
  have hk : k < (p.to.zip s).length := by rw [List.length_zip]; omega
  rw [List.take_succ_eq_append_getElem hk, List.filterMap_append]
  congr 1
  simp only [List.getElem_zip]
  by_cases h : s[k] ≠ 0
  · rw [if_pos h, List.filterMap_cons, if_pos h]; rfl
  · rw [if_neg h, List.filterMap_cons, if_neg h]; rfl
theorem giveTo_len (p : Pol) (s : List Int) (k : Nat) : (giveTo p s k).length ≤ k := by
  unfold giveTo
  have h1 := List.length_filterMap_le (fun x : ByteArray × Int => if x.2 ≠ 0 then some (⟨x.1, p.cur, x.2⟩ : Line) else none) ((p.to.zip s).take k)
  have h2 := List.length_take_le k (p.to.zip s)
  omega
theorem giveTo_mem {p : Pol} {s : List Int} {k : Nat} {y : Line} (h : y ∈ giveTo p s k) : y.acc ∈ p.to ∧ y.cur = p.cur ∧ y.amt ∈ s ∧ y.amt ≠ 0 := by
  unfold giveTo at h
  obtain ⟨x, hx, hy⟩ := List.mem_filterMap.1 h
  have hx2 := List.mem_of_mem_take hx
  by_cases h0 : x.2 ≠ 0
  · rw [if_pos h0] at hy
    injection hy with hy
    subst hy
    obtain ⟨a, b⟩ := x
    exact ⟨(List.of_mem_zip hx2).1, rfl, (List.of_mem_zip hx2).2, h0⟩
  · rw [if_neg h0] at hy; cases hy
theorem giveTo_sum (p : Pol) : ∀ (to : List ByteArray) (s : List Int), s.length ≤ to.length → (((to.zip s).filterMap fun x => if x.2 ≠ 0 then some (⟨x.1, p.cur, x.2⟩ : Line) else none).map (·.amt)).sum = s.sum
  | _, [], _ => by simp
  | [], a :: s, h => by simp at h
  | t :: to, a :: s, h => by
    have ih := giveTo_sum p to s (by simpa using h)
    rw [List.zip_cons_cons, List.filterMap_cons]
    by_cases h0 : a ≠ 0
    · rw [if_pos (show (t, a).2 ≠ 0 from h0)]
      simp only [List.map_cons, List.sum_cons]
      rw [ih]
    · rw [if_neg (show ¬ (t, a).2 ≠ 0 from h0)]
      simp only
      rw [ih, List.sum_cons]
      omega
end Go.Proofs.YtbdbpcllndajgaaGreatDoor
