/- entry.Check: what it returns. -/
import Derived.Test.YtkeapacfmeblgaaGreatDoorEntE
namespace Go.Proofs.YtkeapacfmeblgaaGreatDoor
open Go Go.RowKit
set_option linter.unusedVariables false

/-- what is wrong with a line -/
def lineE (c : List Acc) (x : Line) : Int := if leafE c x.acc ≠ 0 then leafE c x.acc else if curB x.cur = false then 2 else if x.amt = 0 then 1 else if farB x = true then 1 else 0
/-- what is wrong with the first line that is -/
def linesE (c : List Acc) (l : List Line) : Int := match l.find? (fun x => lineE c x != 0) with | some x => lineE c x | none => 0
def LinesTo (c : List Acc) (l : List Line) (k : Nat) : Prop := ∀ (j : Nat) (h : j < l.length), j < k → lineE c l[j] = 0
theorem LinesTo.zero (c : List Acc) (l : List Line) : LinesTo c l 0 := fun _ _ h => absurd h (by omega)
theorem LinesTo.succ {c : List Acc} {l : List Line} {k : Nat} (h : LinesTo c l k) (hk : k < l.length) (hc : lineE c l[k] = 0) : LinesTo c l (k + 1) := by
  intro j hj hjk
  by_cases e : j = k
  · subst e; exact hc
  · exact h j hj (by omega)
theorem LinesTo.hit {c : List Acc} {l : List Line} {k : Nat} (h : LinesTo c l k) (hk : k < l.length) (hc : lineE c l[k] ≠ 0) : linesE c l = lineE c l[k] := by
  have : l.find? (fun x => lineE c x != 0) = some l[k] := by
    rw [List.find?_eq_some_iff_getElem]
    exact ⟨by simpa using hc, k, hk, rfl, fun j hj => by simpa using h j (by omega) hj⟩
  rw [linesE, this]
theorem LinesTo.all {c : List Acc} {l : List Line} {k : Nat} (h : LinesTo c l k) (hk : l.length ≤ k) : linesE c l = 0 := by
  have : l.find? (fun x => lineE c x != 0) = none := by
    rw [List.find?_eq_none]
    intro x hx
    obtain ⟨j, hj, rfl⟩ := List.getElem_of_mem hx
    simpa using h j hj (by omega)
  rw [linesE, this]
theorem linesE_0 {c : List Acc} {l : List Line} (h : linesE c l = 0) (x : Line) (hx : x ∈ l) : lineE c x = 0 := by
  unfold linesE at h
  cases hf : l.find? (fun x => lineE c x != 0) with
  | none =>
    rw [List.find?_eq_none] at hf
    simpa using hf x hx
  | some y =>
    rw [hf] at h
    have := List.find?_some hf
    simp [h] at this
theorem lineE_ok {c : List Acc} {x : Line} (h : lineE c x = 0) : leafE c x.acc = 0 ∧ curB x.cur = true ∧ x.amt ≠ 0 ∧ farB x = false := by
  unfold lineE at h
  by_cases h1 : leafE c x.acc = 0
  · rw [if_neg (by simpa using h1)] at h
    cases h2 : curB x.cur with
    | false => rw [if_pos h2] at h; cases h
    | true =>
      rw [if_neg (by rw [h2]; decide)] at h
      by_cases h3 : x.amt = 0
      · rw [if_pos h3] at h; cases h
      · rw [if_neg h3] at h
        cases h4 : farB x with
        | true => rw [if_pos h4] at h; cases h
        | false => exact ⟨h1, rfl, h3, rfl⟩
  · rw [if_pos h1] at h; exact absurd h h1

/-- what is wrong with an entry -/
def entE (c : List Acc) (ref : ByteArray) (ent per : Int) (l : List Line) : Int :=
  if chartE c ≠ 0 then chartE c else if refB ref = false then 2 else if inB 1 12 ent = false then 1 else if inB 1 120 per = false then 1 else if l.length < 2 then 3 else if 20 < l.length then 4 else
  if linesE c l ≠ 0 then linesE c l else if (canon (l.map blank)).any notZ = true then 11 else 0

section
variable {c : List Acc} {ref : ByteArray} {ent per : Int} {l : List Line}
theorem entE_1 (h : chartE c ≠ 0) : entE c ref ent per l = chartE c := by rw [entE, if_pos h]
theorem entE_2 (h : chartE c = 0) (h2 : refB ref = false) : entE c ref ent per l = 2 := by rw [entE, if_neg (by simpa using h), if_pos h2]
theorem entE_3 (h : chartE c = 0) (h2 : refB ref = true) (h3 : inB 1 12 ent = false) : entE c ref ent per l = 1 := by rw [entE, if_neg (by simpa using h), if_neg (by rw [h2]; decide), if_pos h3]
theorem entE_4 (h : chartE c = 0) (h2 : refB ref = true) (h3 : inB 1 12 ent = true) (h4 : inB 1 120 per = false) : entE c ref ent per l = 1 := by
  rw [entE, if_neg (by simpa using h), if_neg (by rw [h2]; decide), if_neg (by rw [h3]; decide), if_pos h4]
theorem entE_5 (h : chartE c = 0) (h2 : refB ref = true) (h3 : inB 1 12 ent = true) (h4 : inB 1 120 per = true) : entE c ref ent per l = if l.length < 2 then 3 else if 20 < l.length then 4 else
  if linesE c l ≠ 0 then linesE c l else if (canon (l.map blank)).any notZ = true then 11 else 0 := by
  rw [entE, if_neg (by simpa using h), if_neg (by rw [h2]; decide), if_neg (by rw [h3]; decide), if_neg (by rw [h4]; decide)]
end

/-- the texts of lines fit -/
def LinesOk (l : List Line) : Prop := ∀ x, x ∈ l → x.acc.size ≤ 9223372036854775807 ∧ x.cur.size ≤ 9223372036854775807

/-- an entry lies at a block's head -/
def EntAt (w : World) (g : Nat) (ref : ByteArray) (ent per : Int) (v : Value) : Prop :=
  w.cell? ⟨g, 0, none⟩ = some (.string ref) ∧ w.cell? ⟨g, 1, none⟩ = some (.int .i64 ent) ∧ w.cell? ⟨g, 2, none⟩ = some (.int .i64 per) ∧ w.cell? ⟨g, 3, none⟩ = some v
theorem EntAt.below {w w' : World} {g : Nat} {ref : ByteArray} {ent per : Int} {v : Value} (h : EntAt w g ref ent per v) (hb : Below w.heap.size w w') : EntAt w' g ref ent per v := by
  obtain ⟨h0, h1, h2, h3⟩ := h
  have hg := World.block_lt_of_cell? _ _ h0
  exact ⟨below_cell hb hg h0, below_cell hb hg h1, below_cell hb hg h2, below_cell hb hg h3⟩

end Go.Proofs.YtkeapacfmeblgaaGreatDoor
