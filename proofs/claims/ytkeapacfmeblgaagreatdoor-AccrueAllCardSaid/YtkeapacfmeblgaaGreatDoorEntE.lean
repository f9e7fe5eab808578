/- entry.small, entry.Sums: what each returns. -/
import Derived.Test.YtkeapacfmeblgaaGreatDoorEntX
import Derived.Test.YtkeapacfmeblgaaGreatDoorEntD
import Derived.Test.YtkeapacfmeblgaaGreatDoorChartX
namespace Go.Proofs.YtkeapacfmeblgaaGreatDoor
open Go Go.RowKit
set_option linter.unusedVariables false

def farB (x : Line) : Bool := !inB (-1000000000000000) 1000000000000000 x.amt
def notZ (x : Line) : Bool := x.amt != 0

/-- what is wrong with lines that are added up -/
def smallE (l : List Line) : Int := if 20 < l.length then 4 else if l.any farB = true then 1 else 0
theorem smallE_ok {l : List Line} (h : smallE l = 0) : l.length ≤ 20 ∧ Bnd 1000000000000000 l := by
  unfold smallE at h
  by_cases h20 : 20 < l.length
  · rw [if_pos h20] at h; cases h
  · rw [if_neg h20] at h
    refine ⟨by omega, fun x hx => ?_⟩
    cases h2 : l.any farB with
    | true => rw [if_pos h2] at h; cases h
    | false =>
      rw [List.any_eq_false] at h2
      have := h2 x hx
      simp only [farB, inB, Bool.not_eq_true, Bool.not_eq_false', Bool.and_eq_true, decide_eq_true_eq] at this
      exact this
theorem smallE_of {l : List Line} (h : l.length ≤ 20) (hb : Bnd 1000000000000000 l) : smallE l = 0 := by
  rw [smallE, if_neg (by omega), if_neg ?_]
  rw [Bool.not_eq_true, List.any_eq_false]
  intro x hx
  have := hb x hx
  simp [farB, inB, this]

/-- a line without its account -/
def blank (x : Line) : Line := ⟨⟨#[]⟩, x.cur, x.amt⟩
def blankTo (l : List Line) (k : Nat) : List Line := (l.take k).map blank ++ l.drop k
theorem blankTo_len (l : List Line) (k : Nat) : (blankTo l k).length = l.length := by
  unfold blankTo
  rw [List.length_append, List.length_map, List.length_take, List.length_drop]; omega
theorem blankTo_get (l : List Line) (k : Nat) (h : k < l.length) : (blankTo l k)[k]'(by rw [blankTo_len]; exact h) = l[k] := by
  unfold blankTo
  rw [List.getElem_append_right (by simp; omega)]
  simp [Nat.min_eq_left (Nat.le_of_lt h)]
theorem blankTo_succ (l : List Line) (k : Nat) (h : k < l.length) : blankTo l (k + 1) = (blankTo l k).set k (blank l[k]) := by
  unfold blankTo
  have hk : ((l.take k).map blank).length = k := by simp; omega
  rw [List.set_append_right _ _ (by omega), hk, Nat.sub_self, List.drop_eq_getElem_cons h, List.set_cons_zero, List.take_succ_eq_append_getElem h, List.map_append, List.append_assoc]
  rfl
theorem blankTo_all (l : List Line) : blankTo l l.length = l.map blank := by simp [blankTo]

def entV (ref : ByteArray) (ent per : Int) (A : Option Addr) (n c : Nat) : Value := .agg #[.string ref, .int .i64 ent, .int .i64 per, .slice A n c]
/-- handed back: a slice of the call's own, and no error -/
def GivesOwn (B : Nat) (l : List Line) (w : World) (e : Ending) (w' : World) : Prop :=
  ∃ v, e = .returned (.tuple #[v, .nilIface]) ∧ Own w' B 43 3 lineEnc v l ∧ Below B w w'

theorem Own.addr {α : Type} {w : World} {B e sz : Nat} {enc : α → List Value} {A : Option Addr} {n c : Nat} {l : List α} (h : Own w B e sz enc (.slice A n c) l) (hl : 0 < l.length) : ∃ g, A = some ⟨g, 0, none⟩ := by
  rcases h.2 with ⟨hv, h0⟩ | ⟨g', cap, cur, hv, _⟩
  · omega
  · injection hv with e1; exact ⟨g', e1⟩

theorem blank_bnd {l : List Line} {m : Int} (h : Bnd m l) : Bnd m (l.map blank) := by
  intro x hx
  obtain ⟨y, hy, rfl⟩ := List.mem_map.1 hx
  exact h y hy

end Go.Proofs.YtkeapacfmeblgaaGreatDoor
