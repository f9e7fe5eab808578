/- accrue.numbers, upto, part, Part: what they return. -/
import Derived.Test.YtbdbpcllndajgaaGreatDoorQuoX
import Derived.Test.YtbdbpcllndajgaaGreatDoorPlnX
import Derived.Deep.RegionHeld3
import Derived.Test.YtbdbpcllndajgaaGreatDoorChartX
namespace Go.Proofs.YtbdbpcllndajgaaGreatDoor
open Go Go.RowKit
set_option linter.unusedVariables false

/-- a plan in a block of its own -/
structure PlnAt (w : World) (g : Nat) (x : Pln) : Prop where
  c0 : w.cell? ⟨g, 0, none⟩ = some (.string x.ref)
  c1 : w.cell? ⟨g, 1, none⟩ = some (.int .i64 x.ent)
  c2 : w.cell? ⟨g, 2, none⟩ = some (.string x.fr)
  c3 : w.cell? ⟨g, 3, none⟩ = some (.string x.to)
  c4 : w.cell? ⟨g, 4, none⟩ = some (.string x.cur)
  c5 : w.cell? ⟨g, 5, none⟩ = some (.int .i64 x.amt)
  c6 : w.cell? ⟨g, 6, none⟩ = some (.int .i64 x.first)
  c7 : w.cell? ⟨g, 7, none⟩ = some (.int .i64 x.per)
theorem PlnAt.lt {w : World} {g : Nat} {x : Pln} (h : PlnAt w g x) : g < w.heap.size := World.block_lt_of_cell? _ _ h.c0
theorem PlnAt.below {w w' : World} {g : Nat} {x : Pln} (h : PlnAt w g x) (hb : Below w.heap.size w w') : PlnAt w' g x :=
  ⟨below_cell hb h.lt h.c0, below_cell hb h.lt h.c1, below_cell hb h.lt h.c2, below_cell hb h.lt h.c3, below_cell hb h.lt h.c4, below_cell hb h.lt h.c5, below_cell hb h.lt h.c6, below_cell hb h.lt h.c7⟩
theorem PlnAt.grown {w w' : World} {g : Nat} {x : Pln} {row : Option Nat} (h : PlnAt w g x) (hg : w.grownBy w' row) (hne : row ≠ some g) : PlnAt w' g x :=
  ⟨hg.cell h.c0 (fun e => hne e.symm), hg.cell h.c1 (fun e => hne e.symm), hg.cell h.c2 (fun e => hne e.symm), hg.cell h.c3 (fun e => hne e.symm), hg.cell h.c4 (fun e => hne e.symm), hg.cell h.c5 (fun e => hne e.symm), hg.cell h.c6 (fun e => hne e.symm), hg.cell h.c7 (fun e => hne e.symm)⟩
theorem PlnAt.eight {w : World} {g : Nat} {x : Pln} (h : PlnAt w g x) : w.cell? ⟨g, 0, none⟩ = some (.string x.ref) ∧ w.cell? ⟨g, 1, none⟩ = some (.int .i64 x.ent) ∧ w.cell? ⟨g, 2, none⟩ = some (.string x.fr) ∧ w.cell? ⟨g, 3, none⟩ = some (.string x.to) ∧ w.cell? ⟨g, 4, none⟩ = some (.string x.cur) ∧ w.cell? ⟨g, 5, none⟩ = some (.int .i64 x.amt) ∧ w.cell? ⟨g, 6, none⟩ = some (.int .i64 x.first) ∧ w.cell? ⟨g, 7, none⟩ = some (.int .i64 x.per) :=
  ⟨h.c0, h.c1, h.c2, h.c3, h.c4, h.c5, h.c6, h.c7⟩
theorem BigRd.below {w w' : World} {g : Nat} {y : Int} {YA : Option Addr} {yn yc : Nat} (h : BigRd w g y YA yn yc) (hb : Below w.heap.size w w') : BigRd w' g y YA yn yc :=
  ⟨below_cell hb (World.block_lt_of_cell? _ _ h.c0) h.c0, below_cell hb (World.block_lt_of_cell? _ _ h.c1) h.c1, ⟨h.wds.1.below hb, h.wds.2⟩, h.cap⟩
theorem own_ne {w : World} {B g : Nat} {V : Value} {x : Int} (h : BigAt w B g V x) {q : Nat} (hq : w.heap.size ≤ q) : V.ownBlock ≠ some q := by
  intro e
  have := (h.wds.own.block q e).2
  omega

end Go.Proofs.YtbdbpcllndajgaaGreatDoor

namespace Go.Proofs.YtbdbpcllndajgaaGreatDoor
open Go Go.RowKit
set_option linter.unusedVariables false

end Go.Proofs.YtbdbpcllndajgaaGreatDoor

namespace Go.Proofs.YtbdbpcllndajgaaGreatDoor
open Go Go.RowKit
set_option linter.unusedVariables false

def idxPl (l : List Pln) (p : Pln → Bool) : Int := match l.findIdx? p with | some k => (k : Int) | none => -1
theorem NoTo.hitP {l : List Pln} {p : Pln → Bool} {k : Nat} (h : NoTo p l k) (hk : k < l.length) (hc : p l[k] = true) : idxPl l p = (k : Int) := by
  have : l.findIdx? p = some k := by
    rw [List.findIdx?_eq_some_iff_getElem]
    exact ⟨hk, hc, fun j hj => by rw [h j (by omega) hj]; decide⟩
  simp [idxPl, this]
theorem NoTo.missP {l : List Pln} {p : Pln → Bool} {k : Nat} (h : NoTo p l k) (hk : l.length ≤ k) : idxPl l p = -1 := by
  have : l.findIdx? p = none := by
    rw [List.findIdx?_eq_none_iff]
    intro x hx
    obtain ⟨j, hj, rfl⟩ := List.getElem_of_mem hx
    exact h j hj (by omega)
  simp [idxPl, this]
theorem idxPl_any (l : List Pln) (p : Pln → Bool) : decide (0 ≤ idxPl l p) = l.any p := by
  unfold idxPl
  cases h : l.findIdx? p with
  | none =>
    rw [List.findIdx?_eq_none_iff] at h
    have : l.any p = false := by rw [List.any_eq_false]; intro x hx; rw [h x hx]; decide
    rw [this]; rfl
  | some k =>
    obtain ⟨hk, hc, _⟩ := List.findIdx?_eq_some_iff_getElem.1 h
    have : l.any p = true := List.any_eq_true.2 ⟨_, List.getElem_mem hk, hc⟩
    rw [this]; simp

def endS (x : Pln) (i : Nat) : ByteArray := if i = 0 then x.fr else x.to
def EndAt (w : World) (g : Nat) (x : Pln) : Prop := ∀ i, i < 2 → w.cell? ⟨g, i, none⟩ = some (.string (endS x i))
theorem EndAt.below {w w' : World} {g : Nat} {x : Pln} (h : EndAt w g x) (hb : Below w.heap.size w w') : EndAt w' g x :=
  fun i hi => below_cell hb (World.block_lt_of_cell? _ _ (h i hi)) (h i hi)
theorem EndAt.new (w : World) (x : Pln) : EndAt (w.alloc (.cells #[.string x.fr, .string x.to] 9)) w.heap.size x := by
  intro i hi
  have : i = 0 ∨ i = 1 := by omega
  rcases this with rfl | rfl <;> simp [endS]
theorem planE_leaf {c : List Acc} {ahead : List Pln} {x : Pln} {i : Nat} (h : prefB x.ref = true) (h2 : ahead.any (sameRef x) = false) (h3 : inB 1 12 x.ent = true) (h4 : numE x = 0)
    (hto : firstE (fun i => leafE c (endS x i)) i = 0) (hi : i < 2) (hl : leafE c (endS x i) ≠ 0) : planE c ahead x = leafE c (endS x i) := by
  rw [planE_5 h h2 h3 h4]
  have : i = 0 ∨ i = 1 := by omega
  rcases this with rfl | rfl
  · rw [if_pos (show leafE c x.fr ≠ 0 from hl)]; rfl
  · have h0 : leafE c x.fr = 0 := by
      have := firstE_0 hto 0 (by omega)
      exact this
    rw [if_neg (by rw [h0]; decide), if_pos (show leafE c x.to ≠ 0 from hl)]; rfl
theorem planE_both {c : List Acc} {ahead : List Pln} {x : Pln} (h : prefB x.ref = true) (h2 : ahead.any (sameRef x) = false) (h3 : inB 1 12 x.ent = true) (h4 : numE x = 0)
    (hto : firstE (fun i => leafE c (endS x i)) 2 = 0) : planE c ahead x = if x.fr.toList = x.to.toList then 8 else if curB x.cur = false then 2 else 0 := by
  rw [planE_5 h h2 h3 h4]
  have h0 : leafE c x.fr = 0 := firstE_0 hto 0 (by omega)
  have h1 : leafE c x.to = 0 := firstE_0 hto 1 (by omega)
  rw [if_neg (by rw [h0]; decide), if_neg (by rw [h1]; decide)]

end Go.Proofs.YtbdbpcllndajgaaGreatDoor
