/- slices.Clone over lines; entry.grouped: what is alike together, in order. -/
import Derived.Test.YtggmbjdonlbfkaaGreatDoorBesafterSortA
import Derived.Maps.AppendAt
import Derived.WalkSpells
namespace Go.Proofs.YtggmbjdonlbfkaaGreatDoorBesafter
open Go Go.RowKit
set_option linter.unusedVariables false

def zeroLine : Value := .agg #[.string ⟨#[]⟩, .string ⟨#[]⟩, .int .i64 0]
theorem Own.empty (w : World) (B e sz : Nat) {α : Type} (enc : α → List Value) (hB : B ≤ w.heap.size) : Own (w.alloc (.cells #[] e)) B e sz enc (.slice (some ⟨w.heap.size, 0, none⟩) 0 0) ([] : List α) := by
  refine ⟨by simp, .inr ⟨w.heap.size, 0, #[], rfl, hB, by rw [heap_alloc_new], by simp, by unfold maxLen; omega, by simp, by simp⟩⟩

end Go.Proofs.YtggmbjdonlbfkaaGreatDoorBesafter

namespace Go.Proofs.YtggmbjdonlbfkaaGreatDoorBesafter
open Go Go.RowKit
set_option linter.unusedVariables false

section
variable {α : Type} {w : World} {B e sz : Nat} {enc : α → List Value} {l : List α}
theorem flatMap_set (he : Enc sz enc) (l : List α) (k j : Nat) (a : α) (u : Value) (hk : k < l.length) (hj : j < sz) (ha : enc a = (enc l[k]).set j u) : (l.set k a).flatMap enc = (l.flatMap enc).set (k * sz + j) u := by
  induction l generalizing k with
  | nil => simp at hk
  | cons x l ih =>
    cases k with
    | zero =>
      simp only [List.getElem_cons_zero] at ha
      rw [List.set_cons_zero, List.flatMap_cons, List.flatMap_cons, ha, Nat.zero_mul, Nat.zero_add, List.set_append_left _ _ (by rw [he.len]; exact hj)]
    | succ k =>
      simp only [List.getElem_cons_succ] at ha
      rw [List.set_cons_succ, List.flatMap_cons, List.flatMap_cons, ih k (by simpa using hk) ha, List.set_append_right _ _ (by rw [he.len, Nat.add_mul]; omega), he.len]
      congr 2
      rw [Nat.add_mul]; omega
theorem Own.store (he : Enc sz enc) {g n c : Nat} (h : Own w B e sz enc (.slice (some ⟨g, 0, none⟩) n c) l) (k j : Nat) (a : α) (u : Value) (hk : k < l.length) (hj : j < sz) (ha : enc a = (enc l[k]).set j u) :
    Own (w.setCell ⟨g, k * sz + j, none⟩ u) B e sz enc (.slice (some ⟨g, 0, none⟩) n c) (l.set k a) := by
  obtain ⟨h1, h2⟩ := h
  refine ⟨by rw [flatMap_len he], ?_⟩
  rcases h2 with ⟨hv, h0⟩ | ⟨g', cap, cur, hv, hB, hg, hc, hm, hs, ht⟩
  · cases hv
  · injection hv with e1 e2 e3
    injection e1 with e1
    injection e1 with e1
    subst e1 e2 e3
    refine .inr ⟨g, c, cur.setIfInBounds (k * sz + j) u, by rw [List.length_set], hB, heap_setCell_same w g _ cur e u hg, by rw [List.length_set]; exact hc, hm, by simpa using hs, ?_⟩
    rw [flatMap_set he l k j a u hk hj ha, List.length_set, ← ht, Array.toList_setIfInBounds, List.take_set]
theorem Own.cells {g n c : Nat} (he : Enc sz enc) (h : Own w B e sz enc (.slice (some ⟨g, 0, none⟩) n c) l) (k j : Nat) (u : Value) (hk : k < l.length) (hu : (enc l[k])[j]? = some u) : w.cell? ⟨g, k * sz + j, none⟩ = some u ∧ w.frozen? ⟨g, k * sz + j, none⟩ = false := by
  have hn : l.length = n := (h.rd he).1
  obtain ⟨b, off, e1, hc⟩ := (h.rd he).2 (by omega)
  rcases h.2 with ⟨hv, h0⟩ | ⟨g', cap, cur, hv, hB, hg, _⟩
  · cases hv
  · injection hv with e2
    injection e2 with e2
    injection e2 with e2
    subst e2
    injection e1 with e1
    injection e1 with e1 e3
    subst e1 e3
    have := hc k j u hk hu
    rw [Nat.zero_add] at this
    exact ⟨this, frozen_of_row w g _ _ _ hg⟩
end

/-- no amount of these is beyond m -/
def Bnd (m : Int) (o : List Line) : Prop := ∀ x, x ∈ o → -m ≤ x.amt ∧ x.amt ≤ m
theorem Bnd.step {m a : Int} {o : List Line} {x : Line} (h : Bnd m o) (ha : 0 ≤ a) (hm : 0 ≤ m) (hx : -a ≤ x.amt ∧ x.amt ≤ a) : Bnd (m + a) (grpStep o x) := by
  intro z hz
  unfold grpStep at hz
  cases hg : o.getLast? with
  | none =>
    rw [hg] at hz
    have : z = x := by simpa using hz
    subst this
    omega
  | some y =>
    rw [hg] at hz
    have hy : y ∈ o := List.mem_of_getLast? hg
    dsimp only at hz
    split at hz
    · rcases List.mem_append.1 hz with hz | hz
      · have := h z (List.dropLast_subset _ hz); omega
      · have e : z = { y with amt := y.amt + x.amt } := by simpa using hz
        have e' : z.amt = y.amt + x.amt := by rw [e]
        have := h y hy; omega
    · rcases List.mem_append.1 hz with hz | hz
      · have := h z hz; omega
      · have : z = x := by simpa using hz
        subst this; omega
theorem grp_len (o : List Line) (x : Line) : (grpStep o x).length ≤ o.length + 1 := by
  unfold grpStep
  cases hg : o.getLast? with
  | none => simp
  | some y =>
    dsimp only
    split
    · rw [List.length_append, List.length_dropLast]
      simp only [List.length_singleton]
      omega
    · simp
/-- the round's word -/
def grpTo (s : List Line) (k : Nat) : List Line := (s.take k).foldl grpStep []
theorem grpTo_succ (s : List Line) (k : Nat) (h : k < s.length) : grpTo s (k + 1) = grpStep (grpTo s k) s[k] := by
  unfold grpTo
  rw [List.take_succ_eq_append_getElem h, List.foldl_append]
  rfl
theorem grpTo_len (s : List Line) (k : Nat) (h : k ≤ s.length) : (grpTo s k).length ≤ k := by
  induction k with
  | zero => simp [grpTo]
  | succ k ih => rw [grpTo_succ s k (by omega)]; have := ih (by omega); have := grp_len (grpTo s k) (s[k]'(by omega)); omega
theorem grpTo_bnd (s : List Line) (m : Int) (hm : 0 ≤ m) (hb : Bnd m s) (k : Nat) (h : k ≤ s.length) : Bnd (k * m) (grpTo s k) := by
  induction k with
  | zero => intro x hx; simp [grpTo] at hx
  | succ k ih =>
    rw [grpTo_succ s k (by omega)]
    have := Bnd.step (ih (by omega)) hm (Int.mul_nonneg (by omega) hm) (hb (s[k]'(by omega)) (List.getElem_mem _))
    rwa [show ((k + 1 : Nat) : Int) * m = k * m + m from by rw [Int.natCast_add, Int.add_mul]; simp]
end Go.Proofs.YtggmbjdonlbfkaaGreatDoorBesafter

namespace Go.Proofs.YtggmbjdonlbfkaaGreatDoorBesafter
open Go Go.RowKit
set_option linter.unusedVariables false

theorem Rd.boxedAt {α : Type} {enc : α → List Value} (w : World) {sz : Nat} (he : Enc sz enc) (x : α) (cs : Array Value) (e : TypeId) (hcs : cs.toList = enc x) (g : Nat) (hg : g = w.heap.size) : Rd (w.alloc (.cells cs e)) sz enc (some ⟨g, 0, none⟩) 1 [x] := by
  subst hg; exact Rd.boxed w he x cs e hcs

theorem grpStep_same {o : List Line} {y x : Line} {p : Nat} (hg : o.getLast? = some y) (hp : o.length = p + 1) (hk : y.key = x.key) : grpStep o x = o.set p { y with amt := y.amt + x.amt } := by
  unfold grpStep
  rw [hg]
  dsimp only
  rw [if_pos hk]
  have hd : o.dropLast.length = p := by rw [List.length_dropLast, hp]; rfl
  conv => rhs; rw [getLast_split hg, List.set_append_right _ _ (by omega), hd, Nat.sub_self]
  rfl
theorem grpStep_new {o : List Line} {y x : Line} (hg : o.getLast? = some y) (hk : ¬ y.key = x.key) : grpStep o x = o ++ [x] := by
  unfold grpStep
  rw [hg]
  dsimp only
  rw [if_neg hk]

theorem Own.wider {α : Type} {w : World} {B C e sz : Nat} {enc : α → List Value} {v : Value} {l : List α} (h : Own w C e sz enc v l) (hB : B ≤ C) : Own w B e sz enc v l := by
  refine ⟨h.1, ?_⟩
  rcases h.2 with h2 | ⟨g, cap, cur, h1, h2, h3⟩
  · exact .inl h2
  · exact .inr ⟨g, cap, cur, h1, Nat.le_trans hB h2, h3⟩

theorem grp_canon_to {l s : List Line} (hp : s.Perm l) (hw : WSort s) : grpTo s s.length = canon l := by
  unfold grpTo
  rw [List.take_length]
  exact grp_canon hp hw

end Go.Proofs.YtggmbjdonlbfkaaGreatDoorBesafter
