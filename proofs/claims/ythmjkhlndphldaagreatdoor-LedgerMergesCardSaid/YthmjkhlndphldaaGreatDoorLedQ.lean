/- Balances: where one is put, as the document's loop does it; merging. Plain Lean, no program in sight. -/
import Derived.Test.YthmjkhlndphldaaGreatDoorLedP
namespace Go.Proofs.YthmjkhlndphldaaGreatDoor
open Go Go.RowKit
set_option linter.unusedVariables false

theorem insB_at : ∀ (k : Nat) (l : List Bal) (x : Bal), (∀ (j : Nat) (hj : j < l.length), j < k → Pl.lt l[j].pl x.pl = true) → k ≤ l.length → (∀ h : k < l.length, Pl.lt l[k].pl x.pl = false) →
    insB l x = l.take k ++ (match l.drop k with | [] => [x] | y :: r => if y.pl = x.pl then { y with amt := y.amt + x.amt } :: r else x :: y :: r) := by
  intro k
  induction k with
  | zero =>
    intro l x _ _ h
    cases l with
    | nil => rfl
    | cons y l =>
      have h0 := h (by simp)
      simp only [List.getElem_cons_zero] at h0
      unfold insB
      rw [if_neg (by rw [h0]; decide)]
      rfl
  | succ k ih =>
    intro l x hto hk h
    cases l with
    | nil => simp at hk
    | cons y l =>
      have h0 := hto 0 (by simp) (by omega)
      simp only [List.getElem_cons_zero] at h0
      unfold insB
      rw [if_pos h0, ih l x (fun j hj hjk => by have := hto (j + 1) (by simp; omega) (by omega); simpa using this) (by simpa using hk) (fun hh => by have := h (by simp; omega); simpa using this)]
      rfl
theorem insB_add {k : Nat} {l : List Bal} {x : Bal} (hto : ∀ (j : Nat) (hj : j < l.length), j < k → Pl.lt l[j].pl x.pl = true) (hk : k < l.length) (he : l[k].pl = x.pl) : insB l x = l.set k { l[k] with amt := l[k].amt + x.amt } := by
  rw [insB_at k l x hto (by omega) (fun _ => by rw [he]; exact Pl.irrefl _), List.drop_eq_getElem_cons hk]
  simp only [if_pos he]
  rw [List.set_eq_take_append_cons_drop, if_pos hk]
theorem insB_new {k : Nat} {l : List Bal} {x : Bal} (hto : ∀ (j : Nat) (hj : j < l.length), j < k → Pl.lt l[j].pl x.pl = true) (hk : k ≤ l.length) (hn : ∀ h : k < l.length, Pl.lt x.pl l[k].pl = true) : insB l x = l.take k ++ [x] ++ l.drop k := by
  rw [insB_at k l x hto hk (fun h => Pl.asymm (hn h))]
  rcases Nat.lt_or_ge k l.length with h | h
  · rw [List.drop_eq_getElem_cons h]
    have : l[k].pl ≠ x.pl := fun e => Pl.ne (hn h) e.symm
    simp only [if_neg this]
    simp
  · rw [List.drop_eq_nil_of_le h]
    simp
theorem insB_len_le (l : List Bal) (x : Bal) : (insB l x).length ≤ l.length + 1 ∧ l.length ≤ (insB l x).length := by
  induction l with
  | nil => simp [insB]
  | cons y l ih =>
    unfold insB
    split
    · simp only [List.length_cons]; omega
    · split
      · simp only [List.length_cons]; omega
      · simp only [List.length_cons]; omega

/-- balances k of the second list put in -/
def mergeTo (a b : List Bal) (k : Nat) : List Bal := (b.take k).foldl insB a
theorem mergeTo_0 (a b : List Bal) : mergeTo a b 0 = a := rfl
theorem mergeTo_succ {a b : List Bal} {k : Nat} (hk : k < b.length) : mergeTo a b (k + 1) = insB (mergeTo a b k) b[k] := by
  unfold mergeTo
  rw [List.take_succ_eq_append_getElem hk, List.foldl_append]
  rfl
theorem mergeTo_all {a b : List Bal} {k : Nat} (ha : SSortB a) (hk : b.length ≤ k) : mergeTo a b k = canonB (a ++ b) := by
  unfold mergeTo
  rw [List.take_of_length_le hk, canonB_append, canonB_same ha]
theorem mergeTo_len (a b : List Bal) (k : Nat) : (mergeTo a b k).length ≤ a.length + k := by
  induction k with
  | zero => simp [mergeTo]
  | succ k ih =>
    rcases Nat.lt_or_ge k b.length with h | h
    · rw [mergeTo_succ h]
      have := (insB_len_le (mergeTo a b k) b[k]).1
      omega
    · unfold mergeTo at *
      rw [List.take_of_length_le (by omega)]
      rw [List.take_of_length_le h] at ih
      omega
theorem mergeTo_sort {a b : List Bal} (ha : SSortB a) (k : Nat) : SSortB (mergeTo a b k) := (foldl_insB (b.take k) a ha).1
theorem mergeTo_tot {a b : List Bal} (ha : SSortB a) (k : Nat) (p : Pl) : totB (mergeTo a b k) p = totB a p + totB (b.take k) p := (foldl_insB (b.take k) a ha).2.2 p
theorem take_none {b : List Bal} (hb : SSortB b) {k : Nat} (hk : k < b.length) : totB (b.take k) b[k].pl = 0 := by
  refine totB_none ?_
  rintro ⟨x, hx, e⟩
  obtain ⟨j, hj, rfl⟩ := List.getElem_of_mem hx
  rw [List.getElem_take] at e
  simp only [List.length_take] at hj
  have := List.pairwise_iff_getElem.1 hb j k (by omega) hk (by omega)
  exact Pl.ne this e
theorem tot_may {a : List Bal} (ha : balsE a = 0) (p : Pl) : -1000000000000000000 ≤ totB a p ∧ totB a p ≤ 1000000000000000000 := by
  have := may_le (getB_may ha p.ent p.acc p.cur)
  rwa [getB_tot (bals_sort ha)] at this
/-- what stands there already, and what is put to it, are a number of 64 bits -/
theorem merge_fits {a b : List Bal} (ha : balsE a = 0) (hb : balsE b = 0) {k : Nat} (hk : k < b.length) : ∀ y, y ∈ mergeTo a b k → y.pl = b[k].pl → -9223372036854775808 ≤ y.amt + b[k].amt ∧ y.amt + b[k].amt ≤ 9223372036854775807 := by
  intro y hy e
  have h1 := totB_mem (mergeTo_sort (bals_sort ha) k) hy
  rw [e, mergeTo_tot (bals_sort ha), take_none (bals_sort hb) hk] at h1
  have h2 := tot_may ha b[k].pl
  have h3 := may_le (bals_may hb _ (List.getElem_mem hk))
  omega
/-- in the map, too -/
theorem sums_fit {a b : List Bal} (ha : balsE a = 0) (hb : balsE b = 0) {k : Nat} (hk : k < (a ++ b).length) : -9223372036854775808 ≤ totB ((a ++ b).take k) (a ++ b)[k].pl + (a ++ b)[k].amt ∧ totB ((a ++ b).take k) (a ++ b)[k].pl + (a ++ b)[k].amt ≤ 9223372036854775807 := by
  rcases Nat.lt_or_ge k a.length with h | h
  · have e1 : (a ++ b).take k = a.take k := List.take_append_of_le_length (by omega)
    have e2 : (a ++ b)[k] = a[k] := List.getElem_append_left h
    rw [e1, e2, take_none (bals_sort ha) h]
    have h3 := may_le (bals_may ha _ (List.getElem_mem h))
    omega
  · rw [List.length_append] at hk
    have e1 : (a ++ b).take k = a ++ b.take (k - a.length) := by rw [List.take_append, List.take_of_length_le h]
    have e2 : (a ++ b)[k]'(by rw [List.length_append]; omega) = b[k - a.length]'(by omega) := List.getElem_append_right h
    rw [e1, e2, totB_append, take_none (bals_sort hb) (by omega)]
    have h2 := tot_may ha (b[k - a.length]'(by omega)).pl
    have h3 := may_le (bals_may hb _ (List.getElem_mem (show k - a.length < b.length by omega)))
    omega
def fullTo (l : List Bal) (k : Nat) : List Bal := fullB (l.take k)
theorem fullTo_succ_no {l : List Bal} {k : Nat} (hk : k < l.length) (h : l[k].amt = 0) : fullTo l (k + 1) = fullTo l k := by
  unfold fullTo fullB
  rw [List.take_succ_eq_append_getElem hk, List.filter_append]
  simp [h]
theorem fullTo_succ_yes {l : List Bal} {k : Nat} (hk : k < l.length) (h : l[k].amt ≠ 0) : fullTo l (k + 1) = fullTo l k ++ [l[k]] := by
  unfold fullTo fullB
  rw [List.take_succ_eq_append_getElem hk, List.filter_append]
  simp [h]
theorem fullTo_all {l : List Bal} {k : Nat} (hk : l.length ≤ k) : fullTo l k = fullB l := by unfold fullTo; rw [List.take_of_length_le hk]
theorem fullTo_len (l : List Bal) (k : Nat) : (fullTo l k).length ≤ k := by
  have := fullB_len (l.take k)
  rw [List.length_take] at this
  unfold fullTo
  omega
end Go.Proofs.YthmjkhlndphldaaGreatDoor
