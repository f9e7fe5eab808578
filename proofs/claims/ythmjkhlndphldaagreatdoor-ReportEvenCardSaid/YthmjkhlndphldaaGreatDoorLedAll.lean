/- Balances: put together by place, in order; what of them is not 0. Plain Lean, no program in sight. -/
import Derived.Test.YthmjkhlndphldaaGreatDoorBalAll
import Derived.Test.YthmjkhlndphldaaGreatDoorRefZ
import Derived.Test.YthmjkhlndphldaaGreatDoorLaid
import Derived.Maps.OwnSet
import Derived.Maps.OwnOps
import Derived.Maps.Views
import Derived.Maps.RangeWalk
import Derived.DeepKeys4
import Derived.Test.YthmjkhlndphldaaGreatDoorOpenB
import Derived.Test.YthmjkhlndphldaaGreatDoorSortAll
import Derived.Test.YthmjkhlndphldaaGreatDoorShel3
import Derived.WideKeyEntry
import Derived.Lib.AppendZerosOnto
import Derived.BigRegion
namespace Go.Proofs.YthmjkhlndphldaaGreatDoor
open Go Go.RowKit
set_option linter.unusedVariables false

/-- entity, account and currency -/
structure Pl where
  ent : Int
  acc : ByteArray
  cur : ByteArray
deriving DecidableEq
def Bal.pl (x : Bal) : Pl := ⟨x.ent, x.acc, x.cur⟩
/-- ahead of it, by entity, by account, then by currency -/
def Pl.lt (x y : Pl) : Bool := if x.ent = y.ent then (if x.acc = y.acc then lessB x.cur y.cur else lessB x.acc y.acc) else decide (x.ent < y.ent)
theorem ahead_pl (x y : Bal) : aheadB x y = Pl.lt x.pl y.pl := rfl
theorem Pl.irrefl (x : Pl) : Pl.lt x x = false := by simp [Pl.lt, lessB_irrefl]
theorem Pl.trans {x y z : Pl} (h : Pl.lt x y = true) (k : Pl.lt y z = true) : Pl.lt x z = true := by
  unfold Pl.lt at *
  by_cases e1 : x.ent = y.ent
  · rw [if_pos e1] at h
    by_cases e2 : y.ent = z.ent
    · rw [if_pos e2] at k
      rw [if_pos (e1.trans e2)]
      by_cases f1 : x.acc = y.acc
      · rw [if_pos f1] at h
        by_cases f2 : y.acc = z.acc
        · rw [if_pos f2] at k
          rw [if_pos (f1.trans f2)]; exact lessB_trans h k
        · rw [if_neg f2] at k
          rw [if_neg (fun e => f2 (f1.symm.trans e)), f1]; exact k
      · rw [if_neg f1] at h
        by_cases f2 : y.acc = z.acc
        · rw [if_neg (fun e => f1 (e.trans f2.symm)), ← f2]; exact h
        · rw [if_neg f2] at k
          have hxz := lessB_trans h k
          rw [if_neg (fun e => by rw [e, lessB_irrefl] at hxz; cases hxz)]; exact hxz
    · rw [if_neg e2] at k
      rw [if_neg (fun e => e2 (e1.symm.trans e)), e1]; exact k
  · rw [if_neg e1] at h
    have h' := of_decide_eq_true h
    by_cases e2 : y.ent = z.ent
    · rw [if_neg (by omega)]; exact decide_eq_true (by omega)
    · rw [if_neg e2] at k
      have k' := of_decide_eq_true k
      rw [if_neg (by omega)]; exact decide_eq_true (by omega)
theorem Pl.tri {x y : Pl} (h : Pl.lt x y = false) (k : Pl.lt y x = false) : x = y := by
  obtain ⟨a, b, c⟩ := x
  obtain ⟨d, e, f⟩ := y
  unfold Pl.lt at h k
  simp only at h k
  by_cases e1 : a = d
  · subst e1
    rw [if_pos rfl] at h k
    by_cases e2 : b = e
    · subst e2
      rw [if_pos rfl] at h k
      rw [lessB_tri h k]
    · rw [if_neg e2] at h
      rw [if_neg (fun z => e2 z.symm)] at k
      exact absurd (lessB_tri h k) e2
  · rw [if_neg e1] at h
    rw [if_neg (fun z => e1 z.symm)] at k
    have h' := of_decide_eq_false h
    have k' := of_decide_eq_false k
    omega
theorem Pl.asymm {x y : Pl} (h : Pl.lt x y = true) : Pl.lt y x = false := by
  cases hk : Pl.lt y x with
  | false => rfl
  | true =>
    have := Pl.trans h hk
    rw [Pl.irrefl] at this; cases this
theorem Pl.ne {x y : Pl} (h : Pl.lt x y = true) : x ≠ y := by rintro rfl; rw [Pl.irrefl] at h; cases h

/-- how much there is of a place -/
def totB : List Bal → Pl → Int
  | [], _ => 0
  | x :: l, k => (if x.pl = k then x.amt else 0) + totB l k
/-- is there anything of a place? -/
def hasB (l : List Bal) (k : Pl) : Prop := ∃ x, x ∈ l ∧ x.pl = k
/-- one of each place, in order -/
def SSortB (l : List Bal) : Prop := l.Pairwise fun x y => Pl.lt x.pl y.pl = true
/-- in order -/
def WSortB (l : List Bal) : Prop := l.Pairwise fun x y => Pl.lt y.pl x.pl = false

theorem totB_append (a b : List Bal) (k : Pl) : totB (a ++ b) k = totB a k + totB b k := by
  induction a with
  | nil => simp [totB]
  | cons x a ih => simp only [List.cons_append, totB, ih]; omega
theorem totB_none {l : List Bal} {k : Pl} (h : ¬ hasB l k) : totB l k = 0 := by
  induction l with
  | nil => rfl
  | cons x l ih =>
    have h1 : x.pl ≠ k := fun e => h ⟨x, by simp, e⟩
    have h2 : ¬ hasB l k := fun ⟨y, hy, e⟩ => h ⟨y, by simp [hy], e⟩
    rw [totB, if_neg h1, ih h2]; rfl
theorem hasB_cons {x : Bal} {l : List Bal} {k : Pl} : hasB (x :: l) k ↔ x.pl = k ∨ hasB l k := by
  simp [hasB]
theorem hasB_append {a b : List Bal} {k : Pl} : hasB (a ++ b) k ↔ hasB a k ∨ hasB b k := by
  constructor
  · rintro ⟨x, hx, e⟩
    rcases List.mem_append.1 hx with h | h
    · exact .inl ⟨x, h, e⟩
    · exact .inr ⟨x, h, e⟩
  · rintro (⟨x, h, e⟩ | ⟨x, h, e⟩)
    · exact ⟨x, by simp [h], e⟩
    · exact ⟨x, by simp [h], e⟩
theorem ssortB_head {x : Bal} {l : List Bal} (h : SSortB (x :: l)) {k : Pl} (hk : hasB l k) : Pl.lt x.pl k = true := by
  obtain ⟨y, hy, rfl⟩ := hk
  exact (List.pairwise_cons.1 h).1 y hy
theorem bal_eq {x y : Bal} (h : x.pl = y.pl) (k : x.amt = y.amt) : x = y := by
  obtain ⟨a, b, c, g⟩ := x
  obtain ⟨d, e, f, i⟩ := y
  simp only [Bal.pl, Pl.mk.injEq] at h
  obtain ⟨rfl, rfl, rfl⟩ := h
  simp only at k
  rw [k]

/-- there is one list in order of the same places, with as much of each -/
theorem ssortB_unique : ∀ a b : List Bal, SSortB a → SSortB b → (∀ k, hasB a k ↔ hasB b k) → (∀ k, totB a k = totB b k) → a = b := by
  intro a
  induction a with
  | nil =>
    intro b _ _ h _
    cases b with
    | nil => rfl
    | cons y b =>
      obtain ⟨x, hx, _⟩ := (h y.pl).2 ⟨y, by simp, rfl⟩
      cases hx
  | cons x a ih =>
    intro b ha hb h ht
    cases b with
    | nil =>
      obtain ⟨y, hy, _⟩ := (h x.pl).1 ⟨x, by simp, rfl⟩
      cases hy
    | cons y b =>
      have hxy : x.pl = y.pl := by
        rcases hasB_cons.1 ((h x.pl).1 (hasB_cons.2 (.inl rfl))) with e | e
        · exact e.symm
        · rcases hasB_cons.1 ((h y.pl).2 (hasB_cons.2 (.inl rfl))) with f | f
          · exact f
          · have g1 := ssortB_head hb e
            have g2 := ssortB_head ha f
            rw [Pl.asymm g1] at g2; cases g2
      have na : ∀ k, hasB a k → k ≠ x.pl := fun k hk e => Pl.ne (ssortB_head ha hk) e.symm
      have nb : ∀ k, hasB b k → k ≠ x.pl := fun k hk e => Pl.ne (ssortB_head hb hk) (hxy ▸ e.symm)
      have hamt : x.amt = y.amt := by
        have := ht x.pl
        rw [totB, totB, if_pos rfl, if_pos hxy.symm, totB_none (fun hk => na _ hk rfl), totB_none (fun hk => nb _ hk rfl)] at this
        omega
      have hx := bal_eq hxy hamt
      subst hx
      congr 1
      refine ih b (List.pairwise_cons.1 ha).2 (List.pairwise_cons.1 hb).2 (fun k => ?_) (fun k => ?_)
      · constructor
        · intro hk
          rcases hasB_cons.1 ((h k).1 (hasB_cons.2 (.inr hk))) with e | e
          · exact absurd e.symm (na k hk)
          · exact e
        · intro hk
          rcases hasB_cons.1 ((h k).2 (hasB_cons.2 (.inr hk))) with e | e
          · exact absurd e.symm (nb k hk)
          · exact e
      · have := ht k
        rw [totB, totB] at this
        omega

/-- x is put where it belongs; what is there already is added to (the document's way) -/
def insB : List Bal → Bal → List Bal
  | [], x => [x]
  | y :: l, x => if Pl.lt y.pl x.pl = true then y :: insB l x else if y.pl = x.pl then { y with amt := y.amt + x.amt } :: l else x :: y :: l

theorem insB_has (l : List Bal) (x : Bal) (k : Pl) : hasB (insB l x) k ↔ hasB l k ∨ x.pl = k := by
  induction l with
  | nil => simp [insB, hasB]
  | cons y l ih =>
    unfold insB
    split
    · rw [hasB_cons, ih, hasB_cons, or_assoc]
    · split
      · rename_i h1 h2
        rw [hasB_cons, hasB_cons]
        show (y.pl = k ∨ _) ↔ _
        constructor
        · intro h; exact .inl h
        · rintro (h | h)
          · exact h
          · exact .inl (h2.trans h)
      · rw [hasB_cons, hasB_cons]
        constructor
        · rintro (h | h)
          · exact .inr h
          · exact .inl h
        · rintro (h | h)
          · exact .inr h
          · exact .inl h
theorem insB_tot (l : List Bal) (x : Bal) (k : Pl) : totB (insB l x) k = totB l k + if x.pl = k then x.amt else 0 := by
  induction l with
  | nil => simp [insB, totB]
  | cons y l ih =>
    unfold insB
    split
    · rw [totB, ih, totB]; omega
    · split
      · rename_i h1 h2
        rw [totB, totB]
        show (if y.pl = k then y.amt + x.amt else 0) + _ = _
        rw [h2]
        split <;> omega
      · rw [totB, totB]; omega
theorem insB_sort {l : List Bal} (x : Bal) (h : SSortB l) : SSortB (insB l x) := by
  induction l with
  | nil => simp [insB, SSortB]
  | cons y l ih =>
    have h1 := List.pairwise_cons.1 h
    unfold insB
    split
    · rename_i hlt
      refine List.pairwise_cons.2 ⟨fun z hz => ?_, ih h1.2⟩
      rcases (insB_has l x z.pl).1 ⟨z, hz, rfl⟩ with e | e
      · exact ssortB_head h e
      · rw [← e]; exact hlt
    · split
      · rename_i h2 h3
        exact List.pairwise_cons.2 ⟨fun z hz => h1.1 z hz, h1.2⟩
      · rename_i h2 h3
        have hxy : Pl.lt x.pl y.pl = true := by
          cases hk : Pl.lt x.pl y.pl with
          | true => rfl
          | false => exact absurd (Pl.tri (by simpa using h2) hk) h3
        refine List.pairwise_cons.2 ⟨fun z hz => ?_, h⟩
        rcases List.mem_cons.1 hz with rfl | hz
        · exact hxy
        · exact Pl.trans hxy (h1.1 z hz)

/-- what is alike put together, in order -/
def canonB (l : List Bal) : List Bal := l.foldl insB []
theorem foldl_insB (l : List Bal) : ∀ a, SSortB a → SSortB (l.foldl insB a) ∧ (∀ k, hasB (l.foldl insB a) k ↔ hasB a k ∨ hasB l k) ∧ ∀ k, totB (l.foldl insB a) k = totB a k + totB l k := by
  induction l with
  | nil => intro a h; exact ⟨h, fun k => by simp [hasB], fun k => by simp [totB]⟩
  | cons x l ih =>
    intro a h
    obtain ⟨h1, h2, h3⟩ := ih (insB a x) (insB_sort x h)
    refine ⟨h1, fun k => ?_, fun k => ?_⟩
    · rw [List.foldl_cons, h2, insB_has, hasB_cons, or_assoc]
    · rw [List.foldl_cons, h3, insB_tot, totB]; omega
theorem canonB_sort (l : List Bal) : SSortB (canonB l) := (foldl_insB l [] (by simp [SSortB])).1
theorem canonB_has (l : List Bal) (k : Pl) : hasB (canonB l) k ↔ hasB l k := by
  rw [canonB, (foldl_insB l [] (by simp [SSortB])).2.1]; simp [hasB]
theorem canonB_tot (l : List Bal) (k : Pl) : totB (canonB l) k = totB l k := by
  rw [canonB, (foldl_insB l [] (by simp [SSortB])).2.2]; simp [totB]
theorem canonB_of {l a : List Bal} (h : SSortB a) (h1 : ∀ k, hasB a k ↔ hasB l k) (h2 : ∀ k, totB a k = totB l k) : a = canonB l :=
  ssortB_unique _ _ h (canonB_sort l) (fun k => (h1 k).trans (canonB_has l k).symm) (fun k => (h2 k).trans (canonB_tot l k).symm)

theorem perm_hasB {a b : List Bal} (h : a.Perm b) (k : Pl) : hasB a k ↔ hasB b k := by
  unfold hasB
  constructor
  · rintro ⟨x, hx, e⟩; exact ⟨x, h.mem_iff.1 hx, e⟩
  · rintro ⟨x, hx, e⟩; exact ⟨x, h.mem_iff.2 hx, e⟩
theorem perm_totB {a b : List Bal} (h : a.Perm b) (k : Pl) : totB a k = totB b k := by
  induction h with
  | nil => rfl
  | cons x _ ih => rw [totB, totB, ih]
  | swap x y l => rw [totB, totB, totB, totB]; omega
  | trans _ _ i1 i2 => exact i1.trans i2


theorem canonB_same {l : List Bal} (h : SSortB l) : canonB l = l := (canonB_of h (fun _ => Iff.rfl) (fun _ => rfl)).symm
theorem canonB_append (a b : List Bal) : canonB (a ++ b) = b.foldl insB (canonB a) := by unfold canonB; rw [List.foldl_append]
theorem canonB_snoc (a : List Bal) (x : Bal) : canonB (a ++ [x]) = insB (canonB a) x := by rw [canonB_append]; rfl
theorem insB_len {l : List Bal} (x : Bal) (h : SSortB l) : (hasB l x.pl → (insB l x).length = l.length) ∧ (¬ hasB l x.pl → (insB l x).length = l.length + 1) := by
  induction l with
  | nil => exact ⟨(fun ⟨y, hy, _⟩ => absurd hy (by simp)), fun _ => rfl⟩
  | cons y l ih =>
    have h1 := List.pairwise_cons.1 h
    obtain ⟨i1, i2⟩ := ih h1.2
    unfold insB
    by_cases hlt : Pl.lt y.pl x.pl = true
    · rw [if_pos hlt, List.length_cons]
      refine ⟨fun hh => ?_, fun hh => ?_⟩
      · rcases hasB_cons.1 hh with e | e
        · exact absurd e (Pl.ne hlt)
        · rw [i1 e]; rfl
      · rw [i2 (fun e => hh (hasB_cons.2 (.inr e)))]; rfl
    · rw [if_neg hlt]
      by_cases he : y.pl = x.pl
      · rw [if_pos he]
        exact ⟨fun _ => rfl, fun hh => absurd (hasB_cons.2 (.inl he)) hh⟩
      · rw [if_neg he]
        refine ⟨fun hh => ?_, fun _ => rfl⟩
        rcases hasB_cons.1 hh with e | e
        · exact absurd e he
        · exact absurd (ssortB_head h e) hlt

/-- those that are not 0 -/
def fullB (l : List Bal) : List Bal := l.filter fun x => decide (x.amt ≠ 0)
theorem fullB_sort {l : List Bal} (h : SSortB l) : SSortB (fullB l) := List.Pairwise.filter _ h
theorem fullB_ne {l : List Bal} {x : Bal} (h : x ∈ fullB l) : x.amt ≠ 0 := by simpa using (List.mem_filter.1 h).2
theorem fullB_tot (l : List Bal) (k : Pl) : totB (fullB l) k = totB l k := by
  induction l with
  | nil => rfl
  | cons x l ih =>
    unfold fullB at *
    by_cases h : x.amt = 0
    · rw [List.filter_cons_of_neg (by simpa using h), ih, totB, h]
      split <;> omega
    · rw [List.filter_cons_of_pos (by simpa using h), totB, totB, ih]
theorem fullB_len (l : List Bal) : (fullB l).length ≤ l.length := List.length_filter_le _ _
/-- in a list in order, how much there is of a place is what stands there -/
theorem totB_mem {l : List Bal} (h : SSortB l) {x : Bal} (hx : x ∈ l) : totB l x.pl = x.amt := by
  induction l with
  | nil => cases hx
  | cons y l ih =>
    have h1 := List.pairwise_cons.1 h
    rw [totB]
    rcases List.mem_cons.1 hx with rfl | hx
    · rw [if_pos rfl, totB_none]
      · omega
      · intro hk; exact Pl.ne (ssortB_head h hk) rfl
    · rw [if_neg (Pl.ne (h1.1 x hx)), ih h1.2 hx]; omega
theorem hasB_ne {l : List Bal} (h : SSortB l) (hn : ∀ x, x ∈ l → x.amt ≠ 0) (k : Pl) : hasB l k ↔ totB l k ≠ 0 := by
  constructor
  · rintro ⟨x, hx, rfl⟩
    rw [totB_mem h hx]; exact hn x hx
  · intro ht
    by_cases hh : hasB l k
    · exact hh
    · exact absurd (totB_none hh) ht
/-- there is one list in order without any 0 of as much of each place -/
theorem full_unique {a b : List Bal} (ha : SSortB a) (hb : SSortB b) (na : ∀ x, x ∈ a → x.amt ≠ 0) (nb : ∀ x, x ∈ b → x.amt ≠ 0) (h : ∀ k, totB a k = totB b k) : a = b :=
  ssortB_unique a b ha hb (fun k => by rw [hasB_ne ha na, hasB_ne hb nb, h k]) h
/-- what the sums of some come to -/
def netB (l : List Bal) : List Bal := fullB (canonB l)
theorem netB_sort (l : List Bal) : SSortB (netB l) := fullB_sort (canonB_sort l)
theorem netB_ne {l : List Bal} {x : Bal} (h : x ∈ netB l) : x.amt ≠ 0 := fullB_ne h
theorem netB_tot (l : List Bal) (k : Pl) : totB (netB l) k = totB l k := by rw [netB, fullB_tot, canonB_tot]
theorem netB_of {a l : List Bal} (h : SSortB a) (hn : ∀ x, x ∈ a → x.amt ≠ 0) (ht : ∀ k, totB a k = totB l k) : a = netB l :=
  full_unique h (netB_sort l) hn (fun _ => netB_ne) (fun k => (ht k).trans (netB_tot l k).symm)
/-- a list of the right members, each once, sorted anyhow -/
theorem sorted_strict {l : List Bal} (hw : l.Pairwise fun x y => Pl.lt y.pl x.pl = false) (hd : l.Pairwise fun x y => x.pl ≠ y.pl) : SSortB l := by
  unfold SSortB
  refine (hw.and hd).imp ?_
  rintro x y ⟨h1, h2⟩
  cases h : Pl.lt x.pl y.pl with
  | true => rfl
  | false => exact absurd (Pl.tri h h1) h2
/-- as much of each place as in a list without a place twice whose members are right -/
theorem netB_perm {c a l : List Bal} (hp : a.Perm c) (hw : a.Pairwise fun x y => Pl.lt y.pl x.pl = false) (hd : c.Pairwise fun x y => x.pl ≠ y.pl)
    (hm : ∀ x, x ∈ c → x.amt = totB l x.pl ∧ x.amt ≠ 0) (hall : ∀ k, totB l k ≠ 0 → hasB c k) : a = netB l := by
  have hs : SSortB a := sorted_strict hw ((hp.pairwise_iff (fun h e => h e.symm)).2 hd)
  refine netB_of hs (fun x hx => (hm x (hp.mem_iff.1 hx)).2) fun k => ?_
  by_cases hk : hasB a k
  · obtain ⟨x, hx, rfl⟩ := hk
    rw [totB_mem hs hx]; exact (hm x (hp.mem_iff.1 hx)).1
  · rw [totB_none hk]
    by_cases ht : totB l k = 0
    · rw [ht]
    · exact absurd ((perm_hasB hp k).2 (hall k ht)) hk
/-- balances that are right are in order, without any 0 -/
theorem bals_sort {l : List Bal} (h : balsE l = 0) : SSortB l := by
  unfold SSortB
  rw [List.pairwise_iff_getElem]
  intro i j hi hj hij
  obtain ⟨d, rfl⟩ : ∃ d, j = i + 1 + d := ⟨j - i - 1, by omega⟩
  clear hij
  induction d with
  | zero =>
    have := ((balsE_0 h).2 (i + 1) hj).1
    rw [ordB_s hj] at this
    exact this
  | succ d ih =>
    have h1 := ih (by omega)
    have := ((balsE_0 h).2 (i + 1 + d + 1) hj).1
    rw [ordB_s (show i + 1 + d + 1 < l.length from hj)] at this
    exact Pl.trans h1 this
theorem bals_ne {l : List Bal} (h : balsE l = 0) : ∀ x, x ∈ l → x.amt ≠ 0 := by
  intro x hx
  obtain ⟨k, hk, rfl⟩ := List.getElem_of_mem hx
  exact ((balsE_0 h).2 k hk).2.2
theorem bals_may {l : List Bal} (h : balsE l = 0) : ∀ x, x ∈ l → mayB x.amt = true := by
  intro x hx
  obtain ⟨k, hk, rfl⟩ := List.getElem_of_mem hx
  exact ((balsE_0 h).2 k hk).2.1
theorem isAt_pl (e : Int) (a c : ByteArray) (x : Bal) : isAt e a c x = true ↔ x.pl = ⟨e, a, c⟩ := by
  unfold isAt Bal.pl
  simp only [Bool.and_eq_true, beq_iff_eq, Pl.mk.injEq]
  constructor
  · rintro ⟨⟨h1, h2⟩, h3⟩; exact ⟨h1, toList_inj h2, toList_inj h3⟩
  · rintro ⟨h1, h2, h3⟩; exact ⟨⟨h1, by rw [h2]⟩, by rw [h3]⟩
theorem getB_tot {l : List Bal} (h : SSortB l) (e : Int) (a c : ByteArray) : getB l e a c = totB l ⟨e, a, c⟩ := by
  unfold getB
  cases hf : l.find? (isAt e a c) with
  | some x =>
    have h1 := (isAt_pl e a c x).1 (List.find?_some hf)
    rw [← h1, totB_mem h (List.mem_of_find?_eq_some hf)]
  | none =>
    rw [totB_none]
    rintro ⟨x, hx, e1⟩
    have := List.find?_eq_none.1 hf x hx
    exact this ((isAt_pl e a c x).2 e1)

/-- what is wrong with two lists of balances put together -/
def mergeE (a b : List Bal) : Int := if balsE a ≠ 0 then balsE a else if balsE b ≠ 0 then balsE b else if 200 < (canonB (a ++ b)).length then 4 else if (netB (a ++ b)).all (fun x => mayB x.amt) = false then 10 else 0
theorem mergeE_range (a b : List Bal) : 0 ≤ mergeE a b ∧ mergeE a b ≤ 12 := by
  have h1 := balsE_range a
  have h2 := balsE_range b
  unfold mergeE
  repeat' split
  all_goals omega
theorem mergeE_1 {a b : List Bal} (h : balsE a ≠ 0) : mergeE a b = balsE a := if_pos h
theorem mergeE_2 {a b : List Bal} (h : balsE a = 0) (h2 : balsE b ≠ 0) : mergeE a b = balsE b := by rw [mergeE, if_neg (by simpa using h), if_pos h2]
theorem mergeE_3 {a b : List Bal} (h : balsE a = 0) (h2 : balsE b = 0) (h3 : 200 < (canonB (a ++ b)).length) : mergeE a b = 4 := by rw [mergeE, if_neg (by simpa using h), if_neg (by simpa using h2), if_pos h3]
theorem mergeE_4 {a b : List Bal} (h : balsE a = 0) (h2 : balsE b = 0) (h3 : ¬ 200 < (canonB (a ++ b)).length) (h4 : (netB (a ++ b)).all (fun x => mayB x.amt) = false) : mergeE a b = 10 := by rw [mergeE, if_neg (by simpa using h), if_neg (by simpa using h2), if_neg h3, if_pos h4]
theorem mergeE_5 {a b : List Bal} (h : balsE a = 0) (h2 : balsE b = 0) (h3 : ¬ 200 < (canonB (a ++ b)).length) (h4 : (netB (a ++ b)).all (fun x => mayB x.amt) = true) : mergeE a b = 0 := by rw [mergeE, if_neg (by simpa using h), if_neg (by simpa using h2), if_neg h3, if_neg (by rw [h4]; decide)]
theorem mergeE_0 {a b : List Bal} (h : mergeE a b = 0) : balsE a = 0 ∧ balsE b = 0 ∧ (canonB (a ++ b)).length ≤ 200 ∧ ∀ x, x ∈ netB (a ++ b) → mayB x.amt = true := by
  by_cases h1 : balsE a = 0
  · by_cases h2 : balsE b = 0
    · by_cases h3 : 200 < (canonB (a ++ b)).length
      · rw [mergeE_3 h1 h2 h3] at h; cases h
      · cases h4 : (netB (a ++ b)).all (fun x => mayB x.amt) with
        | false => rw [mergeE_4 h1 h2 h3 h4] at h; cases h
        | true => exact ⟨h1, h2, by omega, fun x hx => List.all_eq_true.1 h4 x hx⟩
    · rw [mergeE_2 h1 h2] at h; exact absurd h h2
  · rw [mergeE_1 h1] at h; exact absurd h h1
end Go.Proofs.YthmjkhlndphldaaGreatDoor

namespace Go.Proofs.YthmjkhlndphldaaGreatDoor
open Go Go.RowKit
set_option linter.unusedVariables false

theorem insB_at : ∀ (k : Nat) (l : List Bal) (x : Bal), (∀ (j : Nat) (hj : j < l.length), j < k → Pl.lt l[j].pl x.pl = true) → k ≤ l.length → (∀ h : k < l.length, Pl.lt l[k].pl x.pl = false) →
    insB l x = l.take k ++ (match l.drop k with | [] => [x] | y :: r => if y.pl = x.pl then { y with amt := y.amt + x.amt } :: r else x :: y :: r) := by
  intro k
  induction k with
  | zero =>
    intro l x _ _ h
    cases l with
    | nil => rfl
    | cons y l =>
      have h0 := h (by simp)
      simp only [List.getElem_cons_zero] at h0
      unfold insB
      rw [if_neg (by rw [h0]; decide)]
      rfl
  | succ k ih =>
    intro l x hto hk h
    cases l with
    | nil => simp at hk
    | cons y l =>
      have h0 := hto 0 (by simp) (by omega)
      simp only [List.getElem_cons_zero] at h0
      unfold insB
      rw [if_pos h0, ih l x (fun j hj hjk => by have := hto (j + 1) (by simp; omega) (by omega); simpa using this) (by simpa using hk) (fun hh => by have := h (by simp; omega); simpa using this)]
      rfl
theorem insB_add {k : Nat} {l : List Bal} {x : Bal} (hto : ∀ (j : Nat) (hj : j < l.length), j < k → Pl.lt l[j].pl x.pl = true) (hk : k < l.length) (he : l[k].pl = x.pl) : insB l x = l.set k { l[k] with amt := l[k].amt + x.amt } := by
  rw [insB_at k l x hto (by omega) (fun _ => by rw [he]; exact Pl.irrefl _), List.drop_eq_getElem_cons hk]
  simp only [if_pos he]
  rw [List.set_eq_take_append_cons_drop, if_pos hk]
theorem insB_new {k : Nat} {l : List Bal} {x : Bal} (hto : ∀ (j : Nat) (hj : j < l.length), j < k → Pl.lt l[j].pl x.pl = true) (hk : k ≤ l.length) (hn : ∀ h : k < l.length, Pl.lt x.pl l[k].pl = true) : insB l x = l.take k ++ [x] ++ l.drop k := by
  rw [insB_at k l x hto hk (fun h => Pl.asymm (hn h))]
  rcases Nat.lt_or_ge k l.length with h | h
  · rw [List.drop_eq_getElem_cons h]
    have : l[k].pl ≠ x.pl := fun e => Pl.ne (hn h) e.symm
    simp only [if_neg this]
    simp
  · rw [List.drop_eq_nil_of_le h]
    simp
theorem insB_len_le (l : List Bal) (x : Bal) : (insB l x).length ≤ l.length + 1 ∧ l.length ≤ (insB l x).length := by
  induction l with
  | nil => simp [insB]
  | cons y l ih =>
    unfold insB
    split
    · simp only [List.length_cons]; omega
    · split
      · simp only [List.length_cons]; omega
      · simp only [List.length_cons]; omega

/-- balances k of the second list put in -/
def mergeTo (a b : List Bal) (k : Nat) : List Bal := (b.take k).foldl insB a
theorem mergeTo_0 (a b : List Bal) : mergeTo a b 0 = a := rfl
theorem mergeTo_succ {a b : List Bal} {k : Nat} (hk : k < b.length) : mergeTo a b (k + 1) = insB (mergeTo a b k) b[k] := by
  unfold mergeTo
  rw [List.take_succ_eq_append_getElem hk, List.foldl_append]
  rfl
theorem mergeTo_all {a b : List Bal} {k : Nat} (ha : SSortB a) (hk : b.length ≤ k) : mergeTo a b k = canonB (a ++ b) := by
  unfold mergeTo
  rw [List.take_of_length_le hk, canonB_append, canonB_same ha]
theorem mergeTo_len (a b : List Bal) (k : Nat) : (mergeTo a b k).length ≤ a.length + k := by
  induction k with
  | zero => simp [mergeTo]
  | succ k ih =>
    rcases Nat.lt_or_ge k b.length with h | h
    · rw [mergeTo_succ h]
      have := (insB_len_le (mergeTo a b k) b[k]).1
      omega
    · unfold mergeTo at *
      rw [List.take_of_length_le (by omega)]
      rw [List.take_of_length_le h] at ih
      omega
theorem mergeTo_sort {a b : List Bal} (ha : SSortB a) (k : Nat) : SSortB (mergeTo a b k) := (foldl_insB (b.take k) a ha).1
theorem mergeTo_tot {a b : List Bal} (ha : SSortB a) (k : Nat) (p : Pl) : totB (mergeTo a b k) p = totB a p + totB (b.take k) p := (foldl_insB (b.take k) a ha).2.2 p
theorem take_none {b : List Bal} (hb : SSortB b) {k : Nat} (hk : k < b.length) : totB (b.take k) b[k].pl = 0 := by
  refine totB_none ?_
  rintro ⟨x, hx, e⟩
  obtain ⟨j, hj, rfl⟩ := List.getElem_of_mem hx
  rw [List.getElem_take] at e
  simp only [List.length_take] at hj
  have := List.pairwise_iff_getElem.1 hb j k (by omega) hk (by omega)
  exact Pl.ne this e
theorem tot_may {a : List Bal} (ha : balsE a = 0) (p : Pl) : -1000000000000000000 ≤ totB a p ∧ totB a p ≤ 1000000000000000000 := by
  have := may_le (getB_may ha p.ent p.acc p.cur)
  rwa [getB_tot (bals_sort ha)] at this
/-- what stands there already, and what is put to it, are a number of 64 bits -/
theorem merge_fits {a b : List Bal} (ha : balsE a = 0) (hb : balsE b = 0) {k : Nat} (hk : k < b.length) : ∀ y, y ∈ mergeTo a b k → y.pl = b[k].pl → -9223372036854775808 ≤ y.amt + b[k].amt ∧ y.amt + b[k].amt ≤ 9223372036854775807 := by
  intro y hy e
  have h1 := totB_mem (mergeTo_sort (bals_sort ha) k) hy
  rw [e, mergeTo_tot (bals_sort ha), take_none (bals_sort hb) hk] at h1
  have h2 := tot_may ha b[k].pl
  have h3 := may_le (bals_may hb _ (List.getElem_mem hk))
  omega
/-- in the map, too -/
theorem sums_fit {a b : List Bal} (ha : balsE a = 0) (hb : balsE b = 0) {k : Nat} (hk : k < (a ++ b).length) : -9223372036854775808 ≤ totB ((a ++ b).take k) (a ++ b)[k].pl + (a ++ b)[k].amt ∧ totB ((a ++ b).take k) (a ++ b)[k].pl + (a ++ b)[k].amt ≤ 9223372036854775807 := by
  rcases Nat.lt_or_ge k a.length with h | h
  · have e1 : (a ++ b).take k = a.take k := List.take_append_of_le_length (by omega)
    have e2 : (a ++ b)[k] = a[k] := List.getElem_append_left h
    rw [e1, e2, take_none (bals_sort ha) h]
    have h3 := may_le (bals_may ha _ (List.getElem_mem h))
    omega
  · rw [List.length_append] at hk
    have e1 : (a ++ b).take k = a ++ b.take (k - a.length) := by rw [List.take_append, List.take_of_length_le h]
    have e2 : (a ++ b)[k]'(by rw [List.length_append]; omega) = b[k - a.length]'(by omega) := List.getElem_append_right h
    rw [e1, e2, totB_append, take_none (bals_sort hb) (by omega)]
    have h2 := tot_may ha (b[k - a.length]'(by omega)).pl
    have h3 := may_le (bals_may hb _ (List.getElem_mem (show k - a.length < b.length by omega)))
    omega
def fullTo (l : List Bal) (k : Nat) : List Bal := fullB (l.take k)
theorem fullTo_succ_no {l : List Bal} {k : Nat} (hk : k < l.length) (h : l[k].amt = 0) : fullTo l (k + 1) = fullTo l k := by
  unfold fullTo fullB
  rw [List.take_succ_eq_append_getElem hk, List.filter_append]
  simp [h]
theorem fullTo_succ_yes {l : List Bal} {k : Nat} (hk : k < l.length) (h : l[k].amt ≠ 0) : fullTo l (k + 1) = fullTo l k ++ [l[k]] := by
  unfold fullTo fullB
  rw [List.take_succ_eq_append_getElem hk, List.filter_append]
  simp [h]
theorem fullTo_all {l : List Bal} {k : Nat} (hk : l.length ≤ k) : fullTo l k = fullB l := by unfold fullTo; rw [List.take_of_length_le hk]
theorem fullTo_len (l : List Bal) (k : Nat) : (fullTo l k).length ≤ k := by
  have := fullB_len (l.take k)
  rw [List.length_take] at this
  unfold fullTo
  omega
end Go.Proofs.YthmjkhlndphldaaGreatDoor

namespace Go.Proofs.YthmjkhlndphldaaGreatDoor
open Go Go.RowKit
set_option linter.unusedVariables false

def zeroBal : Value := .agg #[.int .i64 0, .string ⟨#[]⟩, .string ⟨#[]⟩, .int .i64 0]
theorem bal_info : (Tryz.prog.info? 73).map (fun i => (i.zero, i.size, i.bytes)) = some (some zeroBal, 4, 48) := by kernel_rfl

set_option maxHeartbeats 1000000 in
set_option maxRecDepth 100000 in
theorem refFull_any (l : List Bal) (A : Option Addr) (n cap : Nat) (w : World) (hl : n ≤ 1000) (ha : Rd w 4 balEnc A n l) :
    Calls Tryz.prog 57 #[.slice A n cap] w fun e w' => ∃ v, e = .returned v ∧ Own w' w.heap.size 73 4 balEnc v (fullB l) ∧ Below w.heap.size w w' := by
  obtain ⟨i0, hi0, hz0, hz1, hz2⟩ := info_parts bal_info
  have Hn := hide ha.1
  go_enter Tryz.func57, Tryz.ntmps57
  go_wp2_with fail
  go_loopw [3, 4] (fun ov iv wr => ∃ k : Nat, k ≤ n ∧ iv = .int .i64 k ∧ Own wr w.heap.size 73 4 balEnc ov (fullTo l k) ∧ Below w.heap.size w wr) (fun _ iv _ => n - (intOf iv).toNat)
  case atStart => exact ⟨0, by omega, rfl, Own.nil _ _ _ _ _, Below.refl _ _⟩
  case round =>
    obtain ⟨k, hk, rfl, hown, hbr⟩ := hrel
    by_cases hlt : k < n
    · have hkl : k < l.length := by have := Hn.out; omega
      obtain ⟨b, off, rfl, hcs⟩ := (Rd.below ha hbr).2 (by omega)
      have q0 := hcs k 0 _ hkl rfl
      have q1 := hcs k 1 _ hkl rfl
      have q2 := hcs k 2 _ hkl rfl
      have q3 := hcs k 3 _ hkl rfl
      rw [Nat.add_zero] at q0
      clear hcs
      have k0 : (0 : Int) ≤ (k : Int) := by omega
      have k1 : (k : Int) < (n : Int) := by omega
      have hfl := fullTo_len l k
      obtain ⟨UA, uc, rfl, huc, hum⟩ := hown.form
      by_cases hz : l[k].amt = 0
      · have hzc : (l[k].amt != 0) = false := by simp [hz]
        have HF := hide (fullTo_succ_no hkl hz)
        clear hz
        go_wp2_with fail
        go_roundw
        case rel => exact ⟨k + 1, by omega, by go_num, by rw [HF.out]; exact hown, hbr⟩
        case measure => simp [intOf]; omega
      · have hzc : (l[k].amt != 0) = true := by simp [hz]
        have HF := hide (fullTo_succ_yes hkl hz)
        clear hz
        go_wp2_with (first | (at_builtin; go_loud (refine wpList_push _ rfl _ _ 74 rfl w.heap.size 73 i0 zeroBal 4 48 Tryz.underlying74 hi0 hz0 hz1 hz2 rfl (by decide) balEnc_ok _ (fullTo l k) rfl (hown.alloc _) _ 1 1 [l[k]] rfl (Rd.boxedAt _ balEnc_ok l[k] _ _ rfl _ (by simp)) (by intro h; cases h) (by unfold maxLen; omega) (by omega) (by have := hbr.size; simp; omega) ?_); intro v2 w2 hown2 hg2 hat2; have hb2 := (hbr.alloc hbr.size _).grown hg2 (by have := hbr.size; simp; omega) (fun k e => (hown.block k e).1)))
        go_roundw
        case rel => exact ⟨k + 1, by omega, by go_num, by rw [HF.out]; exact hown2, hb2⟩
        case measure => simp [intOf]; omega
    · go_wp2_with fail
      have HF := hide (fullTo_all (l := l) (k := k) (by have := Hn.out; omega))
      go_ret
      exact ⟨_, rfl, by rw [← HF.out]; exact hown, hbr⟩
end Go.Proofs.YthmjkhlndphldaaGreatDoor

namespace Go.Proofs.YthmjkhlndphldaaGreatDoor
open Go Go.RowKit Go.Maps Go.WideMaps
set_option linter.unusedVariables false

def plKey (p : Pl) : Value := .agg #[.int .i64 p.ent, .string p.acc, .string p.cur]
def PlFits (p : Pl) : Prop := (-9223372036854775808 ≤ p.ent ∧ p.ent ≤ 9223372036854775807) ∧ p.acc.size ≤ 9223372036854775807 ∧ p.cur.size ≤ 9223372036854775807
theorem BalFits.pl {x : Bal} (h : BalFits x) : PlFits x.pl := ⟨h.1, h.2.1, h.2.2.1⟩
theorem plKey_inj {p q : Pl} (h : plKey p = plKey q) : p = q := by
  obtain ⟨a, b, c⟩ := p
  obtain ⟨d, e, f⟩ := q
  simp [plKey] at h
  obtain ⟨rfl, rfl, rfl⟩ := h
  rfl
theorem wide_place : (match Tryz.prog.underlying 164 with | some (.array _ _) | some (.struct _) => true | _ => false) = true := by kernel_rfl
set_option maxRecDepth 100000 in
theorem placeKey : Keyed Tryz.prog 164 := Keyed.of_law (deep_law_laid laid_out (m := 2) (by omega) (of_decide_eq_true (by kernel_rfl)) (by kernel_rfl) wide_place)
theorem keyType_place : Tryz.prog.keyType 164 = true := by kernel_rfl
theorem cells_place : Tryz.prog.cellsOf 164 = 3 := by kernel_rfl
theorem cells_pint : Tryz.prog.cellsOf 3 = 1 := by kernel_rfl
theorem cells_pstr : Tryz.prog.cellsOf 9 = 1 := by kernel_rfl
theorem types_two : ∃ m, Tryz.prog.types.size + 1 = m + 2 := ⟨Tryz.prog.types.size - 1, by have : 0 < Tryz.prog.types.size := of_decide_eq_true (by kernel_rfl); omega⟩

set_option maxRecDepth 100000 in
theorem lits_int (m : Nat) (v : Value) (l : List Lit) : Tryz.prog.keyLits (m + 1) 3 [v] = some l ↔ ∃ e, v = .int .i64 e ∧ (Lit.int .i64 e).wf = true ∧ l = [.int .i64 e] := by
  unfold Program.keyLits
  rw [Tryz.underlying3]
  constructor
  · intro h
    cases v <;> simp at h
    obtain ⟨⟨rfl, h⟩, rfl⟩ := h
    exact ⟨_, rfl, h, rfl⟩
  · rintro ⟨e, rfl, h, rfl⟩
    simp [h]
set_option maxRecDepth 100000 in
theorem lits_str (m : Nat) (v : Value) (l : List Lit) : Tryz.prog.keyLits (m + 1) 9 [v] = some l ↔ ∃ s : ByteArray, v = .string s ∧ s.size ≤ maxLen ∧ l = [.string s.data.toList] := by
  unfold Program.keyLits
  rw [Tryz.underlying9]
  constructor
  · intro h
    cases v <;> simp at h
    obtain ⟨h, rfl⟩ := h
    exact ⟨_, rfl, h, rfl⟩
  · rintro ⟨e, rfl, h, rfl⟩
    simp [h]
set_option maxRecDepth 100000 in
theorem lits_place (m : Nat) (xs : List Value) (L : List Lit) : Tryz.prog.keyLits (m + 2) 164 xs = some L ↔
    ∃ v0 v1 v2 l0 l1 l2, xs = [v0, v1, v2] ∧ Tryz.prog.keyLits (m + 1) 3 [v0] = some l0 ∧ Tryz.prog.keyLits (m + 1) 9 [v1] = some l1 ∧ Tryz.prog.keyLits (m + 1) 9 [v2] = some l2 ∧ L = l0 ++ (l1 ++ l2) := by
  conv => lhs; unfold Program.keyLits
  rw [Tryz.underlying164]
  simp only [cells_place]
  constructor
  · intro h
    split at h
    · rename_i hc
      obtain ⟨v0, v1, v2, rfl⟩ : ∃ v0 v1 v2, xs = [v0, v1, v2] := by
        match xs, hc.1 with
        | [a, b, c], _ => exact ⟨a, b, c, rfl⟩
      simp only [List.mapM_cons, List.mapM_nil, List.drop_zero, List.drop_succ_cons, cells_pint, cells_pstr, List.take_succ_cons, List.take_zero] at h
      cases h0 : Tryz.prog.keyLits (m + 1) 3 [v0] with
      | none => simp [h0] at h
      | some l0 =>
        cases h1 : Tryz.prog.keyLits (m + 1) 9 [v1] with
        | none => simp [h0, h1] at h
        | some l1 =>
          cases h2 : Tryz.prog.keyLits (m + 1) 9 [v2] with
          | none => simp [h0, h1, h2] at h
          | some l2 =>
            simp [h0, h1, h2] at h
            exact ⟨v0, v1, v2, l0, l1, l2, rfl, h0, h1, h2, h.symm⟩
    · cases h
  · rintro ⟨v0, v1, v2, l0, l1, l2, rfl, h0, h1, h2, rfl⟩
    rw [if_pos ⟨rfl, by kernel_rfl⟩]
    simp [List.mapM_cons, cells_pint, cells_pstr, h0, h1, h2]

set_option maxRecDepth 100000 in
/-- a place is a key -/
theorem keyOf_some {p : Pl} (h : PlFits p) : ∃ l, keyOf Tryz.prog 164 (plKey p) = some l := by
  obtain ⟨m, hm⟩ := types_two
  have h1 : Tryz.prog.keyLits (m + 2) 164 [.int .i64 p.ent, .string p.acc, .string p.cur] = some ([.int .i64 p.ent] ++ ([.string p.acc.data.toList] ++ [.string p.cur.data.toList])) :=
    (lits_place m _ _).2 ⟨_, _, _, _, _, _, rfl, (lits_int m _ _).2 ⟨_, rfl, by simp [Lit.wf, IntKind.min, IntKind.max, IntKind.signed, IntKind.bits]; exact h.1, rfl⟩, (lits_str m _ _).2 ⟨_, rfl, by unfold maxLen; exact h.2.1, rfl⟩, (lits_str m _ _).2 ⟨_, rfl, by unfold maxLen; exact h.2.2, rfl⟩, rfl⟩
  have hf : (plKey p).formed Tryz.prog 164 = true := by
    unfold plKey Value.formed
    rw [Tryz.underlying164, cells_place]; rfl
  refine ⟨.string (keyBytes ([.int .i64 p.ent] ++ ([.string p.acc.data.toList] ++ [.string p.cur.data.toList]))), ?_⟩
  unfold keyOf
  rw [Tryz.underlying164]
  show (if (Tryz.prog.keyType 164 && (plKey p).formed Tryz.prog 164) = true then (Tryz.prog.keyLits (Tryz.prog.types.size + 1) 164 [.int .i64 p.ent, .string p.acc, .string p.cur]).map fun ls => Lit.string (keyBytes ls) else none) = _
  rw [keyType_place, hf, hm, h1]
  rfl
/-- what a place reads as -/
noncomputable def plLit (p : Pl) : Lit := (keyOf Tryz.prog 164 (plKey p)).getD .nil
set_option maxRecDepth 100000 in
theorem keyOf_pl {p : Pl} (h : PlFits p) : keyOf Tryz.prog 164 (plKey p) = some (plLit p) := by
  obtain ⟨l, hl⟩ := keyOf_some h
  unfold plLit
  rw [hl]; rfl
set_option maxRecDepth 100000 in
/-- a key is a place -/
theorem keyOf_inv {v : Value} {l : Lit} (h : keyOf Tryz.prog 164 v = some l) : ∃ p, v = plKey p ∧ PlFits p ∧ l = plLit p := by
  have key : ∃ p, v = plKey p ∧ PlFits p := by
    obtain ⟨xs, L, rfl, hL, _⟩ := keyOf_top wide_place h
    obtain ⟨m, hm⟩ := types_two
    rw [hm] at hL
    obtain ⟨v0, v1, v2, l0, l1, l2, hx, h0, h1, h2, _⟩ := (lits_place m _ _).1 hL
    obtain ⟨e, rfl, he, _⟩ := (lits_int m _ _).1 h0
    obtain ⟨a, rfl, ha, _⟩ := (lits_str m _ _).1 h1
    obtain ⟨c, rfl, hc, _⟩ := (lits_str m _ _).1 h2
    refine ⟨⟨e, a, c⟩, ?_, ?_, ?_, ?_⟩
    · unfold plKey
      congr 1
      exact Array.toList_inj.1 hx
    · simp [Lit.wf, IntKind.min, IntKind.max, IntKind.signed, IntKind.bits] at he; exact he
    · unfold maxLen at ha; exact ha
    · unfold maxLen at hc; exact hc
  obtain ⟨p, rfl, hp⟩ := key
  refine ⟨p, rfl, hp, ?_⟩
  rw [keyOf_pl hp] at h
  exact (Option.some.inj h).symm
set_option maxRecDepth 100000 in
theorem plLit_inj {p q : Pl} (hp : PlFits p) (hq : PlFits q) (h : plLit p = plLit q) : p = q := by
  have h1 := keyOf_pl hp
  have h2 := keyOf_pl hq
  rw [← h] at h2
  exact plKey_inj (placeKey.inj h1 h2)
set_option maxRecDepth 100000 in
theorem plLit_key {p : Pl} (hp : PlFits p) : WideAt.IsKeyLit (plLit p) := placeKey.key (keyOf_pl hp)
set_option maxRecDepth 100000 in
theorem plLit_same {p q : Pl} (hp : PlFits p) (hq : PlFits q) : (plLit p).sameKey (plLit q) = decide (p = q) := by
  by_cases h : p = q
  · subst h
    rw [WideAt.sameKey_self (plLit_key hp)]; simp
  · rw [sameKey_ne (fun e => h (plLit_inj hp hq e))]; simp [h]

set_option maxRecDepth 100000 in
theorem zeroInt (w : World) : (zeroValue 3).run Tryz.prog w = .ok (.int .i64 0) w := by kernel_rfl
/-- block m is a map of at most n entries: of each place as much as the balances S have of it -/
def Sums (w : World) (m n : Nat) (S : List Bal) : Prop :=
  ∃ D : DataW Unit, w.ownsMap Tryz.prog 164 (plainElem Tryz.prog 3) m n D ∧ Tidy D ∧ Maps.size D = (canonB S).length ∧ (∀ p, PlFits p → (Maps.has D (plLit p) = true ↔ hasB S p)) ∧
    ∀ p, PlFits p → D.atKey (plLit p) (.lit (.int .i64 0)) = .lit (.int .i64 (totB S p))
theorem Sums.lt {w : World} {m n : Nat} {S : List Bal} (h : Sums w m n S) : m < w.heap.size := by
  obtain ⟨D, h1, _⟩ := h; exact h1.lt
theorem Sums.made (w : World) : Sums (w.alloc (.map #[] 0)) w.heap.size 0 [] :=
  ⟨.map [], World.ownsMap_made _ _ _ _, tidy_empty, rfl, fun p _ => ⟨(fun h => by simp [Maps.has] at h), (fun ⟨_, h, _⟩ => absurd h (by simp))⟩, fun p _ => by simp [DataW.atKey, totB]⟩
theorem Sums.kept {w w' : World} {m n : Nat} {S : List Bal} {row : Option Nat} (h : Sums w m n S) (hg : w.grownBy w' row) (hne : some m ≠ row) : Sums w' m n S := by
  obtain ⟨D, h1, h2⟩ := h; exact ⟨D, h1.kept hg hne, h2⟩
theorem Sums.below {w w' : World} {m n : Nat} {S : List Bal} (h : Sums w m n S) (hb : Below w.heap.size w w') : Sums w' m n S :=
  h.kept (row := none) ⟨hb.os, hb.tape, hb.output, hb.size, fun i hi _ => hb.block i hi⟩ (by simp)
set_option maxRecDepth 100000 in
theorem Sums.lookup {w : World} {m n : Nat} {S : List Bal} (h : Sums w m n S) (p : Pl) (hp : PlFits p) :
    (Instr.lookup 161 (.map (some m)) (plKey p) false).run Tryz.prog w = .ok (.int .i64 (totB S p)) w := by
  obtain ⟨D, h1, _, _, _, h4⟩ := h
  obtain ⟨c, hrun, hat, _⟩ := h1.lookup_int placeKey Tryz.underlying161 Tryz.underlying3 (zeroInt w) (keyOf_pl hp)
  rw [h4 p hp] at hat
  injection hat with hat
  injection hat with _ hat
  rw [hrun, hat]
set_option maxRecDepth 100000 in
theorem Sums.put {w' : World} {m n : Nat} {S : List Bal} {D : DataW Unit} (x : Bal) (hx : PlFits x.pl) {c : Int} (hc : c = totB S x.pl + x.amt) (h2 : Tidy D) (h3 : Maps.size D = (canonB S).length) (h4 : ∀ p, PlFits p → (Maps.has D (plLit p) = true ↔ hasB S p))
    (h5 : ∀ p, PlFits p → D.atKey (plLit p) (.lit (.int .i64 0)) = .lit (.int .i64 (totB S p)))
    (h : w'.ownsMap Tryz.prog 164 (plainElem Tryz.prog 3) m (n + 1) (D.put (plLit x.pl) (.lit (.int .i64 c)))) : Sums w' m (n + 1) (S ++ [x]) := by
  refine ⟨_, h, h2.put (plLit_key hx) _, ?_, fun p hp => ?_, fun p hp => ?_⟩
  · rw [size_put h2, h3, canonB_snoc]
    by_cases hh : hasB S x.pl
    · rw [if_pos ((h4 _ hx).2 hh), (insB_len x (canonB_sort S)).1 ((canonB_has S _).2 hh)]
    · rw [if_neg (fun e => hh ((h4 _ hx).1 e)), (insB_len x (canonB_sort S)).2 (fun e => hh ((canonB_has S _).1 e))]
  · rw [hasB_append]
    by_cases e : p = x.pl
    · subst e
      rw [has_put_same h2.isMap (plLit_key hx)]
      exact ⟨fun _ => .inr ⟨x, by simp, rfl⟩, fun _ => rfl⟩
    · rw [has_put_other (fun h => e (plLit_inj hp hx h)), h4 p hp]
      constructor
      · exact .inl
      · rintro (h | ⟨y, hy, e2⟩)
        · exact h
        · have : y = x := by simpa using hy
          subst this; exact absurd e2.symm e
  · rw [totB_append]
    by_cases e : p = x.pl
    · subst e
      rw [atKey_put_same h2.isMap (plLit_key hx), hc]
      simp [totB]
    · rw [atKey_put_other (fun h => e (plLit_inj hp hx h)), h5 p hp]
      rw [totB, if_neg (fun e' => e (Eq.symm e'))]
      simp [totB]
set_option maxRecDepth 100000 in
theorem Sums.update {w : World} {m n : Nat} {S : List Bal} (h : Sums w m n S) (hn : n < maxLen) (x : Bal) (hx : PlFits x.pl) {c : Int} (hc : c = totB S x.pl + x.amt) (hw : (Lit.int .i64 c).wf = true) :
    ∃ w', (Instr.mapUpdate 161 (.map (some m)) (plKey x.pl) (.int .i64 c)).run Tryz.prog w = .ok () w' ∧ Sums w' m (n + 1) (S ++ [x]) ∧ w.grownBy w' (some m) := by
  obtain ⟨D, h1, h2, h3, h4, h5⟩ := h
  obtain ⟨w', r1, r2, r3⟩ := h1.update placeKey Tryz.underlying161 hn (keyOf_pl hx) (plainElem_int Tryz.underlying3 hw)
  exact ⟨w', r1, Sums.put x hx hc h2 h3 h4 h5 r2, r3⟩

/-- balances met so far in a range over the map: each place once, those that are not 0 -/
structure Coll (S : List Bal) (left : Lit → Bool) (cs : List Bal) : Prop where
  once : cs.Pairwise fun x y => x.pl ≠ y.pl
  right : ∀ x, x ∈ cs → x.amt = totB S x.pl ∧ x.amt ≠ 0 ∧ PlFits x.pl ∧ left (plLit x.pl) = false
  all : ∀ p, PlFits p → hasB S p → totB S p ≠ 0 → left (plLit p) = false → hasB cs p
theorem Coll.start {S : List Bal} {D : DataW Unit} (h4 : ∀ p, PlFits p → (Maps.has D (plLit p) = true ↔ hasB S p)) : Coll S (Maps.has D) [] :=
  ⟨List.Pairwise.nil, (fun x hx => absurd hx (by simp)), (fun p hp h _ hl => absurd (((h4 p hp).2 h).symm.trans hl) (by decide))⟩
theorem strike {left : Lit → Bool} {p q : Pl} (hp : PlFits p) (hq : PlFits q) : (left (plLit p) && !(plLit p).sameKey (plLit q)) = if p = q then false else left (plLit p) := by
  rw [plLit_same hp hq]
  by_cases h : p = q
  · simp [h]
  · simp [h]
theorem Coll.skip {S : List Bal} {left : Lit → Bool} {cs : List Bal} (h : Coll S left cs) {p : Pl} (hp : PlFits p) (h0 : totB S p = 0) : Coll S (fun z => left z && !z.sameKey (plLit p)) cs := by
  refine ⟨h.once, fun x hx => ?_, fun q hq hs ht hl => ?_⟩
  · obtain ⟨h1, h2, h3, h4⟩ := h.right x hx
    exact ⟨h1, h2, h3, by simp [h4]⟩
  · simp only [strike hq hp] at hl
    by_cases e : q = p
    · subst e; exact absurd h0 ht
    · rw [if_neg e] at hl; exact h.all q hq hs ht hl
theorem Coll.take {S : List Bal} {left : Lit → Bool} {cs : List Bal} (h : Coll S left cs) {x : Bal} (hp : PlFits x.pl) (hl : left (plLit x.pl) = true) (h0 : x.amt = totB S x.pl) (hn : x.amt ≠ 0) : Coll S (fun z => left z && !z.sameKey (plLit x.pl)) (cs ++ [x]) := by
  refine ⟨?_, fun y hy => ?_, fun q hq hs ht hl' => ?_⟩
  · refine List.pairwise_append.2 ⟨h.once, by simp, fun a ha b hb => ?_⟩
    have : b = x := by simpa using hb
    subst this
    intro e
    have := (h.right a ha).2.2.2
    rw [e, hl] at this; cases this
  · rcases List.mem_append.1 hy with hy | hy
    · obtain ⟨h1, h2, h3, h4⟩ := h.right y hy
      exact ⟨h1, h2, h3, by simp [h4]⟩
    · have : y = x := by simpa using hy
      subst this
      exact ⟨h0, hn, hp, by simp only [strike hp hp, if_pos]⟩
  · rw [hasB_append]
    simp only [strike hq hp] at hl'
    by_cases e : q = x.pl
    · exact .inr ⟨x, by simp, e.symm⟩
    · rw [if_neg e] at hl'; exact .inl (h.all q hq hs ht hl')
/-- at the end, put in order: what the sums come to -/
theorem Coll.net {S : List Bal} {left : Lit → Bool} {cs a : List Bal} (h : Coll S left cs) (h0 : ∀ kl, left kl = false) (hS : ∀ x, x ∈ S → PlFits x.pl) (hp : a.Perm cs) (hw : a.Pairwise fun x y => Pl.lt y.pl x.pl = false) : a = netB S := by
  refine netB_perm hp hw h.once (fun x hx => ⟨(h.right x hx).1, (h.right x hx).2.1⟩) fun k hk => ?_
  by_cases hh : hasB S k
  · obtain ⟨x, hx, rfl⟩ := hh
    exact h.all _ (hS x hx) ⟨x, hx, rfl⟩ hk (h0 _)
  · exact absurd (totB_none hh) hk
end Go.Proofs.YthmjkhlndphldaaGreatDoor

namespace Go.Proofs.YthmjkhlndphldaaGreatDoor
open Go Go.RowKit
set_option linter.unusedVariables false

theorem ltOf_bal : Go.Proofs.ltOf cmpBal = fun x y => Pl.lt x.pl y.pl := by
  funext x y
  exact cmpBal_lt x y
theorem Pl.le_trans {x y z : Pl} (h : Pl.lt y x = false) (k : Pl.lt z y = false) : Pl.lt z x = false := by
  cases hz : Pl.lt z x with
  | false => rfl
  | true =>
    cases hy : Pl.lt y z with
    | true => rw [Pl.trans hy hz] at h; cases h
    | false =>
      obtain rfl := Pl.tri hy k
      rw [hz] at h; cases h
theorem swo_bal : Go.Sort.SWO (Go.Proofs.ltOf cmpBal) := by
  rw [ltOf_bal]
  exact ⟨fun x => Pl.irrefl _, fun x y z h k => Pl.trans h k, fun x y z h k => Pl.le_trans k h⟩
theorem cmpLays_bal (g size : Nat) (w : World) : Go.Proofs.CmpLays Tryz.prog 103 #[] balEnc 4 cmpBal g 0 size w :=
  fun _ _ _ _ x y => compare_bal x y _

set_option maxRecDepth 100000 in
theorem sort_bals (l : List Bal) (B : Nat) (v : Value) (w : World) (h : Own w B 73 4 balEnc v l) (hB : B ≤ w.heap.size) (hl : l.length ≤ 1000) :
    Calls Tryz.prog 148 #[v, .func (.func 103) #[] #[]] w
      fun e w' => e = .returned (.tuple #[]) ∧ ∃ s : List Bal, s.Perm l ∧ (s.Pairwise fun x y => Pl.lt y.pl x.pl = false) ∧ Own w' B 73 4 balEnc v s ∧ w.grownBy w' v.ownBlock := by
  have h' := h
  rcases h.2 with ⟨rfl, h0⟩ | ⟨g, cap, cur, rfl, hBg, hg, hc, hm, hcs, ht⟩
  · have hl0 : l = [] := List.eq_nil_of_length_eq_zero h0
    subst hl0
    refine Calls.mono (Go.Proofs.AnyF.slices_SortFunc_none Tryz.g148 none 0 (.func (.func 103) #[] #[]) w) (fun e w' hw => ?_)
    obtain ⟨rfl, rfl⟩ := hw
    exact ⟨rfl, [], List.Perm.refl _, List.Pairwise.nil, h', World.grownBy.refl _ _⟩
  · have hr : RowAt w g 73 4 balEnc (cap * 4) l := ⟨cur, hg, hcs, ht⟩
    have eg : ∀ args w, (callFunc 103 args).run Tryz.prog w = .ok (.enter 103 args) w := enters_of Tryz.func103 (by kernel_rfl) rfl
    have hcon := Go.Proofs.AnyQ.slices_SortFunc Tryz.g148 4 Tryz.isAgg73 Tryz.sizeOf73 balEnc (fun _ => rfl) balEnc_ok.one cmpBal swo_bal 103 #[] g 0 cap l.toArray w eg
      (cmpLays_bal g _ w) (hr.holds balEnc_ok) hr.lt (by simp; omega)
    change Calls Tryz.prog 148 _ _ _ at hcon
    refine Calls.mono (by simpa using hcon) (fun e w' hw => ?_)
    obtain ⟨rfl, d, hp, hs, q, os, rfl⟩ := hw
    have hd : d.size = l.length := by rw [hp.1]; simp
    obtain ⟨h1, h2⟩ := hr.resorted balEnc_ok q os d hd
    have hperm : d.toList.Perm l := by
      have := hp.2.2
      have h3 : (d.extract 0 l.length).toList = d.toList := by rw [← hd]; simp
      rw [h3] at this
      simpa using this
    refine ⟨rfl, d.toList, hperm, ?_, ?_, h2⟩
    · rw [List.pairwise_iff_getElem]
      intro i j hi hj hij
      have h3 := hs i j (Nat.zero_le _) hij (by rw [← hd]; simpa using hj)
      rw [ltOf_bal] at h3
      have e1 : d[j]! = d[j]'(by simpa using hj) := getElem!_pos d j _
      have e2 : d[i]! = d[i]'(by simpa using hi) := getElem!_pos d i _
      rw [e1, e2] at h3
      simpa using h3
    · have hlen := hperm.length_eq
      rw [← hlen]
      exact h1.own balEnc_ok hBg (by omega) hm
end Go.Proofs.YthmjkhlndphldaaGreatDoor

namespace Go.Proofs.YthmjkhlndphldaaGreatDoor
open Go Go.RowKit Go.Maps
set_option linter.unusedVariables false

theorem plKey_mk (e : Int) (a c : ByteArray) : plKey ⟨e, a, c⟩ = .agg #[.int .i64 e, .string a, .string c] := rfl

set_option maxHeartbeats 4000000 in
set_option maxRecDepth 100000 in
theorem list_any (S : List Bal) (m nn : Nat) (w : World) (hS : Sums w m nn S) (hfits : ∀ x, x ∈ S → PlFits x.pl) (hnn : (canonB S).length ≤ 9223372036854775807) :
    Calls Tryz.prog 107 #[.map (some m)] w fun e w' =>
      ((200 < (canonB S).length ∧ e = .returned (.tuple #[.slice none 0 0, .iface 108 (.int .i64 4)])) ∨
        (¬ 200 < (canonB S).length ∧ ∃ v, e = .returned (.tuple #[v, .nilIface]) ∧ Own w' w.heap.size 73 4 balEnc v (netB S))) ∧ Below w.heap.size w w' := by
  obtain ⟨i0, hi0, hz0, hz1, hz2⟩ := info_parts bal_info
  obtain ⟨D, hown, htidy, hsize, hhas, hat⟩ := hS
  have hmw := hown.lt
  have HSZ := hide hsize
  generalize hcl : (canonB S).length = cl at hsize hnn ⊢
  have HCL := hide hcl
  have HFI := hide hfits
  have HHAS := hide hhas
  have HAT := hide hat
  clear hcl hfits hhas hat htidy
  by_cases h200 : 200 < cl
  · have h1 : (200 : Int) < (cl : Int) := by omega
    go_enter Tryz.func107, Tryz.ntmps107
    go_wp2_with (first | (at_len; refine wpList_len_own _ rfl _ 161 rfl 164 3 Tryz.underlying161 _ m nn D rfl hown ?_; rw [hsize]))
    go_ret2
    exact ⟨.inl ⟨h200, rfl⟩, Below.refl _ _⟩
  · have h1 : ¬ (200 : Int) < (cl : Int) := by omega
    have hcl200 : cl ≤ 200 := by omega
    go_enter Tryz.func107, Tryz.ntmps107
    go_wp2_with (first | (at_len; refine wpList_len_own _ rfl _ 161 rfl 164 3 Tryz.underlying161 _ m nn D rfl hown ?_; rw [hsize]) | (at_range; refine wpList_range_own _ rfl _ 161 rfl 164 3 placeKey Tryz.underlying161 _ m nn D rfl hown ?_; intro w0 hrg0 hg0 hs0))
    rw [hsize] at hrg0
    have hb0 : Below w.heap.size w w0 := ⟨hg0.os, hg0.tape, hg0.output, hg0.size, fun i hi => hg0.block i hi (by simp)⟩
    go_loopw [4] (fun ov wr => ∃ (left : Lit → Bool) (cnt : Nat) (cs : List Bal), wr.ranges Tryz.prog 164 (plainElem Tryz.prog 3) m w.heap.size nn D left cnt ∧ Own wr (w.heap.size + 1) 73 4 balEnc ov cs ∧ Coll S left cs ∧ cs.length + cnt ≤ cl ∧ Below w.heap.size w wr) (fun _ wr => wr.rangeLeft m w.heap.size)
    case atStart => exact ⟨_, _, [], hrg0, Own.nil _ _ _ _ _, Coll.start HHAS.out, by simp, hb0⟩
    case round =>
      clear hrg0 hb0 hown
      obtain ⟨left, cnt, cs, hrg, hown, hcoll, hlen, hbr⟩ := hrel
      have hrl := hrg.lt
      have hre := hrg.left_eq
      go_wp2_with (first | (at_next; refine wpList_next_ranges _ rfl _ rfl 164 placeKey _ plKey (Value.int .i64) (fun key kl hk => by obtain ⟨p, hp, _⟩ := keyOf_inv hk; exact ⟨p, hp⟩) (fun v y hv => by obtain ⟨c, hc, _⟩ := plainElem_int_inv Tryz.underlying3 hv; exact ⟨c, hc⟩) m w.heap.size nn D left cnt rfl hrg ?_ ?_))
      · intro hc0 hl0
        have HN := fun (s : List Bal) (hp : s.Perm cs) (hw : s.Pairwise fun x y => Pl.lt y.pl x.pl = false) => hcoll.net hl0 HFI.out hp hw
        clear hl0 hcoll hrg hre
        have hw1 : w.heap.size + 1 ≤ wr.heap.size := by omega
        go_wp2_with fail
        refine (sort_bals cs _ _ wr hown hw1 (by omega)).mono ?_
        rintro e w3 ⟨rfl, s, hp, hw, hown3, hg3⟩
        have HS := hide (HN s hp hw)
        have hbl := fun k e => (hown.block k e).1
        obtain ⟨VA, vc, rfl, hvc, hvm⟩ := hown.form
        have hlen3 : s.length = cs.length := hp.length_eq
        clear HN hp hw hown
        go_wp2_with fail
        go_ret2
        exact ⟨.inr ⟨h200, _, rfl, by rw [← HS.out]; exact Own.wider hown3 (by omega)⟩, hbr.grown hg3 hbr.size (fun k e => by have := hbl k e; omega)⟩
      · intro x c kl ya yp w2 cnt2 hkey hlk hv hat2 hrg2 hlt2 hg2 hs2 hen
        obtain ⟨p, ep, hpf, rfl⟩ := keyOf_inv hkey
        obtain rfl := plKey_inj ep
        have hc : c = totB S x := by
          obtain ⟨c', ec, hya, _⟩ := plainElem_int_inv Tryz.underlying3 hv
          injection ec with _ ec
          simp only [Prod.mk.injEq] at hya
          have h := HAT.out x hpf
          rw [hat2, hya.1] at h
          injection h with h
          injection h with _ h
          rw [ec]; exact h
        have hown2 := hown.grown hg2 (.inr (fun e => by have := (hown.block _ e).1; omega))
        have hb2 : Below w.heap.size w w2 := hbr.grown hg2 hbr.size (fun k e => by injection e with e; omega)
        have hsz2 : w.heap.size < w2.heap.size := by omega
        clear hs2 hkey hv hat2 ep hown
        obtain ⟨pe, pa, pc⟩ := x
        rw [plKey_mk] at hen ⊢
        obtain ⟨VA, vc, rfl, hvc, hvm⟩ := hown2.form
        have hcs : cs.length < 200 := by omega
        by_cases hz : c = 0
        · have hzc : (c != 0) = false := by simp [hz]
          have HK := hide (hcoll.skip hpf (by rw [← hc]; exact hz))
          clear hc hz
          go_wp2_with fail
          go_roundw
          case rel => exact ⟨_, cnt2, cs, hrg2.alloc _, hown2.alloc _, HK.out, by omega, hb2.alloc hb2.size _⟩
          case measure => rw [(hrg2.alloc _).left_eq, hre]; exact hlt2
        · have hzc : (c != 0) = true := by simp [hz]
          have HK := hide (hcoll.take (x := ⟨pe, pa, pc, c⟩) hpf hlk hc hz)
          clear hc hz
          go_wp2_with (first | (at_builtin; go_loud (refine wpList_push _ rfl _ _ 74 rfl (w.heap.size + 1) 73 i0 zeroBal 4 48 Tryz.underlying74 hi0 hz0 hz1 hz2 rfl (by decide) balEnc_ok _ cs rfl ((hown2.alloc _).alloc _) _ 1 1 [⟨pe, pa, pc, c⟩] rfl (Rd.boxedAt _ balEnc_ok ⟨pe, pa, pc, c⟩ _ _ rfl _ (by simp)) (by intro h; cases h) (by unfold maxLen; omega) (by omega) (by simp; omega) ?_); intro v3 w3 hown3 hg3 hat3))
          go_roundw
          case rel => exact ⟨_, cnt2, _, ((hrg2.alloc _).alloc _).kept hg3 (fun e => by have := (hown2.block _ e.symm).1; omega) (fun e => by have := (hown2.block _ e.symm).1; omega), hown3, HK.out, by simp; omega, ((hb2.alloc hb2.size _).alloc (by simp; omega) _).grown hg3 (by simp; omega) (fun k e => by have := (hown2.block k e).1; omega)⟩
          case measure => rw [(((hrg2.alloc _).alloc _).kept hg3 (fun e => by have := (hown2.block _ e.symm).1; omega) (fun e => by have := (hown2.block _ e.symm).1; omega)).left_eq, hre]; exact hlt2
end Go.Proofs.YthmjkhlndphldaaGreatDoor

namespace Go.Proofs.YthmjkhlndphldaaGreatDoor
open Go Go.RowKit Go.Maps
set_option linter.unusedVariables false

def idxBal (l : List Bal) (p : Bal → Bool) : Int := match l.findIdx? p with | some k => (k : Int) | none => -1
theorem NoTo.hitI {l : List Bal} {p : Bal → Bool} {k : Nat} (h : NoTo p l k) (hk : k < l.length) (hc : p l[k] = true) : idxBal l p = (k : Int) := by
  have : l.findIdx? p = some k := by
    rw [List.findIdx?_eq_some_iff_getElem]
    exact ⟨hk, hc, fun j hj => by rw [h j (by omega) hj]; decide⟩
  simp [idxBal, this]
theorem NoTo.missI {l : List Bal} {p : Bal → Bool} {k : Nat} (h : NoTo p l k) (hk : l.length ≤ k) : idxBal l p = -1 := by
  have : l.findIdx? p = none := by
    rw [List.findIdx?_eq_none_iff]
    intro x hx
    obtain ⟨j, hj, rfl⟩ := List.getElem_of_mem hx
    exact h j hj (by omega)
  simp [idxBal, this]
theorem idxBal_any (l : List Bal) (p : Bal → Bool) : decide (0 ≤ idxBal l p) = l.any p := by
  unfold idxBal
  cases h : l.findIdx? p with
  | none =>
    rw [List.findIdx?_eq_none_iff] at h
    have : l.any p = false := by rw [List.any_eq_false]; intro x hx; rw [h x hx]; decide
    rw [this]; rfl
  | some k =>
    obtain ⟨hk, hc, _⟩ := List.findIdx?_eq_some_iff_getElem.1 h
    have : l.any p = true := List.any_eq_true.2 ⟨_, List.getElem_mem hk, hc⟩
    rw [this]; simp
/-- what is asked of a function of balances: it says p, and turns nothing -/
def AsksB (K : Nat) (p : Bal → Bool) : Prop := ∀ (x : Bal) (w : World), Calls Tryz.prog K #[.agg #[.int .i64 x.ent, .string x.acc, .string x.cur, .int .i64 x.amt]] w fun e w' => e = .returned (.bool (p x)) ∧ Below w.heap.size w w'

set_option maxRecDepth 100000 in
theorem indexFunc_bal (l : List Bal) (K : Nat) (p : Bal → Bool) (hK : Hid (AsksB K p)) (eg : ∀ args w, (callFunc K args).run Tryz.prog w = .ok (.enter K args) w) (A : Option Addr) (n cap : Nat) (w : World) (hl : n ≤ 9223372036854775807) (ha : Rd w 4 balEnc A n l) :
    Calls Tryz.prog 149 #[.slice A n cap, .func (.func K) #[] #[]] w
      fun e w' => e = .returned (.int .i64 (idxBal l p)) ∧ Below w.heap.size w w' := by
  have Hn := hide ha.1
  go_enter Tryz.func149, Tryz.ntmps149
  go_wp2_with fail
  go_loopw [8] (fun i wr => ∃ k : Nat, k ≤ n ∧ i = .int .i64 k ∧ NoTo p l k ∧ Below w.heap.size w wr) (fun i _ => n - (intOf i).toNat)
  case atStart => exact ⟨0, by omega, rfl, NoTo.zero _ _, Below.refl _ _⟩
  case round =>
    obtain ⟨k, hk, rfl, hno, hb⟩ := hrel
    have HNo := hide hno
    clear hno
    by_cases hlt : k < n
    · obtain ⟨b, off, rfl, hcs⟩ := (Rd.below ha hb).2 (by omega)
      have hkl : k < l.length := by have := Hn.out; omega
      have h0 := hcs k 0 _ hkl rfl
      have h1 := hcs k 1 _ hkl rfl
      have h2 := hcs k 2 _ hkl rfl
      have h3 := hcs k 3 _ hkl rfl
      rw [Nat.add_zero] at h0
      clear hcs
      cases hp : p l[k] with
      | true =>
        have HP := hide hp
        clear hp
        go_wp2_with fail
        refine (hK.out l[k] _).mono ?_
        rintro e w1 ⟨rfl, hb1⟩
        rw [HP.out]
        go_wp2_with fail
        go_ret
        exact ⟨ret_int (HNo.out.hitI hkl HP.out).symm, bthen hb (Nat.le_refl _) hb1⟩
      | false =>
        have HP := hide hp
        clear hp
        go_wp2_with fail
        refine (hK.out l[k] _).mono ?_
        rintro e w1 ⟨rfl, hb1⟩
        rw [HP.out]
        go_wp2_with fail
        go_roundw
        case rel => exact ⟨k + 1, by omega, by go_num, HNo.out.succ hkl HP.out, bthen hb (Nat.le_refl _) hb1⟩
        case measure => simp [intOf]; omega
    · go_wp2_with fail
      go_ret
      exact ⟨ret_int (HNo.out.missI (by have := Hn.out; omega)).symm, hb⟩

theorem containsFunc_bal (l : List Bal) (K : Nat) (p : Bal → Bool) (hK : Hid (AsksB K p)) (eg : ∀ args w, (callFunc K args).run Tryz.prog w = .ok (.enter K args) w) (A : Option Addr) (n cap : Nat) (w : World) (hl : n ≤ 9223372036854775807) (ha : Rd w 4 balEnc A n l) :
    Calls Tryz.prog 108 #[.slice A n cap, .func (.func K) #[] #[]] w
      fun e w' => e = .returned (.bool (l.any p)) ∧ Below w.heap.size w w' := by
  have HA := hide (idxBal_any l p)
  go_enter Tryz.func108, Tryz.ntmps108
  go_wp2_with fail
  refine (indexFunc_bal l K p hK eg _ _ _ _ hl ha).mono ?_
  rintro e w1 ⟨rfl, hb1⟩
  go_wp2_with fail
  go_ret
  exact ⟨ret_bool HA.out, hb1⟩

theorem asks_over : AsksB 109 (fun x => !mayB x.amt) := by
  intro x w
  go_enter Tryz.func109, Tryz.ntmps109
  go_wp2_with fail
  refine (may_any x.amt _).mono ?_
  rintro e w1 ⟨rfl, rfl⟩
  go_wp2_with fail
  go_ret
  exact ⟨rfl, (Below.refl _ _).alloc (Nat.le_refl _) _⟩

set_option maxRecDepth 100000 in
theorem placeLaw : WideMaps.KeyLaw Tryz.prog 164 := deep_law_laid laid_out (m := 2) (by omega) (of_decide_eq_true (by kernel_rfl)) (by kernel_rfl) wide_place
theorem grown_set {w : World} {m : Nat} {es : Array MapEntry} {clock : Nat} {o' : Obj} (h : w.heap[m]? = some (.map es clock)) : w.grownBy (ChangeMaps.setBlock w m o') (some m) :=
  ⟨rfl, rfl, rfl, by simp [ChangeMaps.setBlock], fun i _ hi => ChangeMaps.heap_setBlock_other h _ (fun e => hi (by rw [e]))⟩

theorem lit_inj {a b : Int} (h : (DataW.lit (.int .i64 a) : DataW Unit) = .lit (.int .i64 b)) : a = b := by
  injection h with h
  injection h
set_option maxRecDepth 100000 in
/-- behind the entry's laying the look-up says as ahead of it -/
theorem Sums.mid {w w1 : World} {m n : Nat} {S : List Bal} (h : Sums w m n S) (hn : n < maxLen) (p : Pl) (hp : PlFits p) {r : Value}
    (hE : (Instr.mapEntry 161 (.map (some m)) (plKey p)).run Tryz.prog w = .ok r w1) :
    (Instr.lookup 161 (.map (some m)) (plKey p) false).run Tryz.prog w1 = .ok (.int .i64 (totB S p)) w1 := by
  obtain ⟨D, hown, h2, h3, h4, h5⟩ := h
  have hcopy := hown
  obtain ⟨es, clock, hb, F, hs, hD⟩ := hown
  have hat := h5 p hp
  have hkey := keyOf_pl hp
  have ht := Tryz.underlying161
  rcases placeLaw.find w hkey es.toList F.keys with ⟨h1, habs⟩ | ⟨j, e0, h1, hj, hk0⟩
  · have hE2 : (Instr.mapEntry 161 (.map (some m)) (plKey p)).run Tryz.prog w = .ok (.tuple #[.int .i64 0, goInt clock]) (ChangeMaps.setBlock w m (.map (es.push ⟨plKey p, .int .i64 0, clock⟩) (clock + 1))) := by
      simp [Instr.mapEntry, run_underlying ht, MapKept.run_getObj_map hb, placeLaw.check w false hkey, h1, zeroInt w, MapKept.run_setObj_map _ hb, Result.andThen, ChangeMaps.setBlock]
    have hU2 : (Instr.mapUpdate 161 (.map (some m)) (plKey p) (.int .i64 0)).run Tryz.prog w = .ok () (ChangeMaps.setBlock w m (.map (es.push ⟨plKey p, .int .i64 0, clock⟩) (clock + 1))) := by
      simp [Instr.mapUpdate, run_underlying ht, MapKept.run_getObj_map hb, placeLaw.check w false hkey, h1, MapKept.run_setObj_map _ hb, Result.andThen, ChangeMaps.setBlock]
    obtain ⟨w', r1, r2, r3⟩ := hcopy.update placeKey ht hn hkey (plainElem_int Tryz.underlying3 (show (Lit.int .i64 0).wf = true by decide))
    have e1 := (Result.ok.inj (hU2.symm.trans r1)).2
    have e2 := (Result.ok.inj (hE2.symm.trans hE)).2
    rw [← e1, e2] at r2
    obtain ⟨c, hrun, hc, _⟩ := r2.lookup_int placeKey ht Tryz.underlying3 (zeroInt w1) hkey
    have hc := lit_inj ((atKey_put_same h2.isMap (plLit_key hp) _ _).symm.trans hc)
    have h0 : totB S p = 0 := by
      rcases Maps.fit_look false placeKey ht (zeroInt w) hb F hkey with ⟨_, _, hz⟩ | ⟨e1, y, hm1, hk1, _⟩
      · exact (lit_inj ((hz _).symm.trans (by rw [← hD]; exact hat))).symm
      · exact absurd hk1 (habs e1 hm1)
    rw [hrun, h0, hc]
  · have hj' : es[j]? = some e0 := by simpa using hj
    have hsame : es.modify j (fun e => { e with key := plKey p }) = es := by
      apply Array.ext'
      rw [Array.toList_modify, ChangeMaps.modify_eq_set _ _ _ _ hj]
      have : ({ e0 with key := plKey p } : MapEntry) = e0 := by rw [← hk0]
      show es.toList.set j { e0 with key := plKey p } = _
      rw [this]
      exact WideElems.set_self _ _ _ hj
    have hE2 : (Instr.mapEntry 161 (.map (some m)) (plKey p)).run Tryz.prog w = .ok (.tuple #[e0.val, goInt e0.born]) (ChangeMaps.setBlock w m (.map es clock)) := by
      simp [Instr.mapEntry, run_underlying ht, MapKept.run_getObj_map hb, placeLaw.check w false hkey, h1, hj', hk0, placeLaw.stays w hkey, hsame, MapKept.run_setObj_map _ hb, Result.andThen, ChangeMaps.setBlock]
    have e2 := (Result.ok.inj (hE2.symm.trans hE)).2
    have r2 : w1.ownsMap Tryz.prog 164 (plainElem Tryz.prog 3) m n D := by
      rw [← e2]
      exact ⟨es, clock, ChangeMaps.heap_setBlock_same hb _, F, hs, hD⟩
    obtain ⟨c, hrun, hc, _⟩ := r2.lookup_int placeKey ht Tryz.underlying3 (zeroInt w1) hkey
    rw [hrun, lit_inj (hat.symm.trans hc)]

set_option maxRecDepth 100000 in
/-- 's[p] += n': the entry is laid or found, the sum stored in it -/
theorem Sums.bump {w : World} {m n : Nat} {S : List Bal} (h : Sums w m n S) (hn : n < maxLen) (x : Bal) (hx : PlFits x.pl) {c : Int} (hc : c = totB S x.pl + x.amt) (hw : (Lit.int .i64 c).wf = true) :
    ∃ (v0 : Value) (st : Nat) (w1 w2 : World), (Instr.mapEntry 161 (.map (some m)) (plKey x.pl)).run Tryz.prog w = .ok (.tuple #[v0, .int .i64 st]) w1 ∧
      (Instr.lookup 161 (.map (some m)) (plKey x.pl) false).run Tryz.prog w1 = .ok (.int .i64 (totB S x.pl)) w1 ∧
      (Instr.entryStore 161 (.map (some m)) (.int .i64 st) (.int .i64 c)).run Tryz.prog w1 = .ok () w2 ∧ Sums w2 m (n + 1) (S ++ [x]) ∧ w.grownBy w2 (some m) := by
  obtain ⟨D, hown, h2, h3, h4, h5⟩ := h
  have hcopy := hown
  obtain ⟨es, clock, hb, F, hs, hD⟩ := hown
  obtain ⟨v0, st, es1, clock1, hE, hcase, hS⟩ := WideElems.entry_then_store (t := 161) placeLaw Tryz.underlying161 (fun u => zeroInt u) hb F (keyOf_pl hx)
  have hb1 := ChangeMaps.heap_setBlock_same hb (.map es1 clock1)
  obtain ⟨es', clock', hst, hup⟩ := hS _ (.int .i64 c) hb1
  obtain ⟨w', r1, r2, r3⟩ := hcopy.update placeKey Tryz.underlying161 hn (keyOf_pl hx) (plainElem_int Tryz.underlying3 hw)
  have e1 := (Result.ok.inj (hup.symm.trans r1)).2
  rw [← e1] at r2
  refine ⟨v0, st, _, _, hE, Sums.mid ⟨D, hcopy, h2, h3, h4, h5⟩ hn x.pl hx hE, hst, ?_, ?_⟩
  · refine Sums.put x hx hc h2 h3 h4 h5 ?_
    obtain ⟨es2, clock2, hb2, F2, hs2, hD2⟩ := r2
    rw [ChangeMaps.heap_setBlock_same hb] at hb2
    exact ⟨es2, clock2, (ChangeMaps.heap_setBlock_same hb1 _).trans hb2, F2, hs2, hD2⟩
  · exact (grown_set (o' := .map es1 clock1) hb).trans (grown_set hb1)
end Go.Proofs.YthmjkhlndphldaaGreatDoor

namespace Go.Proofs.YthmjkhlndphldaaGreatDoor
open Go Go.RowKit
set_option linter.unusedVariables false

/-- those ahead of k stand ahead of x -/
def AheadBTo (l : List Bal) (x : Bal) (k : Nat) : Prop := ∀ (j : Nat) (hj : j < l.length), j < k → Pl.lt l[j].pl x.pl = true
theorem AheadBTo.zero (l : List Bal) (x : Bal) : AheadBTo l x 0 := fun _ _ h => absurd h (by omega)
theorem AheadBTo.succ {l : List Bal} {x : Bal} {k : Nat} (h : AheadBTo l x k) (hk : k < l.length) (hc : aheadB l[k] x = true) : AheadBTo l x (k + 1) := by
  intro j hj hjk
  by_cases e : j = k
  · subst e; exact hc
  · exact h j hj (by omega)
theorem put_add {l : List Bal} {x : Bal} {k : Nat} (h : AheadBTo l x k) (hk : k < l.length) (h1 : aheadB l[k] x = false) (h2 : aheadB x l[k] = false) : insB l x = l.set k { l[k] with amt := l[k].amt + x.amt } ∧ l[k].pl = x.pl :=
  ⟨insB_add h hk (Pl.tri h1 h2), Pl.tri h1 h2⟩
theorem put_new {l : List Bal} {x : Bal} {k : Nat} (h : AheadBTo l x k) (hk : k < l.length) (h2 : aheadB x l[k] = true) : insB l x = l.take k ++ [x] ++ l.drop k := insB_new h (by omega) (fun _ => h2)
theorem put_end {l : List Bal} {x : Bal} {k : Nat} (h : AheadBTo l x k) (hk : k = l.length) : insB l x = l.take k ++ [x] ++ l.drop k := insB_new h (by omega) (fun _ => by omega)

set_option maxHeartbeats 4000000 in
set_option maxRecDepth 100000 in
theorem refPut_any (l : List Bal) (x : Bal) (A : Option Addr) (n cap : Nat) (w : World) (hn : n ≤ 1000) (hnc : n ≤ cap) (hcm : cap ≤ maxLen) (ha : Rd w 4 balEnc A n l) (hA : (A = none ∧ cap = 0) ∨ ∃ b off, A = some ⟨b, off, none⟩)
    (hfit : ∀ y, y ∈ l → y.pl = x.pl → -9223372036854775808 ≤ y.amt + x.amt ∧ y.amt + x.amt ≤ 9223372036854775807) :
    Calls Tryz.prog 56 #[.slice A n cap, .agg #[.int .i64 x.ent, .string x.acc, .string x.cur, .int .i64 x.amt]] w fun e w' => ∃ v, e = .returned v ∧ Own w' w.heap.size 73 4 balEnc v (insB l x) ∧ Below w.heap.size w w' := by
  obtain ⟨i0, hi0, hz0, hz1, hz2⟩ := info_parts bal_info
  have Hn := hide ha.1
  have x0 : (w.alloc (.cells #[.int .i64 x.ent, .string x.acc, .string x.cur, .int .i64 x.amt] 73)).cell? ⟨w.heap.size, 0, none⟩ = some (.int .i64 x.ent) := by simp
  have x1 : (w.alloc (.cells #[.int .i64 x.ent, .string x.acc, .string x.cur, .int .i64 x.amt] 73)).cell? ⟨w.heap.size, 1, none⟩ = some (.string x.acc) := by simp
  have x2 : (w.alloc (.cells #[.int .i64 x.ent, .string x.acc, .string x.cur, .int .i64 x.amt] 73)).cell? ⟨w.heap.size, 2, none⟩ = some (.string x.cur) := by simp
  have x3 : (w.alloc (.cells #[.int .i64 x.ent, .string x.acc, .string x.cur, .int .i64 x.amt] 73)).cell? ⟨w.heap.size, 3, none⟩ = some (.int .i64 x.amt) := by simp
  have hbx : Below w.heap.size w (w.alloc (.cells #[.int .i64 x.ent, .string x.acc, .string x.cur, .int .i64 x.amt] 73)) := (Below.refl _ _).alloc (Nat.le_refl _) _
  have hxs : w.heap.size < (w.alloc (.cells #[.int .i64 x.ent, .string x.acc, .string x.cur, .int .i64 x.amt] 73)).heap.size := by simp
  go_enter Tryz.func56, Tryz.ntmps56
  go_wp2_with fail
  generalize w.alloc (.cells #[.int .i64 x.ent, .string x.acc, .string x.cur, .int .i64 x.amt] 73) = W1 at x0 x1 x2 x3 hbx hxs ⊢
  have ha1 := ha.below hbx
  have hcm2 : cap ≤ 9223372036854775807 := hcm
  go_loopw [5] (fun kv wi => ∃ k : Nat, k ≤ n ∧ kv = .int .i64 k ∧ AheadBTo l x k ∧ Below W1.heap.size W1 wi) (fun kv _ => n - (intOf kv).toNat)
  case atStart => exact ⟨0, by omega, rfl, AheadBTo.zero _ _, Below.refl _ _⟩
  case round =>
    obtain ⟨k, hk, rfl, hah, hbi⟩ := hrel
    have HA := hide hah
    clear hah
    have har := ha1.below hbi
    have y0 := below_cell hbi hxs x0
    have y1 := below_cell hbi hxs x1
    have y2 := below_cell hbi hxs x2
    have y3 := below_cell hbi hxs x3
    have hws := hbi.size
    have hwx := Nat.lt_of_lt_of_le hxs hws
    have hbw : Below w.heap.size w wr := hbx.trans (hbi.mono hbx.size)
    have tok0 : True := trivial
    have tok1 : True := trivial
    have tok2 : True := trivial
    by_cases hko : k < n
    · obtain ⟨b, off, rfl, hcs⟩ := har.2 (by omega)
      have hkl : k < l.length := by have := Hn.out; omega
      have p0 := hcs k 0 _ hkl rfl
      have p1 := hcs k 1 _ hkl rfl
      have p2 := hcs k 2 _ hkl rfl
      have p3 := hcs k 3 _ hkl rfl
      rw [Nat.add_zero] at p0
      clear hcs
      have hbs : b < wr.heap.size := World.block_lt_of_cell? _ _ p0
      have k0 : (0 : Int) ≤ (k : Int) := by omega
      have k1 : (k : Int) < (n : Int) := by omega
      have hku : (k : Int) ≤ (cap : Int) := by omega
      have hkc : ¬ cap = k := by omega
      have hkm : (k : Int) ≤ (n : Int) := by omega
      cases ho : aheadB l[k] x with
      | true =>
        have HO := hide ho
        clear ho
        go_wp2_with fail
        refine wp_region_still_tail 10 (by kernel_rfl) (by kernel_rfl) ?_
        simp only [List.take_succ_cons, List.take_zero, List.drop_succ_cons, List.drop_zero]
        change wpStill _ _ wr.drew _ _ _
        repeat still_step
        refine wpStill_nil ?_
        change wpList _ _ _ _ _ wr.drew
        go_wp2_with (first | (go_at_call 105; refine (ahead_any l[k] x _).mono ?_; rintro e w4 ⟨rfl, hb4⟩; rw [HO.out]))
        have hb4 : Below wr.heap.size wr w4 := (bdrewN (Below.refl _ wr) 1).trans hb4
        go_roundw
        case rel => exact ⟨k + 1, by omega, by go_num, HA.out.succ hkl HO.out, hbi.trans (hb4.mono hbi.size)⟩
        case measure => simp [intOf]; omega
      | false =>
        have HO := hide ho
        clear ho
        go_wp2_with fail
        refine wp_region_still_tail 10 (by kernel_rfl) (by kernel_rfl) ?_
        simp only [List.take_succ_cons, List.take_zero, List.drop_succ_cons, List.drop_zero]
        change wpStill _ _ wr.drew _ _ _
        repeat still_step
        refine wpStill_nil ?_
        change wpList _ _ _ _ _ wr.drew
        go_wp2_with (first | (go_at_call 105; refine (ahead_any l[k] x _).mono ?_; rintro e w4 ⟨rfl, hb4⟩; rw [HO.out]; have hb4 : Below wr.heap.size wr w4 := (bdrewN (Below.refl _ wr) 1).trans hb4; have har4 := har.below hb4; have hs4 := hb4.size) | (at_builtin; (have _t0 := tok0); go_loud (refine wpList_push _ rfl _ _ 74 rfl wr.heap.size 73 i0 zeroBal 4 48 Tryz.underlying74 hi0 hz0 hz1 hz2 rfl (by decide) balEnc_ok _ ([] : List Bal) rfl (Own.nil _ _ _ _ _) _ n cap l rfl har4 (by intro h; cases h) (by first | (simp only [maxLen, List.length_nil]; omega) | simp [maxLen]) (by first | (simp only [List.length_nil]; omega) | simp) (by omega) ?_); clear tok0; intro v5 w5 hown5 hg5 hat5; rw [List.nil_append] at hown5; have hb5 : Below wr.heap.size wr w5 := hb4.grown hg5 hb4.size (fun k e => by cases e)))
        have har5 := har.below hb5
        have hs5 := hb5.size
        have s0 := below_cell hb5 hbs p0
        have z0 := below_cell hb5 hwx y0
        have s1 := below_cell hb5 hbs p1
        have z1 := below_cell hb5 hwx y1
        have s2 := below_cell hb5 hbs p2
        have z2 := below_cell hb5 hwx y2
        have s3 := below_cell hb5 hbs p3
        have z3 := below_cell hb5 hwx y3
        obtain ⟨VA, vc, rfl, hvc, hvm⟩ := hown5.form
        rw [Hn.out] at hown5 hvc ⊢
        have hb5w : Below w.heap.size w w5 := hbw.trans (hb5.mono hbw.size)
        cases ho2 : aheadB x l[k] with
        | false =>
          have HX := hide (put_add HA.out hkl HO.out ho2)
          have HP := hide ho2
          clear ho2
          have hft := hfit l[k] (List.getElem_mem _) HX.out.2
          have hf1 := hft.1
          have hf2 := hft.2
          clear hft
          obtain ⟨gv, rfl⟩ : ∃ gv, VA = some ⟨gv, 0, none⟩ := by
            rcases hown5.2 with ⟨hv, h0⟩ | ⟨g9, cap9, cur9, hv, _⟩
            · injection hv with e1 e2 e3; omega
            · injection hv with e1; exact ⟨g9, e1⟩
          have hwa : IntKind.i64.wrap (l[k].amt + x.amt) = l[k].amt + x.amt := IntWalk.i64_in _ (by omega)
          refine wp_region_still_tail 10 (by kernel_rfl) (by kernel_rfl) ?_
          simp only [List.take_succ_cons, List.take_zero, List.drop_succ_cons, List.drop_zero]
          change wpStill _ _ w5.drew _ _ _
          repeat still_step
          refine wpStill_nil ?_
          change wpList _ _ _ _ _ w5.drew
          go_wp2_with (first | (go_at_call 105; refine (ahead_any x l[k] _).mono ?_; rintro e w6 ⟨rfl, hb4⟩; rw [HP.out]; have hb6 : Below w5.heap.size w5 w6 := (bdrewN (Below.refl _ w5) 1).trans hb4; have hown6 := hown5.below hb6; have c3 := hown6.cells balEnc_ok k 3 (.int .i64 l[k].amt) hkl rfl; have g3 := c3.2; have c3 := c3.1; have zz3 := below_cell hb6 (Nat.lt_of_lt_of_le hwx hs5) z3))
          have hb6w : Below w.heap.size w w6 := hb5w.trans (hb6.mono hb5w.size)
          refine wp_region_still_tail 12 (by kernel_rfl) (by kernel_rfl) ?_
          simp only [List.take_succ_cons, List.take_zero, List.drop_succ_cons, List.drop_zero]
          change wpStill _ _ w6.drew _ _ _
          repeat still_step
          refine wpStill_nil ?_
          change wpList _ _ _ _ _ w6.drew
          go_wp2_with fail
          go_ret
          have hst := Own.store balEnc_ok (hown6.below (bdrewN (Below.refl _ w6) 1)) k 3 { l[k] with amt := l[k].amt + x.amt } (.int .i64 (l[k].amt + x.amt)) hkl (by omega) rfl
          exact ⟨_, rfl, by rw [HX.out.1]; exact Own.wider hst hbw.size, (bdrewN hb6w 1).setCell (Nat.le_trans hbw.size (hown5.block gv rfl).1) _⟩
        | true =>
          have HX := hide (put_new HA.out hkl ho2)
          have HP := hide ho2
          clear ho2
          have hL5 : (([] : List Bal) ++ l.take k).length ≤ 1000 := by simp; omega
          have hL6 : ((([] : List Bal) ++ l.take k) ++ [x]).length ≤ 1001 := by simp; omega
          refine wp_region_still_tail 10 (by kernel_rfl) (by kernel_rfl) ?_
          simp only [List.take_succ_cons, List.take_zero, List.drop_succ_cons, List.drop_zero]
          change wpStill _ _ w5.drew _ _ _
          repeat still_step
          refine wpStill_nil ?_
          change wpList _ _ _ _ _ w5.drew
          go_wp2_with (first | (go_at_call 105; refine (ahead_any x l[k] _).mono ?_; rintro e w6 ⟨rfl, hb4⟩; rw [HP.out]; have hb6 : Below wr.heap.size wr w6 := hb5.trans (((bdrewN (Below.refl _ w5) 1).trans hb4).mono hb5.size)) | (at_builtin; (have _t3 := hown9); go_loud (refine wpList_push _ rfl _ _ 74 rfl wr.heap.size 73 i0 zeroBal 4 48 Tryz.underlying74 hi0 hz0 hz1 hz2 rfl (by decide) balEnc_ok _ (([] ++ l.take k) ++ [x]) rfl hown9 _ (n - k) (cap - k) (l.drop k) rfl ((har.below hb9).drop k hk) (by intro h; cases h) (by first | (unfold maxLen; omega) | simp [maxLen]) (by first | omega | simp) (by have := hb9.size; omega) ?_); intro v10 w10 hown10 hg10 hat10; have hb10 := hb9.grown hg10 (by have := hb9.size; omega) (fun k e => (hown9.block k e).1)) | (at_builtin; (have _t2 := tok2); (have _t5 := hown8); go_loud (refine wpList_push _ rfl _ _ 74 rfl wr.heap.size 73 i0 zeroBal 4 48 Tryz.underlying74 hi0 hz0 hz1 hz2 rfl (by decide) balEnc_ok _ ([] ++ l.take k) rfl (hown8.alloc _) _ 1 1 [x] rfl (Rd.boxedAt _ balEnc_ok x _ _ rfl _ (by simp)) (by intro h; cases h) (by first | (unfold maxLen; omega) | simp [maxLen]) (by first | omega | simp) (by have := hb8.size; simp; omega) ?_); clear tok2; intro v9 w9 hown9 hg9 hat9; have hb9 := (hb8.alloc hb8.size _).grown hg9 (by have := hb8.size; simp; omega) (fun k e => (hown8.block k e).1)) | (at_builtin; (have _t1 := tok1); go_loud (refine wpList_push _ rfl _ _ 74 rfl wr.heap.size 73 i0 zeroBal 4 48 Tryz.underlying74 hi0 hz0 hz1 hz2 rfl (by decide) balEnc_ok _ ([] : List Bal) rfl (Own.nil _ _ _ _ _) _ k cap (l.take k) rfl ((har.below hb6).take hk) (by intro h; cases h) (by first | (simp only [maxLen, List.length_nil]; omega) | simp [maxLen]) (by first | (simp only [List.length_nil]; omega) | simp) (by have := hb6.size; omega) ?_); clear tok1; intro v8 w8 hown8 hg8 hat8; have hb8 := hb6.grown hg8 hb6.size (fun k e => by cases e); have z0 := below_cell hb8 hwx y0; have z1 := below_cell hb8 hwx y1; have z2 := below_cell hb8 hwx y2; have z3 := below_cell hb8 hwx y3))
          go_ret
          exact ⟨_, rfl, by rw [HX.out]; rw [List.nil_append] at hown10; exact Own.wider hown10 (by have := hbx.size; omega), hbw.trans (hb10.mono hbw.size)⟩
    · obtain rfl : k = n := by omega
      have HX := hide (put_end HA.out Hn.out.symm)
      have hd : decide ((k : Int) < (k : Int)) = false := by simp
      have k0 : (0 : Int) ≤ (k : Int) := by omega
      have hku : (k : Int) ≤ (cap : Int) := by omega
      have hL5 : (([] : List Bal) ++ l.take k).length ≤ 1000 := by simp; omega
      have hL6 : ((([] : List Bal) ++ l.take k) ++ [x]).length ≤ 1001 := by simp; omega
      rcases hA with ⟨rfl, rfl⟩ | ⟨b, off, rfl⟩
      · obtain rfl : k = 0 := by omega
        go_wp2_with fail
        go_quiet (fail)
        go_wp2_with (first | (at_builtin; (have _t0 := tok0); go_loud (refine wpList_push _ rfl _ _ 74 rfl wr.heap.size 73 i0 zeroBal 4 48 Tryz.underlying74 hi0 hz0 hz1 hz2 rfl (by decide) balEnc_ok _ ([] : List Bal) rfl (Own.nil _ _ _ _ _) _ 0 0 l rfl (har.below (bdrewN (Below.refl _ wr) _)) (by intro h; rfl) (by first | (simp only [maxLen, List.length_nil]; omega) | simp [maxLen]) (by first | (simp only [List.length_nil]; omega) | simp) (by simp) ?_); clear tok0; intro v5 w5 hown5 hg5 hat5; have hb5 : Below wr.heap.size wr w5 := (bdrewN (Below.refl _ wr) _).grown hg5 (Nat.le_refl _) (fun k e => by cases e); clear hown5 hat5 hg5))
        go_quiet (fail)
        have hb6 := bdrewN hb5 nq
        go_wp2_with (first | (at_builtin; (have _t3 := hown9); go_loud (refine wpList_push _ rfl _ _ 74 rfl wr.heap.size 73 i0 zeroBal 4 48 Tryz.underlying74 hi0 hz0 hz1 hz2 rfl (by decide) balEnc_ok _ (([] ++ l.take 0) ++ [x]) rfl hown9 _ 0 0 (l.drop 0) rfl ⟨by rw [List.length_drop, Hn.out] <;> omega, fun h => by omega⟩ (by intro h; first | rfl | cases h) (by first | (unfold maxLen; omega) | simp [maxLen]) (by first | omega | simp) (by have := hb9.size; omega) ?_); intro v10 w10 hown10 hg10 hat10; have hb10 := hb9.grown hg10 (by have := hb9.size; omega) (fun k e => (hown9.block k e).1)) | (at_builtin; (have _t2 := tok2); (have _t5 := hown8); go_loud (refine wpList_push _ rfl _ _ 74 rfl wr.heap.size 73 i0 zeroBal 4 48 Tryz.underlying74 hi0 hz0 hz1 hz2 rfl (by decide) balEnc_ok _ ([] ++ l.take 0) rfl (hown8.alloc _) _ 1 1 [x] rfl (Rd.boxedAt _ balEnc_ok x _ _ rfl _ (by simp)) (by intro h; cases h) (by first | (unfold maxLen; omega) | simp [maxLen]) (by first | omega | simp) (by have := hb8.size; simp; omega) ?_); clear tok2; intro v9 w9 hown9 hg9 hat9; have hb9 := (hb8.alloc hb8.size _).grown hg9 (by have := hb8.size; simp; omega) (fun k e => (hown8.block k e).1)) | (at_builtin; (have _t1 := tok1); go_loud (refine wpList_push _ rfl _ _ 74 rfl wr.heap.size 73 i0 zeroBal 4 48 Tryz.underlying74 hi0 hz0 hz1 hz2 rfl (by decide) balEnc_ok _ ([] : List Bal) rfl (Own.nil _ _ _ _ _) _ 0 0 (l.take 0) rfl ((har.below hb6).take (Nat.le_refl _)) (by intro h; rfl) (by first | (simp only [maxLen, List.length_nil]; omega) | simp [maxLen]) (by first | (simp only [List.length_nil]; omega) | simp) (by have := hb6.size; omega) ?_); clear tok1; intro v8 w8 hown8 hg8 hat8; have hb8 := hb6.grown hg8 hb6.size (fun k e => by cases e); have z0 := below_cell hb8 hwx y0; have z1 := below_cell hb8 hwx y1; have z2 := below_cell hb8 hwx y2; have z3 := below_cell hb8 hwx y3))
        go_ret
        exact ⟨_, rfl, by rw [HX.out]; rw [List.nil_append] at hown10; exact Own.wider hown10 (by have := hbx.size; omega), hbw.trans (hb10.mono hbw.size)⟩
      · by_cases hkc : cap = k
        · subst hkc
          go_wp2_with fail
          go_quiet (fail)
          go_wp2_with (first | (at_builtin; (have _t0 := tok0); go_loud (refine wpList_push _ rfl _ _ 74 rfl wr.heap.size 73 i0 zeroBal 4 48 Tryz.underlying74 hi0 hz0 hz1 hz2 rfl (by decide) balEnc_ok _ ([] : List Bal) rfl (Own.nil _ _ _ _ _) _ cap cap l rfl (har.below (bdrewN (Below.refl _ wr) _)) (by intro h; cases h) (by first | (simp only [maxLen, List.length_nil]; omega) | simp [maxLen]) (by first | (simp only [List.length_nil]; omega) | simp) (by simp) ?_); clear tok0; intro v5 w5 hown5 hg5 hat5; have hb5 : Below wr.heap.size wr w5 := (bdrewN (Below.refl _ wr) _).grown hg5 (Nat.le_refl _) (fun k e => by cases e); clear hown5 hat5 hg5))
          go_quiet (fail)
          have hb6 := bdrewN hb5 nq
          go_wp2_with (first | (at_builtin; (have _t3 := hown9); go_loud (refine wpList_push _ rfl _ _ 74 rfl wr.heap.size 73 i0 zeroBal 4 48 Tryz.underlying74 hi0 hz0 hz1 hz2 rfl (by decide) balEnc_ok _ (([] ++ l.take cap) ++ [x]) rfl hown9 _ 0 0 (l.drop cap) rfl ⟨by rw [List.length_drop, Hn.out] <;> omega, fun h => by omega⟩ (by intro h; first | rfl | cases h) (by first | (unfold maxLen; omega) | simp [maxLen]) (by first | omega | simp) (by have := hb9.size; omega) ?_); intro v10 w10 hown10 hg10 hat10; have hb10 := hb9.grown hg10 (by have := hb9.size; omega) (fun k e => (hown9.block k e).1)) | (at_builtin; (have _t2 := tok2); (have _t5 := hown8); go_loud (refine wpList_push _ rfl _ _ 74 rfl wr.heap.size 73 i0 zeroBal 4 48 Tryz.underlying74 hi0 hz0 hz1 hz2 rfl (by decide) balEnc_ok _ ([] ++ l.take cap) rfl (hown8.alloc _) _ 1 1 [x] rfl (Rd.boxedAt _ balEnc_ok x _ _ rfl _ (by simp)) (by intro h; cases h) (by first | (unfold maxLen; omega) | simp [maxLen]) (by first | omega | simp) (by have := hb8.size; simp; omega) ?_); clear tok2; intro v9 w9 hown9 hg9 hat9; have hb9 := (hb8.alloc hb8.size _).grown hg9 (by have := hb8.size; simp; omega) (fun k e => (hown8.block k e).1)) | (at_builtin; (have _t1 := tok1); go_loud (refine wpList_push _ rfl _ _ 74 rfl wr.heap.size 73 i0 zeroBal 4 48 Tryz.underlying74 hi0 hz0 hz1 hz2 rfl (by decide) balEnc_ok _ ([] : List Bal) rfl (Own.nil _ _ _ _ _) _ cap cap (l.take cap) rfl ((har.below hb6).take (Nat.le_refl _)) (by intro h; cases h) (by first | (simp only [maxLen, List.length_nil]; omega) | simp [maxLen]) (by first | (simp only [List.length_nil]; omega) | simp) (by have := hb6.size; omega) ?_); clear tok1; intro v8 w8 hown8 hg8 hat8; have hb8 := hb6.grown hg8 hb6.size (fun k e => by cases e); have z0 := below_cell hb8 hwx y0; have z1 := below_cell hb8 hwx y1; have z2 := below_cell hb8 hwx y2; have z3 := below_cell hb8 hwx y3))
          go_ret
          exact ⟨_, rfl, by rw [HX.out]; rw [List.nil_append] at hown10; exact Own.wider hown10 (by have := hbx.size; omega), hbw.trans (hb10.mono hbw.size)⟩
        · skip
          go_wp2_with fail
          go_quiet (fail)
          go_wp2_with (first | (at_builtin; (have _t0 := tok0); go_loud (refine wpList_push _ rfl _ _ 74 rfl wr.heap.size 73 i0 zeroBal 4 48 Tryz.underlying74 hi0 hz0 hz1 hz2 rfl (by decide) balEnc_ok _ ([] : List Bal) rfl (Own.nil _ _ _ _ _) _ k cap l rfl (har.below (bdrewN (Below.refl _ wr) _)) (by intro h; cases h) (by first | (simp only [maxLen, List.length_nil]; omega) | simp [maxLen]) (by first | (simp only [List.length_nil]; omega) | simp) (by simp) ?_); clear tok0; intro v5 w5 hown5 hg5 hat5; have hb5 : Below wr.heap.size wr w5 := (bdrewN (Below.refl _ wr) _).grown hg5 (Nat.le_refl _) (fun k e => by cases e); clear hown5 hat5 hg5))
          go_quiet (fail)
          have hb6 := bdrewN hb5 nq
          go_wp2_with (first | (at_builtin; (have _t3 := hown9); go_loud (refine wpList_push _ rfl _ _ 74 rfl wr.heap.size 73 i0 zeroBal 4 48 Tryz.underlying74 hi0 hz0 hz1 hz2 rfl (by decide) balEnc_ok _ (([] ++ l.take k) ++ [x]) rfl hown9 _ 0 (cap - k) (l.drop k) rfl ⟨by rw [List.length_drop, Hn.out] <;> omega, fun h => by omega⟩ (by intro h; first | rfl | cases h) (by first | (unfold maxLen; omega) | simp [maxLen]) (by first | omega | simp) (by have := hb9.size; omega) ?_); intro v10 w10 hown10 hg10 hat10; have hb10 := hb9.grown hg10 (by have := hb9.size; omega) (fun k e => (hown9.block k e).1)) | (at_builtin; (have _t2 := tok2); (have _t5 := hown8); go_loud (refine wpList_push _ rfl _ _ 74 rfl wr.heap.size 73 i0 zeroBal 4 48 Tryz.underlying74 hi0 hz0 hz1 hz2 rfl (by decide) balEnc_ok _ ([] ++ l.take k) rfl (hown8.alloc _) _ 1 1 [x] rfl (Rd.boxedAt _ balEnc_ok x _ _ rfl _ (by simp)) (by intro h; cases h) (by first | (unfold maxLen; omega) | simp [maxLen]) (by first | omega | simp) (by have := hb8.size; simp; omega) ?_); clear tok2; intro v9 w9 hown9 hg9 hat9; have hb9 := (hb8.alloc hb8.size _).grown hg9 (by have := hb8.size; simp; omega) (fun k e => (hown8.block k e).1)) | (at_builtin; (have _t1 := tok1); go_loud (refine wpList_push _ rfl _ _ 74 rfl wr.heap.size 73 i0 zeroBal 4 48 Tryz.underlying74 hi0 hz0 hz1 hz2 rfl (by decide) balEnc_ok _ ([] : List Bal) rfl (Own.nil _ _ _ _ _) _ k cap (l.take k) rfl ((har.below hb6).take (Nat.le_refl _)) (by intro h; cases h) (by first | (simp only [maxLen, List.length_nil]; omega) | simp [maxLen]) (by first | (simp only [List.length_nil]; omega) | simp) (by have := hb6.size; omega) ?_); clear tok1; intro v8 w8 hown8 hg8 hat8; have hb8 := hb6.grown hg8 hb6.size (fun k e => by cases e); have z0 := below_cell hb8 hwx y0; have z1 := below_cell hb8 hwx y1; have z2 := below_cell hb8 hwx y2; have z3 := below_cell hb8 hwx y3))
          go_ret
          exact ⟨_, rfl, by rw [HX.out]; rw [List.nil_append] at hown10; exact Own.wider hown10 (by have := hbx.size; omega), hbw.trans (hb10.mono hbw.size)⟩
end Go.Proofs.YthmjkhlndphldaaGreatDoor

namespace Go.Proofs.YthmjkhlndphldaaGreatDoor
open Go Go.RowKit
set_option linter.unusedVariables false

/-- what is merged so far, none too far -/
def mayTo (l : List Bal) (k : Nat) : Prop := ∀ (j : Nat) (hj : j < l.length), j < k → mayB l[j].amt = true
theorem mayTo.zero (l : List Bal) : mayTo l 0 := fun _ _ h => absurd h (by omega)
theorem mayTo.succ {l : List Bal} {k : Nat} (h : mayTo l k) (hk : k < l.length) (hc : mayB l[k].amt = true) : mayTo l (k + 1) := by
  intro j hj hjk
  by_cases e : j = k
  · subst e; exact hc
  · exact h j hj (by omega)
theorem mayTo.all {l : List Bal} {k : Nat} (h : mayTo l k) (hk : l.length ≤ k) : l.all (fun x => mayB x.amt) = true := by
  rw [List.all_eq_true]
  intro x hx
  obtain ⟨j, hj, rfl⟩ := List.getElem_of_mem hx
  exact h j hj (by omega)
theorem all_no {l : List Bal} {k : Nat} (hk : k < l.length) (hc : mayB l[k].amt = false) : l.all (fun x => mayB x.amt) = false := by
  cases h : l.all (fun x => mayB x.amt) with
  | false => rfl
  | true => have := List.all_eq_true.1 h _ (List.getElem_mem hk); rw [hc] at this; cases this
theorem Own.addrOr {α : Type} {w : World} {B e sz n c : Nat} {A : Option Addr} {enc : α → List Value} {l : List α} (h : Own w B e sz enc (.slice A n c) l) : (A = none ∧ c = 0) ∨ ∃ b off, A = some ⟨b, off, none⟩ := by
  rcases h.2 with ⟨hv, _⟩ | ⟨g', c', cur, hv, _⟩
  · injection hv with e1 e2 e3; exact .inl ⟨e1, e3⟩
  · injection hv with e1; exact .inr ⟨g', 0, e1⟩

set_option maxHeartbeats 4000000 in
set_option maxRecDepth 100000 in
theorem refMerge_any (a b : List Bal) (A BA : Option Addr) (an ac bn bc : Nat) (w : World) (hl : an ≤ 9223372036854775807) (ha : Rd w 4 balEnc A an a) (hbl : bn ≤ 9223372036854775807) (hb : Rd w 4 balEnc BA bn b) (hA : A = none → ac = 0) :
    Calls Tryz.prog 50 #[.slice A an ac, .slice BA bn bc] w fun e w' =>
      ∃ v, e = .returned (.tuple #[v, .int .i64 (mergeE a b)]) ∧ Own w' w.heap.size 73 4 balEnc v (if mergeE a b = 0 then netB (a ++ b) else []) ∧ Below w.heap.size w w' := by
  obtain ⟨i0, hi0, hz0, hz1, hz2⟩ := info_parts bal_info
  have Hna := hide ha.1
  have Hnb := hide hb.1
  obtain ⟨me, hme⟩ : ∃ me, me = mergeE a b := ⟨_, rfl⟩
  rw [← hme]
  generalize hLL : (if me = 0 then netB (a ++ b) else []) = LL
  have HME := hide hme
  have HLL := hide hLL
  clear hme hLL
  by_cases h1 : balsE a = 0
  · by_cases h2 : balsE b = 0
    · have H1 := hide h1
      have H2 := hide h2
      have hna : an ≤ 200 := by have := (balsE_0 h1).1; have := Hna.out; omega
      have hnb : bn ≤ 200 := by have := (balsE_0 h2).1; have := Hnb.out; omega
      clear h1 h2
      go_enter Tryz.func50, Tryz.ntmps50
      go_wp2_with fail
      refine (refLCheck_any a _ _ _ _ hl ha).mono ?_
      rintro e w1 ⟨rfl, hb1⟩
      rw [H1.out]
      go_wp2_with fail
      refine (refLCheck_any b _ _ _ _ hbl (hb.below hb1)).mono ?_
      rintro e w2 ⟨rfl, hb2⟩
      rw [H2.out]
      have hb2 := bthen hb1 (Nat.le_refl _) hb2
      go_wp2_with (first | (at_builtin; go_loud (refine wpList_push _ rfl _ _ 74 rfl w.heap.size 73 i0 zeroBal 4 48 Tryz.underlying74 hi0 hz0 hz1 hz2 rfl (by decide) balEnc_ok _ ([] : List Bal) rfl (Own.nil _ _ _ _ _) _ an ac a rfl (ha.below hb2) hA (by simp only [maxLen, List.length_nil]; omega) (by simp only [List.length_nil]; omega) hb2.size ?_); intro v3 w3 hown3 hg3 hat3; rw [List.nil_append] at hown3; have hb3 := hb2.grown hg3 hb2.size (fun k e => by cases e)))
      clear hg3 hat3
      go_loopw [7, 8] (fun ov iv wr => ∃ k : Nat, k ≤ bn ∧ iv = .int .i64 k ∧ Own wr w.heap.size 73 4 balEnc ov (mergeTo a b k) ∧ Below w.heap.size w wr) (fun _ iv _ => bn - (intOf iv).toNat)
      case atStart => exact ⟨0, by omega, rfl, hown3, hb3⟩
      case round =>
        clear hown3 hb3
        obtain ⟨k, hk, rfl, hown, hbr⟩ := hrel
        obtain ⟨UA, uc, rfl, huc, hum⟩ := hown.form
        have hml := mergeTo_len a b k
        have hml4 : (mergeTo a b k).length ≤ 400 := by have := Hna.out; omega
        have hUA := hown.addrOr
        have hrd := hown.rd balEnc_ok
        by_cases hlt : k < bn
        · have hkl : k < b.length := by have := Hnb.out; omega
          obtain ⟨bb, off, rfl, hcs⟩ := (Rd.below hb hbr).2 (by omega)
          have q0 := hcs k 0 _ hkl rfl
          have q1 := hcs k 1 _ hkl rfl
          have q2 := hcs k 2 _ hkl rfl
          have q3 := hcs k 3 _ hkl rfl
          rw [Nat.add_zero] at q0
          clear hcs
          have k0 : (0 : Int) ≤ (k : Int) := by omega
          have k1 : (k : Int) < (bn : Int) := by omega
          have HS := hide (mergeTo_succ (a := a) hkl)
          have hf := merge_fits H1.out H2.out hkl
          clear hml
          generalize mergeTo a b k = o at hown huc hml4 hrd hUA HS hf ⊢
          generalize b[k] = x at q0 q1 q2 q3 HS hf
          go_wp2_with fail
          refine (refPut_any o x _ _ _ _ (by omega) huc hum hrd hUA hf).mono ?_
          rintro e w4 ⟨v4, rfl, hown4, hb4⟩
          go_wp2_with fail
          go_roundw
          case rel => exact ⟨k + 1, by omega, by go_num, by rw [HS.out]; exact Own.wider hown4 hbr.size, bthen hbr (Nat.le_refl _) hb4⟩
          case measure => simp [intOf]; omega
        · have HC := hide (mergeTo_all (b := b) (k := k) (bals_sort H1.out) (by have := Hnb.out; omega))
          rw [HC.out] at hown huc hml4 hrd ⊢
          by_cases h200 : 200 < (canonB (a ++ b)).length
          · have h200i : (200 : Int) < ((canonB (a ++ b)).length : Int) := by omega
            have HE := hide (mergeE_3 H1.out H2.out h200)
            clear h200
            go_wp2_with fail
            go_ret2
            exact ⟨_, by rw [HME.out, HE.out]; rfl, by rw [← HLL.out, if_neg (by rw [HME.out, HE.out]; decide)]; exact Own.nil _ _ _ _ _, hbr⟩
          · have h200i : ¬ (200 : Int) < ((canonB (a ++ b)).length : Int) := by omega
            have H200 := hide h200
            clear h200
            go_wp2_with fail
            refine (refFull_any (canonB (a ++ b)) _ _ _ _ (by omega) hrd).mono ?_
            rintro e w4 ⟨v4, rfl, hown4, hb4⟩
            have hb4 := bthen hbr (Nat.le_refl _) hb4
            have hown4 := Own.wider hown4 hbr.size
            have hfl := fullB_len (canonB (a ++ b))
            have HN : Hid (fullB (canonB (a ++ b)) = netB (a ++ b)) := rfl
            rw [HN.out] at hown4 hfl
            clear hown hrd huc hUA
            obtain ⟨VA, vc, rfl, hvc, hvm⟩ := hown4.form
            have hrd4 := hown4.rd balEnc_ok
            generalize hNB : netB (a ++ b) = nb at hown4 hfl hvc hrd4 ⊢
            have HNB := hide hNB
            clear hNB
            go_wp2_with fail
            go_loopw [9] (fun iv wi => ∃ j : Nat, j ≤ nb.length ∧ iv = .int .i64 j ∧ mayTo nb j ∧ Below w4.heap.size w4 wi) (fun iv _ => nb.length - (intOf iv).toNat)
            case atStart => exact ⟨0, by omega, rfl, mayTo.zero _, Below.refl _ _⟩
            case round =>
              obtain ⟨j, hj, rfl, hmt, hbi⟩ := hrel
              have HM := hide hmt
              clear hmt
              by_cases hjl : j < nb.length
              · obtain ⟨g, off, rfl, hcs⟩ := (hrd4.below hbi).2 (by omega)
                have q3 := hcs j 3 _ hjl rfl
                clear hcs
                have j0 : (0 : Int) ≤ (j : Int) := by omega
                have j1 : (j : Int) < (nb.length : Int) := by omega
                by_cases hm1 : nb[j].amt < -1000000000000000000
                · have HE := hide (mergeE_4 H1.out H2.out H200.out (by rw [HNB.out]; exact all_no hjl (may_low hm1)))
                  go_wp2_with fail
                  go_ret2
                  exact ⟨_, by rw [HME.out, HE.out]; rfl, by rw [← HLL.out, if_neg (by rw [HME.out, HE.out]; decide)]; exact Own.nil _ _ _ _ _, hb4.trans (hbi.mono hb4.size)⟩
                · have hm1d : decide (nb[j].amt < -1000000000000000000) = false := by simpa using hm1
                  by_cases hm2 : 1000000000000000000 < nb[j].amt
                  · have HE := hide (mergeE_4 H1.out H2.out H200.out (by rw [HNB.out]; exact all_no hjl (may_high hm2)))
                    go_wp2_with fail
                    go_ret2
                    exact ⟨_, by rw [HME.out, HE.out]; rfl, by rw [← HLL.out, if_neg (by rw [HME.out, HE.out]; decide)]; exact Own.nil _ _ _ _ _, hb4.trans (hbi.mono hb4.size)⟩
                  · have hm2d : decide (1000000000000000000 < nb[j].amt) = false := by simpa using hm2
                    have HX := hide (HM.out.succ hjl (may_mid hm1 hm2))
                    go_wp2_with fail
                    go_roundw
                    case rel => exact ⟨j + 1, by omega, by go_num, HX.out, hbi⟩
                    case measure => simp [intOf]; omega
              · have HE := hide (mergeE_5 H1.out H2.out H200.out (by rw [HNB.out]; exact HM.out.all (by omega)))
                go_wp2_with fail
                go_ret2
                exact ⟨_, by rw [HME.out, HE.out]; rfl, by rw [← HLL.out, if_pos (by rw [HME.out, HE.out]), HNB.out]; exact hown4.below hbi, hb4.trans (hbi.mono hb4.size)⟩
    · have H1 := hide h1
      have HE := hide (mergeE_2 h1 h2)
      obtain ⟨be, hbe⟩ : ∃ be, be = balsE b := ⟨_, rfl⟩
      have HB := hide hbe
      have h0 : (be == 0) = false := by rw [hbe, beq_eq_false_iff_ne]; exact h2
      have h0' : (be != 0) = true := by rw [hbe, bne_iff_ne]; exact h2
      have HN := hide h2
      clear h1 h2 hbe
      go_enter Tryz.func50, Tryz.ntmps50
      go_wp2_with fail
      refine (refLCheck_any a _ _ _ _ hl ha).mono ?_
      rintro e w1 ⟨rfl, hb1⟩
      rw [H1.out]
      go_wp2_with fail
      refine (refLCheck_any b _ _ _ _ hbl (hb.below hb1)).mono ?_
      rintro e w2 ⟨rfl, hb2⟩
      rw [← HB.out]
      have hb2 := bthen hb1 (Nat.le_refl _) hb2
      go_wp2_with fail
      go_ret2
      exact ⟨_, by rw [HME.out, HE.out, ← HB.out]; rfl, by rw [← HLL.out, if_neg (by rw [HME.out, HE.out]; exact HN.out)]; exact Own.nil _ _ _ _ _, hb2⟩
  · have HE := hide (mergeE_1 (b := b) h1)
    obtain ⟨be, hbe⟩ : ∃ be, be = balsE a := ⟨_, rfl⟩
    have HB := hide hbe
    have h0 : (be == 0) = false := by rw [hbe, beq_eq_false_iff_ne]; exact h1
    have h0' : (be != 0) = true := by rw [hbe, bne_iff_ne]; exact h1
    have HN := hide h1
    clear h1 hbe
    go_enter Tryz.func50, Tryz.ntmps50
    go_wp2_with fail
    refine (refLCheck_any a _ _ _ _ hl ha).mono ?_
    rintro e w1 ⟨rfl, hb1⟩
    rw [← HB.out]
    go_wp2_with fail
    go_ret2
    exact ⟨_, by rw [HME.out, HE.out, ← HB.out]; rfl, by rw [← HLL.out, if_neg (by rw [HME.out, HE.out]; exact HN.out)]; exact Own.nil _ _ _ _ _, hb1⟩
end Go.Proofs.YthmjkhlndphldaaGreatDoor

namespace Go.Proofs.YthmjkhlndphldaaGreatDoor
open Go Go.RowKit
set_option linter.unusedVariables false

set_option maxRecDepth 100000 in
theorem growB_nil (n : Nat) (hn : n ≤ 2000) (w : World) :
    Calls Tryz.prog 147 #[.slice none 0 0, .int .i64 n] w fun e w' => ∃ v, e = .returned v ∧ Own w' w.heap.size 73 4 balEnc v ([] : List Bal) ∧ Below w.heap.size w w' := by
  obtain ⟨i0, hi0, hz0, hz1, hz2⟩ := info_parts bal_info
  rcases Nat.eq_zero_or_pos n with rfl | hp
  · go_enter Tryz.func147, Tryz.ntmps147
    go_wp2_with fail
    go_ret
    exact ⟨_, rfl, Own.nil _ _ _ _ _, Below.refl _ _⟩
  · have h1 : ¬ ((n : Int) < 0) := by omega
    have h4 : (0 : Int) < (n : Int) := by omega
    have hw : IntKind.i64.wrap (n : Int) = (n : Int) := IntWalk.i64_in _ (by omega)
    have hrz : ∀ ty, (Builtin.append_ #[74, 3] ty #[.slice none 0 0, .int .i64 (n : Int)]).run Tryz.prog w =
        .ok (.slice (some ⟨w.heap.size, 0, none⟩) n (grownCap w n 0 73)) (w.drew.alloc (.cells (#[] ++ Builtin.zeroCells zeroBal.cells n ++ Builtin.zeroCells zeroBal.cells (grownCap w n 0 73 - n)) 73)) := fun ty => by
      have h := Lib.run_append_grow_zeros w 74 3 ty 73 i0 zeroBal .i64 .i64 Tryz.underlying74 Tryz.underlying3 hi0 hz0 none 0 0 [] (run_firstCells_none w.drew i0.size 0 0 0) n hp (by omega) (by omega) (by omega) (by rw [hz2]; omega)
        (by rw [hz2]; exact growslice_fits (by omega) (by omega))
      simpa using h
    have hG := grownCap_ge w n 0 73
    have hGm := grownCap_le_maxLen w n 0 73 (by unfold maxLen; omega)
    generalize grownCap w n 0 73 = G at hrz hG hGm
    have hG63 : G ≤ 9223372036854775807 := hGm
    have hown : Own (w.drew.alloc (.cells (#[] ++ Builtin.zeroCells zeroBal.cells n ++ Builtin.zeroCells zeroBal.cells (G - n)) 73)) w.heap.size 73 4 balEnc (.slice (some ⟨w.heap.size, 0, none⟩) 0 G) ([] : List Bal) := by
      refine ⟨rfl, .inr ⟨w.heap.size, G, #[] ++ Builtin.zeroCells zeroBal.cells n ++ Builtin.zeroCells zeroBal.cells (G - n), rfl, Nat.le_refl _, ?_, Nat.zero_le _, hGm, ?_, by simp⟩⟩
      · exact (MapKept.heap_alloc w.drew _).1
      · have hz : zeroBal.cells.size = 4 := rfl
        simp only [Array.size_append, size_zeroCells, hz, Array.size_empty]
        omega
    have hbel : Below w.heap.size w (w.drew.alloc (.cells (#[] ++ Builtin.zeroCells zeroBal.cells n ++ Builtin.zeroCells zeroBal.cells (G - n)) 73)) := (bdrewN (Below.refl _ w) 1).alloc (Nat.le_refl _) _
    generalize w.drew.alloc (.cells (#[] ++ Builtin.zeroCells zeroBal.cells n ++ Builtin.zeroCells zeroBal.cells (G - n)) 73) = W1 at hrz hown hbel
    go_enter Tryz.func147, Tryz.ntmps147
    go_wp2_with (first | (at_builtin; go_loud (refine Lib.wpList_append_run _ rfl _ _ _ _ rfl _ _ rfl rfl _ _ (hrz _) ?_)))
    go_ret
    exact ⟨_, rfl, hown, hbel⟩

set_option maxHeartbeats 1000000 in
set_option maxRecDepth 100000 in
theorem concat_any (a b : List Bal) (g an ac bn bc : Nat) (A BA : Option Addr) (w : World) (h0 : w.cell? ⟨g, 0, none⟩ = some (.slice A an ac)) (h1 : w.cell? ⟨g, 1, none⟩ = some (.slice BA bn bc)) (han : an ≤ 1000) (hbn : bn ≤ 1000)
    (ha : Rd w 4 balEnc A an a) (hb : Rd w 4 balEnc BA bn b) (hA : A = none → ac = 0) (hB : BA = none → bc = 0) :
    Calls Tryz.prog 106 #[.slice (some ⟨g, 0, none⟩) 2 2] w fun e w' => ∃ v, e = .returned v ∧ Own w' w.heap.size 73 4 balEnc v (a ++ b) ∧ Below w.heap.size w w' := by
  obtain ⟨i0, hi0, hz0, hz1, hz2⟩ := info_parts bal_info
  have hgl : g < w.heap.size := World.block_lt_of_cell? _ _ h0
  have hw1 : IntKind.i64.wrap (an : Int) = (an : Int) := IntWalk.i64_in _ (by omega)
  have hw2 : IntKind.i64.wrap ((an : Int) + (bn : Int)) = (an : Int) + (bn : Int) := IntWalk.i64_in _ (by omega)
  have hn1 : ¬ ((an : Int) < 0) := by omega
  have hn2 : ¬ ((an : Int) + (bn : Int) < 0) := by omega
  have Ha := hide ha.1
  have Hb := hide hb.1
  have hGr := fun W => growB_nil (an + bn) (by omega) W
  rw [Int.natCast_add] at hGr
  go_enter Tryz.func106, Tryz.ntmps106
  go_wp2_with fail
  refine wp_loop_rounds 3 ?_
  rw [rounds_succ]
  go_wp2_with fail
  rw [rounds_succ]
  go_wp2_with fail
  rw [rounds_succ]
  go_wp2_with fail
  refine (hGr w).mono ?_
  rintro e w1 ⟨v1, rfl, hown1, hb1⟩
  have d0 := below_cell hb1 hgl h0
  have d1 := below_cell hb1 hgl h1
  have hgl1 : g < w1.heap.size := Nat.lt_of_lt_of_le hgl hb1.size
  have tok1 : True := trivial
  have hA := hide hA
  have hB := hide hB
  go_wp2_with fail
  refine wp_loop_rounds 3 ?_
  rw [rounds_succ]
  go_wp2_with (first | (at_builtin; (have _t := tok1); go_loud (refine wpList_push _ rfl _ _ 74 rfl w.heap.size 73 i0 zeroBal 4 48 Tryz.underlying74 hi0 hz0 hz1 hz2 rfl (by decide) balEnc_ok _ ([] : List Bal) rfl hown1 _ an ac a rfl (ha.below hb1) hA.out (by simp only [maxLen, List.length_nil]; omega) (by simp only [List.length_nil]; omega) hb1.size ?_); clear tok1; intro v2 w2 hown2 hg2 hat2; rw [List.nil_append] at hown2; have hb2 := hb1.grown hg2 hb1.size (fun k e => (hown1.block k e).1); have f1 := below_cell hb2 hgl h1; clear hown1))
  have hlen : a.length = an := Ha.out
  rw [rounds_succ]
  go_wp2_with (first | (at_builtin; go_loud (refine wpList_push _ rfl _ _ 74 rfl w.heap.size 73 i0 zeroBal 4 48 Tryz.underlying74 hi0 hz0 hz1 hz2 rfl (by decide) balEnc_ok _ a rfl hown2 _ bn bc b rfl (hb.below hb2) hB.out (by simp only [maxLen]; omega) (by omega) hb2.size ?_); intro v3 w3 hown3 hg3 hat3; have hb3 := hb2.grown hg3 hb2.size (fun k e => (hown2.block k e).1)))
  rw [rounds_succ]
  go_wp2_with fail
  go_ret
  exact ⟨_, rfl, hown3, hb3⟩
end Go.Proofs.YthmjkhlndphldaaGreatDoor

namespace Go.Proofs.YthmjkhlndphldaaGreatDoor
open Go Go.RowKit Go.Maps
set_option linter.unusedVariables false

theorem cells_two (w : World) (u v : Value) (t : TypeId) : (w.alloc (.cells #[u, v] t)).cell? ⟨w.heap.size, 0, none⟩ = some u ∧ (w.alloc (.cells #[u, v] t)).cell? ⟨w.heap.size, 1, none⟩ = some v := by
  constructor <;> simp
theorem Rd.grownR {α : Type} {w w' : World} {sz n : Nat} {enc : α → List Value} {A : Option Addr} {l : List α} {row : Option Nat} (h : Rd w sz enc A n l) (hg : w.grownBy w' row) (hne : ∀ b off, A = some ⟨b, off, none⟩ → row ≠ some b) : Rd w' sz enc A n l := by
  refine ⟨h.1, fun hn => ?_⟩
  obtain ⟨b, off, e, hc⟩ := h.2 hn
  exact ⟨b, off, e, fun k j u hk hu => hg.cell (hc k j u hk hu) (fun e2 => hne b off e e2.symm)⟩
theorem grown_drew (w : World) (row : Option Nat) : w.grownBy w.drew row := ⟨rfl, rfl, rfl, Nat.le_refl _, fun i hi _ => rfl⟩
theorem canonB_len (l : List Bal) : (canonB l).length ≤ l.length := by
  have h := mergeTo_len [] l l.length
  unfold mergeTo at h
  rw [List.take_length] at h
  simpa [canonB] using h
theorem any_all (l : List Bal) : l.all (fun x => mayB x.amt) = !(l.any fun x => !mayB x.amt) := by
  induction l with
  | nil => rfl
  | cons x l ih => rw [List.all_cons, List.any_cons, ih]; cases mayB x.amt <;> simp
set_option maxHeartbeats 4000000 in
set_option maxRecDepth 100000 in
theorem merge_any (a b : List Bal) (A BA : Option Addr) (an ac bn bc : Nat) (w : World) (hl : an ≤ 9223372036854775807) (ha : Rd w 4 balEnc A an a) (hbl : bn ≤ 9223372036854775807) (hb : Rd w 4 balEnc BA bn b) (hA : A = none → ac = 0) (hB : BA = none → bc = 0)
    (haf : BalsOk a) (hbf : BalsOk b) :
    Calls Tryz.prog 51 #[.slice A an ac, .slice BA bn bc] w fun e w' =>
      ∃ v, e = .returned (.tuple #[v, errV (mergeE a b)]) ∧ Own w' w.heap.size 73 4 balEnc v (if mergeE a b = 0 then netB (a ++ b) else []) ∧ Below w.heap.size w w' := by
  obtain ⟨i0, hi0, hz0, hz1, hz2⟩ := info_parts bal_info
  have Hna := hide ha.1
  have Hnb := hide hb.1
  obtain ⟨ev, hev⟩ : ∃ ev, ev = errV (mergeE a b) := ⟨_, rfl⟩
  rw [← hev]
  generalize hLL : (if mergeE a b = 0 then netB (a ++ b) else []) = LL
  have HEV := hide hev
  have HLL := hide hLL
  clear hev hLL
  have hmm := @run_makeMap Tryz.prog
  by_cases h1 : balsE a = 0
  · by_cases h2 : balsE b = 0
    · have H1 := hide h1
      have H2 := hide h2
      have hna : an ≤ 200 := by have := (balsE_0 h1).1; have := Hna.out; omega
      have hnb : bn ≤ 200 := by have := (balsE_0 h2).1; have := Hnb.out; omega
      clear h1 h2
      go_enter Tryz.func51, Tryz.ntmps51
      go_wp2_with fail
      refine (lcheck_any a _ _ _ _ hl ha).mono ?_
      rintro e w1 ⟨rfl, hb1⟩
      rw [errV_0 H1.out]
      go_wp2_with fail
      refine (lcheck_any b _ _ _ _ hbl (hb.below hb1)).mono ?_
      rintro e w2 ⟨rfl, hb2⟩
      rw [errV_0 H2.out]
      have hb2 := bthen hb1 (Nat.le_refl _) hb2
      have ha2 := ha.below hb2
      have hbb2 := hb.below hb2
      have hm2 := Sums.made w2
      go_wp2_with fail
      have g0 : ((w2.alloc (.map #[] 0)).alloc (.cells #[.slice A an ac, .slice BA bn bc] 74)).cell? ⟨w2.heap.size + 1, 0, none⟩ = some (.slice A an ac) := by
        have := (cells_two (w2.alloc (.map #[] 0)) (.slice A an ac) (.slice BA bn bc) 74).1
        rwa [show (w2.alloc (.map #[] 0)).heap.size = w2.heap.size + 1 by simp] at this
      have g1 : ((w2.alloc (.map #[] 0)).alloc (.cells #[.slice A an ac, .slice BA bn bc] 74)).cell? ⟨w2.heap.size + 1, 1, none⟩ = some (.slice BA bn bc) := by
        have := (cells_two (w2.alloc (.map #[] 0)) (.slice A an ac) (.slice BA bn bc) 74).2
        rwa [show (w2.alloc (.map #[] 0)).heap.size = w2.heap.size + 1 by simp] at this
      have hbl3 : Below w2.heap.size w2 ((w2.alloc (.map #[] 0)).alloc (.cells #[.slice A an ac, .slice BA bn bc] 74)) := ((Below.refl _ _).alloc (Nat.le_refl _) _).alloc (by simp) _
      have hm3 : Sums ((w2.alloc (.map #[] 0)).alloc (.cells #[.slice A an ac, .slice BA bn bc] 74)) w2.heap.size 0 [] := hm2.kept (World.grownBy_alloc _ _ none) (by simp)
      have hs3 : ((w2.alloc (.map #[] 0)).alloc (.cells #[.slice A an ac, .slice BA bn bc] 74)).heap.size = w2.heap.size + 2 := by simp
      generalize (w2.alloc (.map #[] 0)).alloc (.cells #[.slice A an ac, .slice BA bn bc] 74) = w3 at g0 g1 hbl3 hm3 hs3 ⊢
      refine (concat_any a b _ an ac bn bc A BA w3 g0 g1 (by omega) (by omega) (ha2.below hbl3) (hbb2.below hbl3) hA hB).mono ?_
      rintro e w4 ⟨v4, rfl, hown4, hb4⟩
      have hm4 := hm3.below hb4
      have hb4 := bthen hbl3 (Nat.le_refl _) hb4
      have hs4 := hb4.size
      have hb24 := bthen hb2 (Nat.le_refl _) hb4
      obtain ⟨VA, vc, rfl, hvc, hvm⟩ := hown4.form
      have hrd4 := hown4.rd balEnc_ok
      have hvb : ∀ g off, VA = some ⟨g, off, none⟩ → w3.heap.size ≤ g := fun g off e => by subst e; exact (hown4.block g rfl).1
      have hab : (a ++ b).length ≤ 400 := by rw [List.length_append, Hna.out, Hnb.out]; omega
      have hok : BalsOk (a ++ b) := fun x hx => by
        rcases List.mem_append.1 hx with h | h
        · exact haf x h
        · exact hbf x h
      have hfit := fun (k : Nat) (hk : k < (a ++ b).length) => sums_fit H1.out H2.out hk
      clear hown4 hm2 g0 g1 hm3
      have HAB : Hid ((a ++ b) = (a ++ b)) := rfl
      generalize hc : a ++ b = c at hvc hrd4 hab hok hfit ⊢
      have HC := hide hc
      clear hc
      go_wp2_with fail
      go_loopw [29] (fun iv wr => ∃ k : Nat, k ≤ c.length ∧ iv = .int .i64 k ∧ Sums wr w2.heap.size k (c.take k) ∧ w4.grownBy wr (some w2.heap.size)) (fun iv _ => c.length - (intOf iv).toNat)
      case atStart => exact ⟨0, by omega, rfl, by simpa using hm4, World.grownBy.refl _ _⟩
      case round =>
        clear hm4
        obtain ⟨k, hk, rfl, hS, hgr⟩ := hrel
        have hrdr : Rd wr 4 balEnc VA c.length c := hrd4.grownR hgr (fun b off e => by intro e2; injection e2 with e2; have := (hvb b off e); omega)
        have hsr := hgr.size
        by_cases hlt : k < c.length
        · obtain ⟨bb, off, rfl, hcs⟩ := hrdr.2 (by omega)
          have q0 := hcs k 0 _ hlt rfl
          have q1 := hcs k 1 _ hlt rfl
          have q2 := hcs k 2 _ hlt rfl
          have q3 := hcs k 3 _ hlt rfl
          rw [Nat.add_zero] at q0
          clear hcs
          have k0 : (0 : Int) ≤ (k : Int) := by omega
          have k1 : (k : Int) < (c.length : Int) := by omega
          have HT := hide (List.take_succ_eq_append_getElem hlt)
          have hxf : PlFits c[k].pl := (hok _ (List.getElem_mem hlt)).pl
          have hxs := hfit k hlt
          have hmw : w2.heap.size < wr.heap.size := hS.lt
          generalize c[k] = x at q0 q1 q2 q3 HT hxf hxs
          have x0 : (wr.alloc (.cells #[.int .i64 x.ent, .string x.acc, .string x.cur, .int .i64 x.amt] 73)).cell? ⟨wr.heap.size, 0, none⟩ = some (.int .i64 x.ent) := by simp
          have x1 : (wr.alloc (.cells #[.int .i64 x.ent, .string x.acc, .string x.cur, .int .i64 x.amt] 73)).cell? ⟨wr.heap.size, 1, none⟩ = some (.string x.acc) := by simp
          have x2 : (wr.alloc (.cells #[.int .i64 x.ent, .string x.acc, .string x.cur, .int .i64 x.amt] 73)).cell? ⟨wr.heap.size, 2, none⟩ = some (.string x.cur) := by simp
          have x3 : (wr.alloc (.cells #[.int .i64 x.ent, .string x.acc, .string x.cur, .int .i64 x.amt] 73)).cell? ⟨wr.heap.size, 3, none⟩ = some (.int .i64 x.amt) := by simp
          have hS1 : Sums (wr.alloc (.cells #[.int .i64 x.ent, .string x.acc, .string x.cur, .int .i64 x.amt] 73)).drew w2.heap.size k (c.take k) := hS.kept (row := none) ((World.grownBy_alloc _ _ none).trans (grown_drew _ _)) (by simp)
          have hg1 : w4.grownBy (wr.alloc (.cells #[.int .i64 x.ent, .string x.acc, .string x.cur, .int .i64 x.amt] 73)).drew (some w2.heap.size) := (hgr.trans ((World.grownBy_alloc _ _ none).but _)).trans (grown_drew _ _)
          go_wp2_with fail
          generalize wr.alloc (.cells #[.int .i64 x.ent, .string x.acc, .string x.cur, .int .i64 x.amt] 73) = W1 at x0 x1 x2 x3 hS1 hg1 ⊢
          have hLk := hS1.lookup x.pl hxf
          obtain ⟨cn, hcn⟩ : ∃ cn, cn = totB (c.take k) x.pl + x.amt := ⟨_, rfl⟩
          obtain ⟨v0, st, WE, WF, hE, hL2, hST, hS2, hg2⟩ := hS1.bump (by unfold maxLen; omega) x hxf hcn (by simp [Lit.wf, IntKind.min, IntKind.max, IntKind.signed, IntKind.bits]; omega)
          have hwr : IntKind.i64.wrap (totB (c.take k) x.pl + x.amt) = cn := by rw [← hcn]; exact IntWalk.i64_in _ (by omega)
          generalize totB (c.take k) x.pl = tn at hLk hL2 hwr
          change (Instr.lookup _ _ (.agg #[.int .i64 x.ent, .string x.acc, .string x.cur]) false).run _ _ = _ at hLk
          change (Instr.lookup _ _ (.agg #[.int .i64 x.ent, .string x.acc, .string x.cur]) false).run _ _ = _ at hL2
          change (Instr.mapEntry _ _ (.agg #[.int .i64 x.ent, .string x.acc, .string x.cur])).run _ _ = _ at hE
          have HCN := hide hcn
          clear hcn hfit hok hvc hrd4
          go_region
          go_wp2_with fail
          go_roundw
          case rel => exact ⟨k + 1, by omega, by go_num, by rw [HT.out]; exact hS2, hg1.trans hg2⟩
          case measure => simp [intOf]; omega
        · have hkc : k = c.length := by omega
          subst hkc
          rw [List.take_length] at hS
          have hb4r : Below w2.heap.size w2 wr := hb4.grown hgr hb4.size (fun k e => by injection e with e; omega)
          have hbr : Below w.heap.size w wr := hb2.trans (hb4r.mono hb2.size)
          have hcl := canonB_len c
          clear hrdr hrd4 hfit
          go_wp2_with fail
          refine (list_any c _ _ wr hS (fun x hx => (hok x hx).pl) (by omega)).mono ?_
          rintro e w5 ⟨⟨h200, rfl⟩ | ⟨h200, v5, rfl, hown5⟩, hb5⟩
          · have hb5 := bthen hbr (Nat.le_refl _) hb5
            have HE := hide (mergeE_3 H1.out H2.out (by rw [HC.out]; exact h200))
            clear h200
            go_wp2_with fail
            go_ret2
            exact ⟨_, by rw [HEV.out, HE.out]; rfl, by rw [← HLL.out, if_neg (by rw [HE.out]; decide)]; exact Own.nil _ _ _ _ _, hb5⟩
          · have hb5 := bthen hbr (Nat.le_refl _) hb5
            have H200 := hide h200
            have hown5 := Own.wider hown5 hbr.size
            have hnl : (netB c).length ≤ 9223372036854775807 := by have := fullB_len (canonB c); unfold netB; omega
            obtain ⟨UA, uc, rfl, huc, hum⟩ := hown5.form
            have hrd5 := hown5.rd balEnc_ok
            have HAL := hide (any_all (netB c))
            clear h200
            have eg : ∀ args w, (callFunc 109 args).run Tryz.prog w = .ok (.enter 109 args) w := enters_of Tryz.func109 (by kernel_rfl) rfl
            have hask := hide asks_over
            generalize hNB : netB c = nb at hown5 hnl huc hrd5 HAL ⊢
            have HNB := hide hNB
            clear hNB
            go_wp2_with fail
            refine (containsFunc_bal nb _ _ hask eg _ _ _ _ hnl hrd5).mono ?_
            rintro e w6 ⟨rfl, hb6⟩
            have hown6 := hown5.below hb6
            have hb6 := bthen hb5 (Nat.le_refl _) hb6
            cases han : nb.any (fun x => !mayB x.amt) with
            | true =>
              have HE := hide (mergeE_4 H1.out H2.out (by rw [HC.out]; exact H200.out) (by rw [HC.out, HNB.out, HAL.out, han]; rfl))
              clear han
              go_wp2_with fail
              go_ret2
              exact ⟨_, by rw [HEV.out, HE.out]; rfl, by rw [← HLL.out, if_neg (by rw [HE.out]; decide)]; exact Own.nil _ _ _ _ _, hb6⟩
            | false =>
              have HE := hide (mergeE_5 H1.out H2.out (by rw [HC.out]; exact H200.out) (by rw [HC.out, HNB.out, HAL.out, han]; rfl))
              clear han
              go_wp2_with fail
              go_ret2
              exact ⟨_, by rw [HEV.out, HE.out]; rfl, by rw [← HLL.out, if_pos HE.out, HC.out, HNB.out]; exact hown6, hb6⟩
    · have H1 := hide h1
      have HE := hide (mergeE_2 h1 h2)
      have HN := hide h2
      clear h1 h2
      go_enter Tryz.func51, Tryz.ntmps51
      go_wp2_with fail
      refine (lcheck_any a _ _ _ _ hl ha).mono ?_
      rintro e w1 ⟨rfl, hb1⟩
      rw [errV_0 H1.out]
      go_wp2_with fail
      refine (lcheck_any b _ _ _ _ hbl (hb.below hb1)).mono ?_
      rintro e w2 ⟨rfl, hb2⟩
      rw [errV_n HN.out]
      have hb2 := bthen hb1 (Nat.le_refl _) hb2
      go_wp2_with fail
      go_ret2
      exact ⟨_, by rw [HEV.out, HE.out, errV_n HN.out]; rfl, by rw [← HLL.out, if_neg (by rw [HE.out]; exact HN.out)]; exact Own.nil _ _ _ _ _, hb2⟩
  · have HE := hide (mergeE_1 (b := b) h1)
    have HN := hide h1
    clear h1
    go_enter Tryz.func51, Tryz.ntmps51
    go_wp2_with fail
    refine (lcheck_any a _ _ _ _ hl ha).mono ?_
    rintro e w1 ⟨rfl, hb1⟩
    rw [errV_n HN.out]
    go_wp2_with fail
    go_ret2
    exact ⟨_, by rw [HEV.out, HE.out, errV_n HN.out]; rfl, by rw [← HLL.out, if_neg (by rw [HE.out]; exact HN.out)]; exact Own.nil _ _ _ _ _, hb1⟩
end Go.Proofs.YthmjkhlndphldaaGreatDoor
