/- Balances: put together by place, in order; what of them is not 0. Plain Lean, no program in sight. -/
import Derived.Test.YtggmbjdonlbfkaaGreatDoorBesafterBalP
namespace Go.Proofs.YtggmbjdonlbfkaaGreatDoorBesafter
open Go Go.RowKit
set_option linter.unusedVariables false

/-- entity, account and currency -/
structure Pl where
  ent : Int
  acc : ByteArray
  cur : ByteArray
deriving DecidableEq
def Bal.pl (x : Bal) : Pl := ⟨x.ent, x.acc, x.cur⟩
/-- ahead of it, by entity, by account, then by currency -/
def Pl.lt (x y : Pl) : Bool := if x.ent = y.ent then (if x.acc = y.acc then lessB x.cur y.cur else lessB x.acc y.acc) else decide (x.ent < y.ent)
theorem ahead_pl (x y : Bal) : aheadB x y = Pl.lt x.pl y.pl := rfl
theorem Pl.irrefl (x : Pl) : Pl.lt x x = false := by simp [Pl.lt, lessB_irrefl]
theorem Pl.trans {x y z : Pl} (h : Pl.lt x y = true) (k : Pl.lt y z = true) : Pl.lt x z = true := by
  unfold Pl.lt at *
  by_cases e1 : x.ent = y.ent
  · rw [if_pos e1] at h
    by_cases e2 : y.ent = z.ent
    · rw [if_pos e2] at k
      rw [if_pos (e1.trans e2)]
      by_cases f1 : x.acc = y.acc
      · rw [if_pos f1] at h
        by_cases f2 : y.acc = z.acc
        · rw [if_pos f2] at k
          rw [if_pos (f1.trans f2)]; exact lessB_trans h k
        · rw [if_neg f2] at k
          rw [if_neg (fun e => f2 (f1.symm.trans e)), f1]; exact k
      · rw [if_neg f1] at h
        by_cases f2 : y.acc = z.acc
        · rw [if_neg (fun e => f1 (e.trans f2.symm)), ← f2]; exact h
        · rw [if_neg f2] at k
          have hxz := lessB_trans h k
          rw [if_neg (fun e => by rw [e, lessB_irrefl] at hxz; cases hxz)]; exact hxz
    · rw [if_neg e2] at k
      rw [if_neg (fun e => e2 (e1.symm.trans e)), e1]; exact k
  · rw [if_neg e1] at h
    have h' := of_decide_eq_true h
    by_cases e2 : y.ent = z.ent
    · rw [if_neg (by omega)]; exact decide_eq_true (by omega)
    · rw [if_neg e2] at k
      have k' := of_decide_eq_true k
      rw [if_neg (by omega)]; exact decide_eq_true (by omega)
theorem Pl.tri {x y : Pl} (h : Pl.lt x y = false) (k : Pl.lt y x = false) : x = y := by
  obtain ⟨a, b, c⟩ := x
  obtain ⟨d, e, f⟩ := y
  unfold Pl.lt at h k
  simp only at h k
  by_cases e1 : a = d
  · subst e1
    rw [if_pos rfl] at h k
    by_cases e2 : b = e
    · subst e2
      rw [if_pos rfl] at h k
      rw [lessB_tri h k]
    · rw [if_neg e2] at h
      rw [if_neg (fun z => e2 z.symm)] at k
      exact absurd (lessB_tri h k) e2
  · rw [if_neg e1] at h
    rw [if_neg (fun z => e1 z.symm)] at k
    have h' := of_decide_eq_false h
    have k' := of_decide_eq_false k
    omega
theorem Pl.asymm {x y : Pl} (h : Pl.lt x y = true) : Pl.lt y x = false := by
  cases hk : Pl.lt y x with
  | false => rfl
  | true =>
    have := Pl.trans h hk
    rw [Pl.irrefl] at this; cases this
theorem Pl.ne {x y : Pl} (h : Pl.lt x y = true) : x ≠ y := by rintro rfl; rw [Pl.irrefl] at h; cases h

/-- how much there is of a place -/
def totB : List Bal → Pl → Int
  | [], _ => 0
  | x :: l, k => (if x.pl = k then x.amt else 0) + totB l k
/-- is there anything of a place? -/
def hasB (l : List Bal) (k : Pl) : Prop := ∃ x, x ∈ l ∧ x.pl = k
/-- one of each place, in order -/
def SSortB (l : List Bal) : Prop := l.Pairwise fun x y => Pl.lt x.pl y.pl = true
/-- in order -/
def WSortB (l : List Bal) : Prop := l.Pairwise fun x y => Pl.lt y.pl x.pl = false

theorem totB_append (a b : List Bal) (k : Pl) : totB (a ++ b) k = totB a k + totB b k := by
  induction a with
  | nil => simp [totB]
  | cons x a ih => simp only [List.cons_append, totB, ih]; omega
theorem totB_none {l : List Bal} {k : Pl} (h : ¬ hasB l k) : totB l k = 0 := by
  induction l with
  | nil => rfl
  | cons x l ih =>
    have h1 : x.pl ≠ k := fun e => h ⟨x, by simp, e⟩
    have h2 : ¬ hasB l k := fun ⟨y, hy, e⟩ => h ⟨y, by simp [hy], e⟩
    rw [totB, if_neg h1, ih h2]; rfl
theorem hasB_cons {x : Bal} {l : List Bal} {k : Pl} : hasB (x :: l) k ↔ x.pl = k ∨ hasB l k := by
  simp [hasB]
theorem hasB_append {a b : List Bal} {k : Pl} : hasB (a ++ b) k ↔ hasB a k ∨ hasB b k := by
  constructor
  · rintro ⟨x, hx, e⟩
    rcases List.mem_append.1 hx with h | h
    · exact .inl ⟨x, h, e⟩
    · exact .inr ⟨x, h, e⟩
  · rintro (⟨x, h, e⟩ | ⟨x, h, e⟩)
    · exact ⟨x, by simp [h], e⟩
    · exact ⟨x, by simp [h], e⟩
theorem ssortB_head {x : Bal} {l : List Bal} (h : SSortB (x :: l)) {k : Pl} (hk : hasB l k) : Pl.lt x.pl k = true := by
  obtain ⟨y, hy, rfl⟩ := hk
  exact (List.pairwise_cons.1 h).1 y hy
theorem bal_eq {x y : Bal} (h : x.pl = y.pl) (k : x.amt = y.amt) : x = y := by
  obtain ⟨a, b, c, g⟩ := x
  obtain ⟨d, e, f, i⟩ := y
  simp only [Bal.pl, Pl.mk.injEq] at h
  obtain ⟨rfl, rfl, rfl⟩ := h
  simp only at k
  rw [k]

/-- there is one list in order of the same places, with as much of each -/
theorem ssortB_unique : ∀ a b : List Bal, SSortB a → SSortB b → (∀ k, hasB a k ↔ hasB b k) → (∀ k, totB a k = totB b k) → a = b := by
  intro a
  induction a with
  | nil =>
    intro b _ _ h _
    cases b with
    | nil => rfl
    | cons y b =>
      obtain ⟨x, hx, _⟩ := (h y.pl).2 ⟨y, by simp, rfl⟩
      cases hx
  | cons x a ih =>
    intro b ha hb h ht
    cases b with
    | nil =>
      obtain ⟨y, hy, _⟩ := (h x.pl).1 ⟨x, by simp, rfl⟩
      cases hy
    | cons y b =>
      have hxy : x.pl = y.pl := by
        rcases hasB_cons.1 ((h x.pl).1 (hasB_cons.2 (.inl rfl))) with e | e
        · exact e.symm
        · rcases hasB_cons.1 ((h y.pl).2 (hasB_cons.2 (.inl rfl))) with f | f
          · exact f
          · have g1 := ssortB_head hb e
            have g2 := ssortB_head ha f
            rw [Pl.asymm g1] at g2; cases g2
      have na : ∀ k, hasB a k → k ≠ x.pl := fun k hk e => Pl.ne (ssortB_head ha hk) e.symm
      have nb : ∀ k, hasB b k → k ≠ x.pl := fun k hk e => Pl.ne (ssortB_head hb hk) (hxy ▸ e.symm)
      have hamt : x.amt = y.amt := by
        have := ht x.pl
        rw [totB, totB, if_pos rfl, if_pos hxy.symm, totB_none (fun hk => na _ hk rfl), totB_none (fun hk => nb _ hk rfl)] at this
        omega
      have hx := bal_eq hxy hamt
      subst hx
      congr 1
      refine ih b (List.pairwise_cons.1 ha).2 (List.pairwise_cons.1 hb).2 (fun k => ?_) (fun k => ?_)
      · constructor
        · intro hk
          rcases hasB_cons.1 ((h k).1 (hasB_cons.2 (.inr hk))) with e | e
          · exact absurd e.symm (na k hk)
          · exact e
        · intro hk
          rcases hasB_cons.1 ((h k).2 (hasB_cons.2 (.inr hk))) with e | e
          · exact absurd e.symm (nb k hk)
          · exact e
      · have := ht k
        rw [totB, totB] at this
        omega

/-- x is put where it belongs; what is there already is added to (the document's way) -/
def insB : List Bal → Bal → List Bal
  | [], x => [x]
  | y :: l, x => if Pl.lt y.pl x.pl = true then y :: insB l x else if y.pl = x.pl then { y with amt := y.amt + x.amt } :: l else x :: y :: l

theorem insB_has (l : List Bal) (x : Bal) (k : Pl) : hasB (insB l x) k ↔ hasB l k ∨ x.pl = k := by
  induction l with
  | nil => simp [insB, hasB]
  | cons y l ih =>
    unfold insB
    split
    · rw [hasB_cons, ih, hasB_cons, or_assoc]
    · split
      · rename_i h1 h2
        rw [hasB_cons, hasB_cons]
        show (y.pl = k ∨ _) ↔ _
        constructor
        · intro h; exact .inl h
        · rintro (h | h)
          · exact h
          · exact .inl (h2.trans h)
      · rw [hasB_cons, hasB_cons]
        constructor
        · rintro (h | h)
          · exact .inr h
          · exact .inl h
        · rintro (h | h)
          · exact .inr h
          · exact .inl h
theorem insB_tot (l : List Bal) (x : Bal) (k : Pl) : totB (insB l x) k = totB l k + if x.pl = k then x.amt else 0 := by
  induction l with
  | nil => simp [insB, totB]
  | cons y l ih =>
    unfold insB
    split
    · rw [totB, ih, totB]; omega
    · split
      · rename_i h1 h2
        rw [totB, totB]
        show (if y.pl = k then y.amt + x.amt else 0) + _ = _
        rw [h2]
        split <;> omega
      · rw [totB, totB]; omega
theorem insB_sort {l : List Bal} (x : Bal) (h : SSortB l) : SSortB (insB l x) := by
  induction l with
  | nil => simp [insB, SSortB]
  | cons y l ih =>
    have h1 := List.pairwise_cons.1 h
    unfold insB
    split
    · rename_i hlt
      refine List.pairwise_cons.2 ⟨fun z hz => ?_, ih h1.2⟩
      rcases (insB_has l x z.pl).1 ⟨z, hz, rfl⟩ with e | e
      · exact ssortB_head h e
      · rw [← e]; exact hlt
    · split
      · rename_i h2 h3
        exact List.pairwise_cons.2 ⟨fun z hz => h1.1 z hz, h1.2⟩
      · rename_i h2 h3
        have hxy : Pl.lt x.pl y.pl = true := by
          cases hk : Pl.lt x.pl y.pl with
          | true => rfl
          | false => exact absurd (Pl.tri (by simpa using h2) hk) h3
        refine List.pairwise_cons.2 ⟨fun z hz => ?_, h⟩
        rcases List.mem_cons.1 hz with rfl | hz
        · exact hxy
        · exact Pl.trans hxy (h1.1 z hz)

/-- what is alike put together, in order -/
def canonB (l : List Bal) : List Bal := l.foldl insB []
theorem foldl_insB (l : List Bal) : ∀ a, SSortB a → SSortB (l.foldl insB a) ∧ (∀ k, hasB (l.foldl insB a) k ↔ hasB a k ∨ hasB l k) ∧ ∀ k, totB (l.foldl insB a) k = totB a k + totB l k := by
  induction l with
  | nil => intro a h; exact ⟨h, fun k => by simp [hasB], fun k => by simp [totB]⟩
  | cons x l ih =>
    intro a h
    obtain ⟨h1, h2, h3⟩ := ih (insB a x) (insB_sort x h)
    refine ⟨h1, fun k => ?_, fun k => ?_⟩
    · rw [List.foldl_cons, h2, insB_has, hasB_cons, or_assoc]
    · rw [List.foldl_cons, h3, insB_tot, totB]; omega
theorem canonB_sort (l : List Bal) : SSortB (canonB l) := (foldl_insB l [] (by simp [SSortB])).1
theorem canonB_has (l : List Bal) (k : Pl) : hasB (canonB l) k ↔ hasB l k := by
  rw [canonB, (foldl_insB l [] (by simp [SSortB])).2.1]; simp [hasB]
theorem canonB_tot (l : List Bal) (k : Pl) : totB (canonB l) k = totB l k := by
  rw [canonB, (foldl_insB l [] (by simp [SSortB])).2.2]; simp [totB]
theorem canonB_of {l a : List Bal} (h : SSortB a) (h1 : ∀ k, hasB a k ↔ hasB l k) (h2 : ∀ k, totB a k = totB l k) : a = canonB l :=
  ssortB_unique _ _ h (canonB_sort l) (fun k => (h1 k).trans (canonB_has l k).symm) (fun k => (h2 k).trans (canonB_tot l k).symm)

theorem perm_hasB {a b : List Bal} (h : a.Perm b) (k : Pl) : hasB a k ↔ hasB b k := by
  unfold hasB
  constructor
  · rintro ⟨x, hx, e⟩; exact ⟨x, h.mem_iff.1 hx, e⟩
  · rintro ⟨x, hx, e⟩; exact ⟨x, h.mem_iff.2 hx, e⟩
theorem perm_totB {a b : List Bal} (h : a.Perm b) (k : Pl) : totB a k = totB b k := by
  induction h with
  | nil => rfl
  | cons x _ ih => rw [totB, totB, ih]
  | swap x y l => rw [totB, totB, totB, totB]; omega
  | trans _ _ i1 i2 => exact i1.trans i2


theorem canonB_same {l : List Bal} (h : SSortB l) : canonB l = l := (canonB_of h (fun _ => Iff.rfl) (fun _ => rfl)).symm
theorem canonB_append (a b : List Bal) : canonB (a ++ b) = b.foldl insB (canonB a) := by unfold canonB; rw [List.foldl_append]
theorem canonB_snoc (a : List Bal) (x : Bal) : canonB (a ++ [x]) = insB (canonB a) x := by rw [canonB_append]; rfl
theorem insB_len {l : List Bal} (x : Bal) (h : SSortB l) : (hasB l x.pl → (insB l x).length = l.length) ∧ (¬ hasB l x.pl → (insB l x).length = l.length + 1) := by
  induction l with
  | nil => exact ⟨(fun ⟨y, hy, _⟩ => absurd hy (by simp)), fun _ => rfl⟩
  | cons y l ih =>
    have h1 := List.pairwise_cons.1 h
    obtain ⟨i1, i2⟩ := ih h1.2
    unfold insB
    by_cases hlt : Pl.lt y.pl x.pl = true
    · rw [if_pos hlt, List.length_cons]
      refine ⟨fun hh => ?_, fun hh => ?_⟩
      · rcases hasB_cons.1 hh with e | e
        · exact absurd e (Pl.ne hlt)
        · rw [i1 e]; rfl
      · rw [i2 (fun e => hh (hasB_cons.2 (.inr e)))]; rfl
    · rw [if_neg hlt]
      by_cases he : y.pl = x.pl
      · rw [if_pos he]
        exact ⟨fun _ => rfl, fun hh => absurd (hasB_cons.2 (.inl he)) hh⟩
      · rw [if_neg he]
        refine ⟨fun hh => ?_, fun _ => rfl⟩
        rcases hasB_cons.1 hh with e | e
        · exact absurd e he
        · exact absurd (ssortB_head h e) hlt

/-- those that are not 0 -/
def fullB (l : List Bal) : List Bal := l.filter fun x => decide (x.amt ≠ 0)
theorem fullB_sort {l : List Bal} (h : SSortB l) : SSortB (fullB l) := List.Pairwise.filter _ h
theorem fullB_ne {l : List Bal} {x : Bal} (h : x ∈ fullB l) : x.amt ≠ 0 := by simpa using (List.mem_filter.1 h).2
theorem fullB_tot (l : List Bal) (k : Pl) : totB (fullB l) k = totB l k := by
  induction l with
  | nil => rfl
  | cons x l ih =>
    unfold fullB at *
    by_cases h : x.amt = 0
    · rw [List.filter_cons_of_neg (by simpa using h), ih, totB, h]
      split <;> omega
    · rw [List.filter_cons_of_pos (by simpa using h), totB, totB, ih]
theorem fullB_len (l : List Bal) : (fullB l).length ≤ l.length := List.length_filter_le _ _
/-- in a list in order, how much there is of a place is what stands there -/
theorem totB_mem {l : List Bal} (h : SSortB l) {x : Bal} (hx : x ∈ l) : totB l x.pl = x.amt := by
  induction l with
  | nil => cases hx
  | cons y l ih =>
    have h1 := List.pairwise_cons.1 h
    rw [totB]
    rcases List.mem_cons.1 hx with rfl | hx
    · rw [if_pos rfl, totB_none]
      · omega
      · intro hk; exact Pl.ne (ssortB_head h hk) rfl
    · rw [if_neg (Pl.ne (h1.1 x hx)), ih h1.2 hx]; omega
theorem hasB_ne {l : List Bal} (h : SSortB l) (hn : ∀ x, x ∈ l → x.amt ≠ 0) (k : Pl) : hasB l k ↔ totB l k ≠ 0 := by
  constructor
  · rintro ⟨x, hx, rfl⟩
    rw [totB_mem h hx]; exact hn x hx
  · intro ht
    by_cases hh : hasB l k
    · exact hh
    · exact absurd (totB_none hh) ht
/-- there is one list in order without any 0 of as much of each place -/
theorem full_unique {a b : List Bal} (ha : SSortB a) (hb : SSortB b) (na : ∀ x, x ∈ a → x.amt ≠ 0) (nb : ∀ x, x ∈ b → x.amt ≠ 0) (h : ∀ k, totB a k = totB b k) : a = b :=
  ssortB_unique a b ha hb (fun k => by rw [hasB_ne ha na, hasB_ne hb nb, h k]) h
/-- what the sums of some come to -/
def netB (l : List Bal) : List Bal := fullB (canonB l)
theorem netB_sort (l : List Bal) : SSortB (netB l) := fullB_sort (canonB_sort l)
theorem netB_ne {l : List Bal} {x : Bal} (h : x ∈ netB l) : x.amt ≠ 0 := fullB_ne h
theorem netB_tot (l : List Bal) (k : Pl) : totB (netB l) k = totB l k := by rw [netB, fullB_tot, canonB_tot]
theorem netB_of {a l : List Bal} (h : SSortB a) (hn : ∀ x, x ∈ a → x.amt ≠ 0) (ht : ∀ k, totB a k = totB l k) : a = netB l :=
  full_unique h (netB_sort l) hn (fun _ => netB_ne) (fun k => (ht k).trans (netB_tot l k).symm)
/-- a list of the right members, each once, sorted anyhow -/
theorem sorted_strict {l : List Bal} (hw : l.Pairwise fun x y => Pl.lt y.pl x.pl = false) (hd : l.Pairwise fun x y => x.pl ≠ y.pl) : SSortB l := by
  unfold SSortB
  refine (hw.and hd).imp ?_
  rintro x y ⟨h1, h2⟩
  cases h : Pl.lt x.pl y.pl with
  | true => rfl
  | false => exact absurd (Pl.tri h h1) h2
/-- as much of each place as in a list without a place twice whose members are right -/
theorem netB_perm {c a l : List Bal} (hp : a.Perm c) (hw : a.Pairwise fun x y => Pl.lt y.pl x.pl = false) (hd : c.Pairwise fun x y => x.pl ≠ y.pl)
    (hm : ∀ x, x ∈ c → x.amt = totB l x.pl ∧ x.amt ≠ 0) (hall : ∀ k, totB l k ≠ 0 → hasB c k) : a = netB l := by
  have hs : SSortB a := sorted_strict hw ((hp.pairwise_iff (fun h e => h e.symm)).2 hd)
  refine netB_of hs (fun x hx => (hm x (hp.mem_iff.1 hx)).2) fun k => ?_
  by_cases hk : hasB a k
  · obtain ⟨x, hx, rfl⟩ := hk
    rw [totB_mem hs hx]; exact (hm x (hp.mem_iff.1 hx)).1
  · rw [totB_none hk]
    by_cases ht : totB l k = 0
    · rw [ht]
    · exact absurd ((perm_hasB hp k).2 (hall k ht)) hk
/-- balances that are right are in order, without any 0 -/
theorem bals_sort {l : List Bal} (h : balsE l = 0) : SSortB l := by
  unfold SSortB
  rw [List.pairwise_iff_getElem]
  intro i j hi hj hij
  obtain ⟨d, rfl⟩ : ∃ d, j = i + 1 + d := ⟨j - i - 1, by omega⟩
  clear hij
  induction d with
  | zero =>
    have := ((balsE_0 h).2 (i + 1) hj).1
    rw [ordB_s hj] at this
    exact this
  | succ d ih =>
    have h1 := ih (by omega)
    have := ((balsE_0 h).2 (i + 1 + d + 1) hj).1
    rw [ordB_s (show i + 1 + d + 1 < l.length from hj)] at this
    exact Pl.trans h1 this
theorem bals_ne {l : List Bal} (h : balsE l = 0) : ∀ x, x ∈ l → x.amt ≠ 0 := by
  intro x hx
  obtain ⟨k, hk, rfl⟩ := List.getElem_of_mem hx
  exact ((balsE_0 h).2 k hk).2.2
theorem bals_may {l : List Bal} (h : balsE l = 0) : ∀ x, x ∈ l → mayB x.amt = true := by
  intro x hx
  obtain ⟨k, hk, rfl⟩ := List.getElem_of_mem hx
  exact ((balsE_0 h).2 k hk).2.1
theorem isAt_pl (e : Int) (a c : ByteArray) (x : Bal) : isAt e a c x = true ↔ x.pl = ⟨e, a, c⟩ := by
  unfold isAt Bal.pl
  simp only [Bool.and_eq_true, beq_iff_eq, Pl.mk.injEq]
  constructor
  · rintro ⟨⟨h1, h2⟩, h3⟩; exact ⟨h1, toList_inj h2, toList_inj h3⟩
  · rintro ⟨h1, h2, h3⟩; exact ⟨⟨h1, by rw [h2]⟩, by rw [h3]⟩
theorem getB_tot {l : List Bal} (h : SSortB l) (e : Int) (a c : ByteArray) : getB l e a c = totB l ⟨e, a, c⟩ := by
  unfold getB
  cases hf : l.find? (isAt e a c) with
  | some x =>
    have h1 := (isAt_pl e a c x).1 (List.find?_some hf)
    rw [← h1, totB_mem h (List.mem_of_find?_eq_some hf)]
  | none =>
    rw [totB_none]
    rintro ⟨x, hx, e1⟩
    have := List.find?_eq_none.1 hf x hx
    exact this ((isAt_pl e a c x).2 e1)

/-- what is wrong with two lists of balances put together -/
def mergeE (a b : List Bal) : Int := if balsE a ≠ 0 then balsE a else if balsE b ≠ 0 then balsE b else if 200 < (canonB (a ++ b)).length then 4 else if (netB (a ++ b)).all (fun x => mayB x.amt) = false then 10 else 0
theorem mergeE_range (a b : List Bal) : 0 ≤ mergeE a b ∧ mergeE a b ≤ 12 := by
  have h1 := balsE_range a
  have h2 := balsE_range b
  unfold mergeE
  repeat' split
  all_goals omega
theorem mergeE_1 {a b : List Bal} (h : balsE a ≠ 0) : mergeE a b = balsE a := if_pos h
theorem mergeE_2 {a b : List Bal} (h : balsE a = 0) (h2 : balsE b ≠ 0) : mergeE a b = balsE b := by rw [mergeE, if_neg (by simpa using h), if_pos h2]
theorem mergeE_3 {a b : List Bal} (h : balsE a = 0) (h2 : balsE b = 0) (h3 : 200 < (canonB (a ++ b)).length) : mergeE a b = 4 := by rw [mergeE, if_neg (by simpa using h), if_neg (by simpa using h2), if_pos h3]
theorem mergeE_4 {a b : List Bal} (h : balsE a = 0) (h2 : balsE b = 0) (h3 : ¬ 200 < (canonB (a ++ b)).length) (h4 : (netB (a ++ b)).all (fun x => mayB x.amt) = false) : mergeE a b = 10 := by rw [mergeE, if_neg (by simpa using h), if_neg (by simpa using h2), if_neg h3, if_pos h4]
theorem mergeE_5 {a b : List Bal} (h : balsE a = 0) (h2 : balsE b = 0) (h3 : ¬ 200 < (canonB (a ++ b)).length) (h4 : (netB (a ++ b)).all (fun x => mayB x.amt) = true) : mergeE a b = 0 := by rw [mergeE, if_neg (by simpa using h), if_neg (by simpa using h2), if_neg h3, if_neg (by rw [h4]; decide)]
theorem mergeE_0 {a b : List Bal} (h : mergeE a b = 0) : balsE a = 0 ∧ balsE b = 0 ∧ (canonB (a ++ b)).length ≤ 200 ∧ ∀ x, x ∈ netB (a ++ b) → mayB x.amt = true := by
  by_cases h1 : balsE a = 0
  · by_cases h2 : balsE b = 0
    · by_cases h3 : 200 < (canonB (a ++ b)).length
      · rw [mergeE_3 h1 h2 h3] at h; cases h
      · cases h4 : (netB (a ++ b)).all (fun x => mayB x.amt) with
        | false => rw [mergeE_4 h1 h2 h3 h4] at h; cases h
        | true => exact ⟨h1, h2, by omega, fun x hx => List.all_eq_true.1 h4 x hx⟩
    · rw [mergeE_2 h1 h2] at h; exact absurd h h2
  · rw [mergeE_1 h1] at h; exact absurd h h1
end Go.Proofs.YtggmbjdonlbfkaaGreatDoorBesafter

namespace Go.Proofs.YtggmbjdonlbfkaaGreatDoorBesafter
open Go Go.RowKit
set_option linter.unusedVariables false

theorem insB_at : ∀ (k : Nat) (l : List Bal) (x : Bal), (∀ (j : Nat) (hj : j < l.length), j < k → Pl.lt l[j].pl x.pl = true) → k ≤ l.length → (∀ h : k < l.length, Pl.lt l[k].pl x.pl = false) →
    insB l x = l.take k ++ (match l.drop k with | [] => [x] | y :: r => if y.pl = x.pl then { y with amt := y.amt + x.amt } :: r else x :: y :: r) := by
  intro k
  induction k with
  | zero =>
    intro l x _ _ h
    cases l with
    | nil => rfl
    | cons y l =>
      have h0 := h (by simp)
      simp only [List.getElem_cons_zero] at h0
      unfold insB
      rw [if_neg (by rw [h0]; decide)]
      rfl
  | succ k ih =>
    intro l x hto hk h
    cases l with
    | nil => simp at hk
    | cons y l =>
      have h0 := hto 0 (by simp) (by omega)
      simp only [List.getElem_cons_zero] at h0
      unfold insB
      rw [if_pos h0, ih l x (fun j hj hjk => by have := hto (j + 1) (by simp; omega) (by omega); simpa using this) (by simpa using hk) (fun hh => by have := h (by simp; omega); simpa using this)]
      rfl
theorem insB_add {k : Nat} {l : List Bal} {x : Bal} (hto : ∀ (j : Nat) (hj : j < l.length), j < k → Pl.lt l[j].pl x.pl = true) (hk : k < l.length) (he : l[k].pl = x.pl) : insB l x = l.set k { l[k] with amt := l[k].amt + x.amt } := by
  rw [insB_at k l x hto (by omega) (fun _ => by rw [he]; exact Pl.irrefl _), List.drop_eq_getElem_cons hk]
  simp only [if_pos he]
  rw [List.set_eq_take_append_cons_drop, if_pos hk]
theorem insB_new {k : Nat} {l : List Bal} {x : Bal} (hto : ∀ (j : Nat) (hj : j < l.length), j < k → Pl.lt l[j].pl x.pl = true) (hk : k ≤ l.length) (hn : ∀ h : k < l.length, Pl.lt x.pl l[k].pl = true) : insB l x = l.take k ++ [x] ++ l.drop k := by
  rw [insB_at k l x hto hk (fun h => Pl.asymm (hn h))]
  rcases Nat.lt_or_ge k l.length with h | h
  · rw [List.drop_eq_getElem_cons h]
    have : l[k].pl ≠ x.pl := fun e => Pl.ne (hn h) e.symm
    simp only [if_neg this]
    simp
  · rw [List.drop_eq_nil_of_le h]
    simp
theorem insB_len_le (l : List Bal) (x : Bal) : (insB l x).length ≤ l.length + 1 ∧ l.length ≤ (insB l x).length := by
  induction l with
  | nil => simp [insB]
  | cons y l ih =>
    unfold insB
    split
    · simp only [List.length_cons]; omega
    · split
      · simp only [List.length_cons]; omega
      · simp only [List.length_cons]; omega

/-- balances k of the second list put in -/
def mergeTo (a b : List Bal) (k : Nat) : List Bal := (b.take k).foldl insB a
theorem mergeTo_0 (a b : List Bal) : mergeTo a b 0 = a := rfl
theorem mergeTo_succ {a b : List Bal} {k : Nat} (hk : k < b.length) : mergeTo a b (k + 1) = insB (mergeTo a b k) b[k] := by
  unfold mergeTo
  rw [List.take_succ_eq_append_getElem hk, List.foldl_append]
  rfl
theorem mergeTo_all {a b : List Bal} {k : Nat} (ha : SSortB a) (hk : b.length ≤ k) : mergeTo a b k = canonB (a ++ b) := by
  unfold mergeTo
  rw [List.take_of_length_le hk, canonB_append, canonB_same ha]
theorem mergeTo_len (a b : List Bal) (k : Nat) : (mergeTo a b k).length ≤ a.length + k := by
  induction k with
  | zero => simp [mergeTo]
  | succ k ih =>
    rcases Nat.lt_or_ge k b.length with h | h
    · rw [mergeTo_succ h]
      have := (insB_len_le (mergeTo a b k) b[k]).1
      omega
    · unfold mergeTo at *
      rw [List.take_of_length_le (by omega)]
      rw [List.take_of_length_le h] at ih
      omega
theorem mergeTo_sort {a b : List Bal} (ha : SSortB a) (k : Nat) : SSortB (mergeTo a b k) := (foldl_insB (b.take k) a ha).1
theorem mergeTo_tot {a b : List Bal} (ha : SSortB a) (k : Nat) (p : Pl) : totB (mergeTo a b k) p = totB a p + totB (b.take k) p := (foldl_insB (b.take k) a ha).2.2 p
theorem take_none {b : List Bal} (hb : SSortB b) {k : Nat} (hk : k < b.length) : totB (b.take k) b[k].pl = 0 := by
  refine totB_none ?_
  rintro ⟨x, hx, e⟩
  obtain ⟨j, hj, rfl⟩ := List.getElem_of_mem hx
  rw [List.getElem_take] at e
  simp only [List.length_take] at hj
  have := List.pairwise_iff_getElem.1 hb j k (by omega) hk (by omega)
  exact Pl.ne this e
theorem tot_may {a : List Bal} (ha : balsE a = 0) (p : Pl) : -1000000000000000000 ≤ totB a p ∧ totB a p ≤ 1000000000000000000 := by
  have := may_le (getB_may ha p.ent p.acc p.cur)
  rwa [getB_tot (bals_sort ha)] at this
/-- what stands there already, and what is put to it, are a number of 64 bits -/
theorem merge_fits {a b : List Bal} (ha : balsE a = 0) (hb : balsE b = 0) {k : Nat} (hk : k < b.length) : ∀ y, y ∈ mergeTo a b k → y.pl = b[k].pl → -9223372036854775808 ≤ y.amt + b[k].amt ∧ y.amt + b[k].amt ≤ 9223372036854775807 := by
  intro y hy e
  have h1 := totB_mem (mergeTo_sort (bals_sort ha) k) hy
  rw [e, mergeTo_tot (bals_sort ha), take_none (bals_sort hb) hk] at h1
  have h2 := tot_may ha b[k].pl
  have h3 := may_le (bals_may hb _ (List.getElem_mem hk))
  omega
/-- in the map, too -/
theorem sums_fit {a b : List Bal} (ha : balsE a = 0) (hb : balsE b = 0) {k : Nat} (hk : k < (a ++ b).length) : -9223372036854775808 ≤ totB ((a ++ b).take k) (a ++ b)[k].pl + (a ++ b)[k].amt ∧ totB ((a ++ b).take k) (a ++ b)[k].pl + (a ++ b)[k].amt ≤ 9223372036854775807 := by
  rcases Nat.lt_or_ge k a.length with h | h
  · have e1 : (a ++ b).take k = a.take k := List.take_append_of_le_length (by omega)
    have e2 : (a ++ b)[k] = a[k] := List.getElem_append_left h
    rw [e1, e2, take_none (bals_sort ha) h]
    have h3 := may_le (bals_may ha _ (List.getElem_mem h))
    omega
  · rw [List.length_append] at hk
    have e1 : (a ++ b).take k = a ++ b.take (k - a.length) := by rw [List.take_append, List.take_of_length_le h]
    have e2 : (a ++ b)[k]'(by rw [List.length_append]; omega) = b[k - a.length]'(by omega) := List.getElem_append_right h
    rw [e1, e2, totB_append, take_none (bals_sort hb) (by omega)]
    have h2 := tot_may ha (b[k - a.length]'(by omega)).pl
    have h3 := may_le (bals_may hb _ (List.getElem_mem (show k - a.length < b.length by omega)))
    omega
def fullTo (l : List Bal) (k : Nat) : List Bal := fullB (l.take k)
theorem fullTo_succ_no {l : List Bal} {k : Nat} (hk : k < l.length) (h : l[k].amt = 0) : fullTo l (k + 1) = fullTo l k := by
  unfold fullTo fullB
  rw [List.take_succ_eq_append_getElem hk, List.filter_append]
  simp [h]
theorem fullTo_succ_yes {l : List Bal} {k : Nat} (hk : k < l.length) (h : l[k].amt ≠ 0) : fullTo l (k + 1) = fullTo l k ++ [l[k]] := by
  unfold fullTo fullB
  rw [List.take_succ_eq_append_getElem hk, List.filter_append]
  simp [h]
theorem fullTo_all {l : List Bal} {k : Nat} (hk : l.length ≤ k) : fullTo l k = fullB l := by unfold fullTo; rw [List.take_of_length_le hk]
theorem fullTo_len (l : List Bal) (k : Nat) : (fullTo l k).length ≤ k := by
  have := fullB_len (l.take k)
  rw [List.length_take] at this
  unfold fullTo
  omega
end Go.Proofs.YtggmbjdonlbfkaaGreatDoorBesafter
