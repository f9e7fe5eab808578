/- Lines of entries: put together by account and currency, in order. Plain Lean, no program in sight. -/
import Derived.Test.YtjojjicpdfmopaaGreatDoorChartP
namespace Go.Proofs.YtjojjicpdfmopaaGreatDoor
open Go Go.RowKit
set_option linter.unusedVariables false

theorem bytesLess_tri : ∀ x y : List UInt8, Op.bytesLess x y = false → Op.bytesLess y x = false → x = y := by
  intro x
  induction x with
  | nil =>
    intro y h1 h2
    cases y with
    | nil => rfl
    | cons b y => simp [Op.bytesLess] at h1
  | cons a x ih =>
    intro y h1 h2
    cases y with
    | nil => simp [Op.bytesLess] at h2
    | cons b y =>
      simp only [Op.bytesLess, Bool.or_eq_false_iff, decide_eq_false_iff_not, Bool.and_eq_false_imp, beq_iff_eq] at h1 h2
      have hab : a = b := UInt8.le_antisymm (UInt8.not_lt.1 h2.1) (UInt8.not_lt.1 h1.1)
      subst hab
      rw [ih y (h1.2 rfl) (h2.2 rfl)]

theorem toList_inj {a b : ByteArray} (h : a.toList = b.toList) : a = b := by
  have := beq_toList a b
  rw [h, beq_self_eq_true] at this
  exact of_decide_eq_true this.symm

/-- a line of an entry -/
structure Line where
  acc : ByteArray
  cur : ByteArray
  amt : Int

def lessB (a b : ByteArray) : Bool := Op.bytesLess a.toList b.toList
theorem lessB_irrefl (a : ByteArray) : lessB a a = false := bytesLess_irrefl _
theorem lessB_trans {a b c : ByteArray} (h : lessB a b = true) (k : lessB b c = true) : lessB a c = true := bytesLess_trans _ _ _ h k
theorem lessB_tri {a b : ByteArray} (h : lessB a b = false) (k : lessB b a = false) : a = b := toList_inj (bytesLess_tri _ _ h k)
theorem lessB_asymm {a b : ByteArray} (h : lessB a b = true) : lessB b a = false := by
  cases hk : lessB b a with
  | false => rfl
  | true =>
    have := lessB_trans h hk
    rw [lessB_irrefl] at this; cases this

/-- account and currency -/
structure Key where
  acc : ByteArray
  cur : ByteArray
deriving DecidableEq
def Line.key (x : Line) : Key := ⟨x.acc, x.cur⟩
/-- ahead of it, by account, then by currency -/
def Key.lt (x y : Key) : Bool := lessB x.acc y.acc || (decide (x.acc = y.acc) && lessB x.cur y.cur)
theorem Key.irrefl (x : Key) : Key.lt x x = false := by simp [Key.lt, lessB_irrefl]
theorem Key.trans {x y z : Key} (h : Key.lt x y = true) (k : Key.lt y z = true) : Key.lt x z = true := by
  simp only [Key.lt, Bool.or_eq_true, Bool.and_eq_true, decide_eq_true_eq] at *
  rcases h with h | ⟨h, h'⟩
  · rcases k with k | ⟨k, k'⟩
    · exact .inl (lessB_trans h k)
    · exact .inl (k ▸ h)
  · rcases k with k | ⟨k, k'⟩
    · exact .inl (h.symm ▸ k)
    · exact .inr ⟨h.trans k, lessB_trans h' k'⟩
theorem Key.tri {x y : Key} (h : Key.lt x y = false) (k : Key.lt y x = false) : x = y := by
  obtain ⟨a, b⟩ := x
  obtain ⟨c, d⟩ := y
  simp only [Key.lt, Bool.or_eq_false_iff, Bool.and_eq_false_imp, decide_eq_true_eq] at h k
  obtain rfl := lessB_tri h.1 k.1
  obtain rfl := lessB_tri (h.2 rfl) (k.2 rfl)
  rfl
theorem Key.asymm {x y : Key} (h : Key.lt x y = true) : Key.lt y x = false := by
  cases hk : Key.lt y x with
  | false => rfl
  | true =>
    have := Key.trans h hk
    rw [Key.irrefl] at this; cases this
theorem Key.ne {x y : Key} (h : Key.lt x y = true) : x ≠ y := by rintro rfl; rw [Key.irrefl] at h; cases h
/-- not behind y, which is ahead of z -/
theorem Key.le_lt {x y z : Key} (h : Key.lt y x = false) (k : Key.lt y z = true) : Key.lt x z = true := by
  cases hx : Key.lt x y with
  | true => exact Key.trans hx k
  | false => rw [Key.tri hx h]; exact k
theorem Key.le_trans {x y z : Key} (h : Key.lt y x = false) (k : Key.lt z y = false) : Key.lt z x = false := by
  cases hz : Key.lt z x with
  | false => rfl
  | true =>
    cases hy : Key.lt y z with
    | true => rw [Key.trans hy hz] at h; cases h
    | false =>
      obtain rfl := Key.tri hy k
      rw [hz] at h; cases h

/-- how much there is of a place -/
def tot : List Line → Key → Int
  | [], _ => 0
  | x :: l, k => (if x.key = k then x.amt else 0) + tot l k
/-- is there anything of a place? -/
def hasK (l : List Line) (k : Key) : Prop := ∃ x, x ∈ l ∧ x.key = k
/-- one of each place, in order -/
def SSort (l : List Line) : Prop := l.Pairwise fun x y => Key.lt x.key y.key = true
/-- in order -/
def WSort (l : List Line) : Prop := l.Pairwise fun x y => Key.lt y.key x.key = false

theorem tot_append (a b : List Line) (k : Key) : tot (a ++ b) k = tot a k + tot b k := by
  induction a with
  | nil => simp [tot]
  | cons x a ih => simp only [List.cons_append, tot, ih]; omega
theorem tot_none {l : List Line} {k : Key} (h : ¬ hasK l k) : tot l k = 0 := by
  induction l with
  | nil => rfl
  | cons x l ih =>
    have h1 : x.key ≠ k := fun e => h ⟨x, by simp, e⟩
    have h2 : ¬ hasK l k := fun ⟨y, hy, e⟩ => h ⟨y, by simp [hy], e⟩
    rw [tot, if_neg h1, ih h2]; rfl
theorem hasK_cons {x : Line} {l : List Line} {k : Key} : hasK (x :: l) k ↔ x.key = k ∨ hasK l k := by
  simp [hasK]
theorem hasK_append {a b : List Line} {k : Key} : hasK (a ++ b) k ↔ hasK a k ∨ hasK b k := by
  constructor
  · rintro ⟨x, hx, e⟩
    rcases List.mem_append.1 hx with h | h
    · exact .inl ⟨x, h, e⟩
    · exact .inr ⟨x, h, e⟩
  · rintro (⟨x, h, e⟩ | ⟨x, h, e⟩)
    · exact ⟨x, by simp [h], e⟩
    · exact ⟨x, by simp [h], e⟩
theorem ssort_head {x : Line} {l : List Line} (h : SSort (x :: l)) {k : Key} (hk : hasK l k) : Key.lt x.key k = true := by
  obtain ⟨y, hy, rfl⟩ := hk
  exact (List.pairwise_cons.1 h).1 y hy
theorem line_eq {x y : Line} (h : x.key = y.key) (k : x.amt = y.amt) : x = y := by
  obtain ⟨a, b, c⟩ := x
  obtain ⟨d, e, f⟩ := y
  simp only [Line.key, Key.mk.injEq] at h
  obtain ⟨rfl, rfl⟩ := h
  simp only at k
  rw [k]

/-- there is one list in order of the same places, with as much of each -/
theorem ssort_unique : ∀ a b : List Line, SSort a → SSort b → (∀ k, hasK a k ↔ hasK b k) → (∀ k, tot a k = tot b k) → a = b := by
  intro a
  induction a with
  | nil =>
    intro b _ _ h _
    cases b with
    | nil => rfl
    | cons y b =>
      obtain ⟨x, hx, _⟩ := (h y.key).2 ⟨y, by simp, rfl⟩
      cases hx
  | cons x a ih =>
    intro b ha hb h ht
    cases b with
    | nil =>
      obtain ⟨y, hy, _⟩ := (h x.key).1 ⟨x, by simp, rfl⟩
      cases hy
    | cons y b =>
      have hxy : x.key = y.key := by
        rcases hasK_cons.1 ((h x.key).1 (hasK_cons.2 (.inl rfl))) with e | e
        · exact e.symm
        · rcases hasK_cons.1 ((h y.key).2 (hasK_cons.2 (.inl rfl))) with f | f
          · exact f
          · have g1 := ssort_head hb e
            have g2 := ssort_head ha f
            rw [Key.asymm g1] at g2; cases g2
      have na : ∀ k, hasK a k → k ≠ x.key := fun k hk e => Key.ne (ssort_head ha hk) e.symm
      have nb : ∀ k, hasK b k → k ≠ x.key := fun k hk e => Key.ne (ssort_head hb hk) (hxy ▸ e.symm)
      have hamt : x.amt = y.amt := by
        have := ht x.key
        rw [tot, tot, if_pos rfl, if_pos hxy.symm, tot_none (fun hk => na _ hk rfl), tot_none (fun hk => nb _ hk rfl)] at this
        omega
      have hx := line_eq hxy hamt
      subst hx
      congr 1
      refine ih b (List.pairwise_cons.1 ha).2 (List.pairwise_cons.1 hb).2 (fun k => ?_) (fun k => ?_)
      · constructor
        · intro hk
          rcases hasK_cons.1 ((h k).1 (hasK_cons.2 (.inr hk))) with e | e
          · exact absurd e.symm (na k hk)
          · exact e
        · intro hk
          rcases hasK_cons.1 ((h k).2 (hasK_cons.2 (.inr hk))) with e | e
          · exact absurd e.symm (nb k hk)
          · exact e
      · have := ht k
        rw [tot, tot] at this
        omega

/-- x is put where it belongs; what is there already is added to (the document's way) -/
def ins : List Line → Line → List Line
  | [], x => [x]
  | y :: l, x => if Key.lt y.key x.key = true then y :: ins l x else if y.key = x.key then { y with amt := y.amt + x.amt } :: l else x :: y :: l

theorem ins_has (l : List Line) (x : Line) (k : Key) : hasK (ins l x) k ↔ hasK l k ∨ x.key = k := by
  induction l with
  | nil => simp [ins, hasK]
  | cons y l ih =>
    unfold ins
    split
    · rw [hasK_cons, ih, hasK_cons, or_assoc]
    · split
      · rename_i h1 h2
        rw [hasK_cons, hasK_cons]
        show (y.key = k ∨ _) ↔ _
        constructor
        · intro h; exact .inl h
        · rintro (h | h)
          · exact h
          · exact .inl (h2.trans h)
      · rw [hasK_cons, hasK_cons]
        constructor
        · rintro (h | h)
          · exact .inr h
          · exact .inl h
        · rintro (h | h)
          · exact .inr h
          · exact .inl h
theorem ins_tot (l : List Line) (x : Line) (k : Key) : tot (ins l x) k = tot l k + if x.key = k then x.amt else 0 := by
  induction l with
  | nil => simp [ins, tot]
  | cons y l ih =>
    unfold ins
    split
    · rw [tot, ih, tot]; omega
    · split
      · rename_i h1 h2
        rw [tot, tot]
        show (if y.key = k then y.amt + x.amt else 0) + _ = _
        rw [h2]
        split <;> omega
      · rw [tot, tot]; omega
theorem ins_sort {l : List Line} (x : Line) (h : SSort l) : SSort (ins l x) := by
  induction l with
  | nil => simp [ins, SSort]
  | cons y l ih =>
    have h1 := List.pairwise_cons.1 h
    unfold ins
    split
    · rename_i hlt
      refine List.pairwise_cons.2 ⟨fun z hz => ?_, ih h1.2⟩
      rcases (ins_has l x z.key).1 ⟨z, hz, rfl⟩ with e | e
      · exact ssort_head h e
      · rw [← e]; exact hlt
    · split
      · rename_i h2 h3
        exact List.pairwise_cons.2 ⟨fun z hz => h1.1 z hz, h1.2⟩
      · rename_i h2 h3
        have hxy : Key.lt x.key y.key = true := by
          cases hk : Key.lt x.key y.key with
          | true => rfl
          | false => exact absurd (Key.tri (by simpa using h2) hk) h3
        refine List.pairwise_cons.2 ⟨fun z hz => ?_, h⟩
        rcases List.mem_cons.1 hz with rfl | hz
        · exact hxy
        · exact Key.trans hxy (h1.1 z hz)

/-- what is alike put together, in order -/
def canon (l : List Line) : List Line := l.foldl ins []
theorem foldl_ins (l : List Line) : ∀ a, SSort a → SSort (l.foldl ins a) ∧ (∀ k, hasK (l.foldl ins a) k ↔ hasK a k ∨ hasK l k) ∧ ∀ k, tot (l.foldl ins a) k = tot a k + tot l k := by
  induction l with
  | nil => intro a h; exact ⟨h, fun k => by simp [hasK], fun k => by simp [tot]⟩
  | cons x l ih =>
    intro a h
    obtain ⟨h1, h2, h3⟩ := ih (ins a x) (ins_sort x h)
    refine ⟨h1, fun k => ?_, fun k => ?_⟩
    · rw [List.foldl_cons, h2, ins_has, hasK_cons, or_assoc]
    · rw [List.foldl_cons, h3, ins_tot, tot]; omega
theorem canon_sort (l : List Line) : SSort (canon l) := (foldl_ins l [] (by simp [SSort])).1
theorem canon_has (l : List Line) (k : Key) : hasK (canon l) k ↔ hasK l k := by
  rw [canon, (foldl_ins l [] (by simp [SSort])).2.1]; simp [hasK]
theorem canon_tot (l : List Line) (k : Key) : tot (canon l) k = tot l k := by
  rw [canon, (foldl_ins l [] (by simp [SSort])).2.2]; simp [tot]
theorem canon_of {l a : List Line} (h : SSort a) (h1 : ∀ k, hasK a k ↔ hasK l k) (h2 : ∀ k, tot a k = tot l k) : a = canon l :=
  ssort_unique _ _ h (canon_sort l) (fun k => (h1 k).trans (canon_has l k).symm) (fun k => (h2 k).trans (canon_tot l k).symm)

/-- the program's step: what is like the last is added to it -/
def grpStep (out : List Line) (x : Line) : List Line :=
  match out.getLast? with
  | some y => if y.key = x.key then out.dropLast ++ [{ y with amt := y.amt + x.amt }] else out ++ [x]
  | none => [x]

theorem getLast_split {α : Type} {l : List α} {y : α} (h : l.getLast? = some y) : l = l.dropLast ++ [y] := by
  cases l with
  | nil => cases h
  | cons a l =>
    rw [List.getLast?_eq_some_getLast (by simp)] at h
    injection h with h
    rw [← h]
    exact (List.dropLast_concat_getLast (by simp)).symm

theorem grp_all (l : List Line) : ∀ out : List Line, SSort out → WSort l → (∀ y, out.getLast? = some y → ∀ x ∈ l, Key.lt x.key y.key = false) →
    SSort (l.foldl grpStep out) ∧ (∀ k, hasK (l.foldl grpStep out) k ↔ hasK out k ∨ hasK l k) ∧ ∀ k, tot (l.foldl grpStep out) k = tot out k + tot l k := by
  induction l with
  | nil => intro out h _ _; exact ⟨h, fun k => by simp [hasK], fun k => by simp [tot]⟩
  | cons x l ih =>
    intro out h hw hl
    have hw1 := List.pairwise_cons.1 hw
    have step : SSort (grpStep out x) ∧ (∀ k, hasK (grpStep out x) k ↔ hasK out k ∨ x.key = k) ∧ (∀ k, tot (grpStep out x) k = tot out k + if x.key = k then x.amt else 0) ∧ ∃ z, (grpStep out x).getLast? = some z ∧ z.key = x.key := by
      unfold grpStep
      cases hg : out.getLast? with
      | none =>
        have : out = [] := by simpa using hg
        subst this
        exact ⟨by simp [SSort], fun k => by simp [hasK], fun k => by simp [tot], x, by simp, rfl⟩
      | some y =>
        have he := getLast_split hg
        have hyx := hl y hg x (by simp)
        dsimp only
        split
        · rename_i hk
          refine ⟨?_, fun k => ?_, fun k => ?_, { y with amt := y.amt + x.amt }, by simp, hk⟩
          · have h' : SSort (out.dropLast ++ [y]) := he ▸ h
            obtain ⟨p1, p2, p3⟩ := List.pairwise_append.1 h'
            refine List.pairwise_append.2 ⟨p1, by simp, fun a ha b hb => ?_⟩
            have : b = { y with amt := y.amt + x.amt } := by simpa using hb
            subst this
            exact p3 a ha y (by simp)
          · rw [hasK_append, hasK_cons]
            conv => rhs; rw [he, hasK_append, hasK_cons]
            have hn : ∀ k, ¬ hasK [] k := fun k ⟨_, hx, _⟩ => by cases hx
            show (_ ∨ (y.key = k ∨ _)) ↔ _
            constructor
            · rintro (a | a | a)
              · exact .inl (.inl a)
              · exact .inl (.inr (.inl a))
              · exact absurd a (hn k)
            · rintro ((a | a | a) | a)
              · exact .inl a
              · exact .inr (.inl a)
              · exact absurd a (hn k)
              · exact .inr (.inl (hk.trans a))
          · rw [tot_append]
            conv => rhs; rw [he, tot_append]
            simp only [tot]
            show _ + ((if y.key = k then y.amt + x.amt else 0) + 0) = _
            rw [hk]
            split <;> omega
        · rename_i hk
          have hlt : Key.lt y.key x.key = true := by
            cases h1 : Key.lt y.key x.key with
            | true => rfl
            | false => exact absurd (Key.tri h1 hyx) hk
          refine ⟨?_, fun k => ?_, fun k => ?_, x, by simp, rfl⟩
          · have h' : SSort (out.dropLast ++ [y]) := he ▸ h
            obtain ⟨p1, p2, p3⟩ := List.pairwise_append.1 h'
            refine List.pairwise_append.2 ⟨h, by simp, fun a ha b hb => ?_⟩
            have : b = x := by simpa using hb
            subst this
            rw [he] at ha
            rcases List.mem_append.1 ha with ha | ha
            · exact Key.trans (p3 a ha y (by simp)) hlt
            · have : a = y := by simpa using ha
              subst this; exact hlt
          · rw [hasK_append]
            constructor
            · rintro (a | ⟨z, hz, e⟩)
              · exact .inl a
              · have : z = x := by simpa using hz
                subst this; exact .inr e
            · rintro (a | a)
              · exact .inl a
              · exact .inr ⟨x, by simp, a⟩
          · rw [tot_append]; simp [tot]
    obtain ⟨s1, s2, s3, z, s4, s5⟩ := step
    obtain ⟨q1, q2, q3⟩ := ih (grpStep out x) s1 hw1.2 (fun y hy a ha => by
      rw [s4] at hy
      injection hy with hy
      subst hy
      rw [s5]; exact hw1.1 a ha)
    refine ⟨q1, fun k => ?_, fun k => ?_⟩
    · rw [List.foldl_cons, q2, s2, hasK_cons, or_assoc]
    · rw [List.foldl_cons, q3, s3, tot]; omega

theorem perm_has {a b : List Line} (h : a.Perm b) (k : Key) : hasK a k ↔ hasK b k := by
  unfold hasK
  constructor
  · rintro ⟨x, hx, e⟩; exact ⟨x, h.mem_iff.1 hx, e⟩
  · rintro ⟨x, hx, e⟩; exact ⟨x, h.mem_iff.2 hx, e⟩
theorem perm_tot {a b : List Line} (h : a.Perm b) (k : Key) : tot a k = tot b k := by
  induction h with
  | nil => rfl
  | cons x _ ih => rw [tot, tot, ih]
  | swap x y l => rw [tot, tot, tot, tot]; omega
  | trans _ _ i1 i2 => exact i1.trans i2

/-- the program's way, behind whatever sort -/
theorem grp_canon {l s : List Line} (hp : s.Perm l) (hw : WSort s) : s.foldl grpStep [] = canon l := by
  obtain ⟨h1, h2, h3⟩ := grp_all s [] (by simp [SSort]) hw (fun y hy => by simp at hy)
  refine canon_of h1 (fun k => ?_) (fun k => ?_)
  · rw [h2, perm_has hp]; simp [hasK]
  · rw [h3, perm_tot hp]; simp [tot]
end Go.Proofs.YtjojjicpdfmopaaGreatDoor
