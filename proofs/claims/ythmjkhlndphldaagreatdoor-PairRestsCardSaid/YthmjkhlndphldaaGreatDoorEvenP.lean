/- A journal is even: plain facts. -/
import Derived.Test.YthmjkhlndphldaaGreatDoorTurns
namespace Go.Proofs.YthmjkhlndphldaaGreatDoor
open Go Go.RowKit
set_option linter.unusedVariables false

/-- all debits of a currency -/
def posOf (cur : ByteArray) : List Line → Int
  | [] => 0
  | x :: l => (if x.cur = cur ∧ 0 < x.amt then x.amt else 0) + posOf cur l
/-- all credits of a currency -/
def negOf (cur : ByteArray) : List Line → Int
  | [] => 0
  | x :: l => (if x.cur = cur ∧ ¬ 0 < x.amt then -x.amt else 0) + negOf cur l
theorem pos_neg (cur : ByteArray) (l : List Line) : posOf cur l - negOf cur l = tot (l.map blank) ⟨⟨#[]⟩, cur⟩ := by
  induction l with
  | nil => rfl
  | cons x l ih =>
    have hk : (blank x).key = (⟨⟨#[]⟩, cur⟩ : Key) ↔ x.cur = cur := by
      unfold blank Line.key
      simp
    have ha : (blank x).amt = x.amt := rfl
    rw [List.map_cons, tot, posOf, negOf, ← ih, ha]
    by_cases h : x.cur = cur
    · rw [if_pos (hk.2 h)]
      by_cases h0 : 0 < x.amt
      · rw [if_pos ⟨h, h0⟩, if_neg (fun e => e.2 h0)]; omega
      · rw [if_neg (fun e => h0 e.2), if_pos ⟨h, h0⟩]; omega
    · rw [if_neg (fun e => h (hk.1 e)), if_neg (fun e => h e.1), if_neg (fun e => h e.1)]; omega
theorem posOf_range (cur : ByteArray) {l : List Line} (h : Bnd 1000000000000000 l) : 0 ≤ posOf cur l ∧ posOf cur l ≤ 1000000000000000 * (l.length : Int) := by
  induction l with
  | nil => simp [posOf]
  | cons x l ih =>
    have h1 := ih fun y hy => h y (List.mem_cons_of_mem _ hy)
    have h2 := h x (by simp)
    rw [posOf, List.length_cons]
    split <;> omega

theorem sum_map_add (f g : Acc → Int) (c : List Acc) : (c.map fun a => f a + g a).sum = (c.map f).sum + (c.map g).sum := by
  induction c with
  | nil => rfl
  | cons a c ih => simp only [List.map_cons, List.sum_cons, ih]; omega
theorem sum_map_zero (c : List Acc) : (c.map fun _ => (0 : Int)).sum = 0 := by
  induction c with
  | nil => rfl
  | cons a c ih => simp only [List.map_cons, List.sum_cons, ih]; rfl
/-- no code is there twice -/
def Uniq (c : List Acc) : Prop := c.Pairwise fun a b => a.code ≠ b.code
theorem hit_none {c : List Acc} {s : ByteArray} (v : Int) (h : ∀ a, a ∈ c → a.code ≠ s) : (c.map fun a => if a.code = s then v else 0).sum = 0 := by
  induction c with
  | nil => rfl
  | cons a c ih =>
    rw [List.map_cons, List.sum_cons, ih (fun b hb => h b (List.mem_cons_of_mem _ hb)), if_neg (h a (by simp))]; rfl
theorem hit_one {s : ByteArray} (v : Int) : ∀ c : List Acc, Uniq c → (∃ a, a ∈ c ∧ a.code = s) → (c.map fun a => if a.code = s then v else 0).sum = v := by
  intro c
  induction c with
  | nil => rintro _ ⟨a, ha, _⟩; cases ha
  | cons a c ih =>
    intro hu hm
    obtain ⟨h1, h2⟩ := List.pairwise_cons.1 hu
    rw [List.map_cons, List.sum_cons]
    by_cases e : a.code = s
    · rw [if_pos e, hit_none v (fun b hb e2 => h1 b hb (e.trans e2.symm))]; omega
    · obtain ⟨b, hb, e2⟩ := hm
      rcases List.mem_cons.1 hb with rfl | hb
      · exact absurd e2 e
      · rw [if_neg e, ih h2 ⟨b, hb, e2⟩]; omega

/-- what was turned over on the debit side, account by account; and on the credit side -/
def turnD (c : List Acc) (cur : ByteArray) (L : List Line) : List Int := c.map fun a => (debs a.code cur L).sum
def turnC (c : List Acc) (cur : ByteArray) (L : List Line) : List Int := c.map fun a => (creds a.code cur L).sum
theorem ofAC_iff (a c : ByteArray) (x : Line) : ofAC a c x = true ↔ x.acc = a ∧ x.cur = c := by
  unfold ofAC
  rw [Bool.and_eq_true, decide_eq_true_eq, decide_eq_true_eq]
theorem turnD_sum {c : List Acc} (hu : Uniq c) (cur : ByteArray) : ∀ L : List Line, (∀ x, x ∈ L → ∃ a, a ∈ c ∧ a.code = x.acc) → (turnD c cur L).sum = posOf cur L := by
  intro L
  induction L with
  | nil => intro _; exact sum_map_zero c
  | cons x L ih =>
    intro h
    have e : turnD c cur (x :: L) = c.map fun a => (if a.code = x.acc then (if x.cur = cur ∧ 0 < x.amt then x.amt else 0) else 0) + (debs a.code cur L).sum := by
      unfold turnD
      refine List.map_congr_left fun a _ => ?_
      rw [debs_cons]
      by_cases e1 : a.code = x.acc
      · rw [if_pos e1]
        by_cases e2 : x.cur = cur ∧ 0 < x.amt
        · rw [if_pos e2, if_pos ⟨(ofAC_iff _ _ _).2 ⟨e1.symm, e2.1⟩, e2.2⟩]
        · rw [if_neg e2, if_neg (fun e3 => e2 ⟨((ofAC_iff _ _ _).1 e3.1).2, e3.2⟩)]
      · rw [if_neg e1, if_neg (fun e3 => e1 ((ofAC_iff _ _ _).1 e3.1).1.symm)]
    rw [e, sum_map_add, hit_one _ c hu (h x (by simp)), posOf]
    have := ih fun y hy => h y (List.mem_cons_of_mem _ hy)
    unfold turnD at this
    rw [this]
theorem turnC_sum {c : List Acc} (hu : Uniq c) (cur : ByteArray) : ∀ L : List Line, (∀ x, x ∈ L → ∃ a, a ∈ c ∧ a.code = x.acc) → (turnC c cur L).sum = negOf cur L := by
  intro L
  induction L with
  | nil => intro _; exact sum_map_zero c
  | cons x L ih =>
    intro h
    have e : turnC c cur (x :: L) = c.map fun a => (if a.code = x.acc then (if x.cur = cur ∧ ¬ 0 < x.amt then -x.amt else 0) else 0) + (creds a.code cur L).sum := by
      unfold turnC
      refine List.map_congr_left fun a _ => ?_
      rw [creds_cons]
      by_cases e1 : a.code = x.acc
      · rw [if_pos e1]
        by_cases e2 : x.cur = cur ∧ ¬ 0 < x.amt
        · rw [if_pos e2, if_pos ⟨(ofAC_iff _ _ _).2 ⟨e1.symm, e2.1⟩, e2.2⟩]
        · rw [if_neg e2, if_neg (fun e3 => e2 ⟨((ofAC_iff _ _ _).1 e3.1).2, e3.2⟩)]
      · rw [if_neg e1, if_neg (fun e3 => e1 ((ofAC_iff _ _ _).1 e3.1).1.symm)]
    rw [e, sum_map_add, hit_one _ c hu (h x (by simp)), negOf]
    have := ih fun y hy => h y (List.mem_cons_of_mem _ hy)
    unfold turnC at this
    rw [this]

theorem ch_uniq {c : List Acc} (h : chartE c = 0) : Uniq c := by
  unfold Uniq
  rw [List.pairwise_iff_getElem]
  intro i j hi hj hij e
  have := ch_inj h i j hi hj (by rw [e])
  omega
theorem leaf_in {c : List Acc} {s : ByteArray} (h : leafE c s = 0) : ∃ a, a ∈ c ∧ a.code = s := by
  by_cases h1 : idxI c s < 0
  · rw [leafE_6 h1] at h; cases h
  · unfold idxI at h1
    cases ho : idxO c s with
    | none => rw [ho] at h1; simp at h1
    | some k =>
      unfold idxO at ho
      rw [List.findIdx?_eq_some_iff_getElem] at ho
      obtain ⟨hk, e, _⟩ := ho
      exact ⟨_, List.getElem_mem hk, toList_inj (by simpa using e)⟩

/-- all entries that are there are right -/
def Rights (c : List Acc) (es : List Ent) : Prop := ∀ e, e ∈ es → Right c e.ref e.ent e.per e.lines
section
variable {c : List Acc} {es : List Ent}
theorem Rights.bnd (h : Rights c es) : ∀ e, e ∈ es → Bnd 1000000000000000 e.lines := fun e he => (h e he).bnd
theorem Rights.push {E E' : Ent} (h : Rights c es) (hp : postE c es E.ref E.ent E.per E.lines = 0) (h1 : E'.ref = E.ref) (h2 : E'.ent = E.ent) (h3 : E'.per = E.per) (h4 : E'.lines = E.lines) : Rights c (es ++ [E']) := by
  intro x hx
  rcases List.mem_append.1 hx with hx | hx
  · exact h x hx
  · have hx' : x = E' := by simpa using hx
    subst hx'
    have h0 : entE c E.ref E.ent E.per E.lines = 0 := by
      unfold postE at hp
      split at hp
      · exact hp
      · rename_i hn; simpa using hn
    rw [h1, h2, h3, h4]
    exact entE_right h0
theorem Rights.nil_of (h : Rights c es) (he : chartE c ≠ 0) : es = [] := by
  cases es with
  | nil => rfl
  | cons e es => exact absurd (h e (by simp)).chart he
theorem Rights.tot (h : Rights c es) (k : Key) : ∀ m, tot ((linesTo es m).map blank) k = 0 := by
  intro m
  induction m with
  | zero => rfl
  | succ m ih =>
    by_cases hm : m < es.length
    · rw [linesTo_succ hm, List.map_append, tot_append, ih, notZ_tot (h _ (List.getElem_mem hm)).zero]; rfl
    · unfold linesTo at *
      rw [List.take_of_length_le (by omega)] at *
      exact ih
theorem Rights.has (h : Rights c es) (m : Nat) : ∀ x, x ∈ linesTo es m → ∃ a, a ∈ c ∧ a.code = x.acc := by
  intro x hx
  unfold linesTo at hx
  obtain ⟨e, he, hx⟩ := List.mem_flatMap.1 hx
  exact leaf_in (lineE_ok (linesE_0 (h e (List.mem_of_mem_take he)).lines x hx)).1
/-- the law: all debits are all credits, and they fit -/
theorem Rights.even (h : Rights c es) (hn : es.length ≤ 60) (cur : ByteArray) : (turnD c cur (linesTo es es.length)).sum = (turnC c cur (linesTo es es.length)).sum ∧
    0 ≤ (turnD c cur (linesTo es es.length)).sum ∧ (turnD c cur (linesTo es es.length)).sum ≤ 1200000000000000000 := by
  by_cases he : chartE c = 0
  · have hu := ch_uniq he
    have h20 : (linesTo es es.length).length ≤ 20 * es.length := linesTo_len (fun e he => (h e he).high) _
    have hr := posOf_range cur (linesTo_bnd h.bnd es.length)
    have hz := pos_neg cur (linesTo es es.length)
    rw [h.tot] at hz
    rw [turnD_sum hu cur _ (h.has _), turnC_sum hu cur _ (h.has _)]
    omega
  · obtain rfl := h.nil_of he
    have e1 : (turnD c cur (linesTo [] ([] : List Ent).length)).sum = 0 := sum_map_zero c
    have e2 : (turnC c cur (linesTo [] ([] : List Ent).length)).sum = 0 := sum_map_zero c
    rw [e1, e2]; omega
theorem Rights.refs (k : Nat) (hk : k < es.length) : hasS (es.map Ent.ref).reverse es[k].ref = true := by
  unfold hasS
  rw [List.any_eq_true]
  exact ⟨es[k].ref, by simp only [List.mem_reverse]; exact List.mem_map_of_mem (List.getElem_mem hk), by simp⟩
theorem Rights.again (h : Rights c es) (k : Nat) (hk : k < es.length) : postE c es es[k].ref es[k].ent es[k].per es[k].lines = 8 := by
  rw [postE, if_neg (by simpa using right_entE (h _ (List.getElem_mem hk))), if_pos (Rights.refs k hk)]
theorem Right.small {ref : ByteArray} {ent per : Int} {l : List Line} (h : Right c ref ent per l) (hc : AccOk c) : ref.size ≤ 9223372036854775807 ∧ LinesOk l := by
  refine ⟨?_, fun x hx => ?_⟩
  · have := h.ref
    unfold refB at this
    simp only [Bool.and_eq_true, decide_eq_true_eq] at this
    omega
  · have h1 := lineE_ok (linesE_0 h.lines x hx)
    obtain ⟨a, ha, e⟩ := leaf_in h1.1
    obtain ⟨i, hi, rfl⟩ := List.getElem_of_mem ha
    have h2 := h1.2.1
    unfold curB at h2
    simp only [Bool.and_eq_true, decide_eq_true_eq] at h2
    refine ⟨by rw [← e]; exact (hc i hi).1, by omega⟩
end
theorem turnD_take {c : List Acc} {cur : ByteArray} {L : List Line} (k : Nat) (hk : k < c.length) : turnD (c.take (k + 1)) cur L = turnD (c.take k) cur L ++ [(debs c[k].code cur L).sum] := by
  unfold turnD
  rw [List.take_succ_eq_append_getElem hk, List.map_append]; rfl
theorem turnC_take {c : List Acc} {cur : ByteArray} {L : List Line} (k : Nat) (hk : k < c.length) : turnC (c.take (k + 1)) cur L = turnC (c.take k) cur L ++ [(creds c[k].code cur L).sum] := by
  unfold turnC
  rw [List.take_succ_eq_append_getElem hk, List.map_append]; rfl
theorem turnD_len (c : List Acc) (cur : ByteArray) (L : List Line) (k : Nat) : (turnD (c.take k) cur L).length ≤ k := by
  unfold turnD
  rw [List.length_map, List.length_take]; omega
theorem turnC_len (c : List Acc) (cur : ByteArray) (L : List Line) (k : Nat) : (turnC (c.take k) cur L).length ≤ k := by
  unfold turnC
  rw [List.length_map, List.length_take]; omega
theorem turn_64 {c : List Acc} {cur : ByteArray} {L : List Line} (h : Bnd 1000000000000000 L) (hl : L.length ≤ 1200) : Ints64 (turnD c cur L) ∧ Ints64 (turnC c cur L) := by
  constructor
  · intro y hy
    obtain ⟨a, _, rfl⟩ := List.mem_map.1 hy
    have := debs_range a.code cur h
    omega
  · intro y hy
    obtain ⟨a, _, rfl⟩ := List.mem_map.1 hy
    have := creds_range a.code cur h
    omega
end Go.Proofs.YthmjkhlndphldaaGreatDoor
