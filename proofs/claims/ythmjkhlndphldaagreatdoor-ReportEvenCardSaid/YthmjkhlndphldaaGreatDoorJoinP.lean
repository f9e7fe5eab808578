/- Lines of two entries together: plain facts. -/
import Derived.Test.YthmjkhlndphldaaGreatDoorEntF
namespace Go.Proofs.YthmjkhlndphldaaGreatDoor
open Go Go.RowKit
set_option linter.unusedVariables false

/-- the contrary of a line -/
def neg (x : Line) : Line := ⟨x.acc, x.cur, -x.amt⟩
/-- is it nothing? -/
def isZ (x : Line) : Bool := x.amt == 0

theorem tot_mem {a : List Line} (h : SSort a) (x : Line) (hx : x ∈ a) : tot a x.key = x.amt := by
  induction a with
  | nil => cases hx
  | cons y a ih =>
    have hn : ¬ hasK a y.key := fun hk => by
      have := ssort_head h hk
      rw [Key.irrefl] at this; cases this
    rcases List.mem_cons.1 hx with rfl | hx
    · rw [tot, if_pos rfl, tot_none hn]; omega
    · have hne : y.key ≠ x.key := fun e => hn ⟨x, hx, e.symm⟩
      rw [tot, if_neg hne, ih (List.pairwise_cons.1 h).2 hx]; omega
theorem canon_zero {l : List Line} (h : ∀ k, tot l k = 0) : ∀ x, x ∈ canon l → x.amt = 0 := by
  intro x hx
  rw [← tot_mem (canon_sort l) x hx, canon_tot, h]
theorem canon_notZ {l : List Line} (h : ∀ k, tot l k = 0) : (canon l).any notZ = false := by
  rw [List.any_eq_false]
  intro x hx
  simp [notZ, canon_zero h x hx]
theorem canon_isZ {l : List Line} (h : ∀ k, tot l k = 0) : ∀ x, x ∈ canon l → isZ x = true := by
  intro x hx
  simp [isZ, canon_zero h x hx]
theorem notZ_tot {l : List Line} (h : (canon l).any notZ = false) (k : Key) : tot l k = 0 := by
  by_cases hk : hasK l k
  · obtain ⟨x, hx, e⟩ := (canon_has l k).2 hk
    rw [List.any_eq_false] at h
    have h1 := h x hx
    simp only [notZ, bne_iff_ne, ne_eq, Decidable.not_not] at h1
    rw [← canon_tot, ← e, tot_mem (canon_sort l) x hx, h1]
  · exact tot_none hk
theorem neg_key (x : Line) : (neg x).key = x.key := rfl
theorem tot_neg (l : List Line) (k : Key) : tot (l.map neg) k = - tot l k := by
  induction l with
  | nil => simp [tot]
  | cons x l ih =>
    rw [List.map_cons, tot, tot, ih, neg_key]
    show (if x.key = k then -x.amt else 0) + _ = _
    split <;> omega
theorem tot_both (l : List Line) (k : Key) : tot (l ++ l.map neg) k = 0 := by
  rw [tot_append, tot_neg]; omega
theorem neg_bnd {l : List Line} {m : Int} (h : Bnd m l) : Bnd m (l.map neg) := by
  intro x hx
  obtain ⟨y, hy, rfl⟩ := List.mem_map.1 hx
  have := h y hy
  show -m ≤ -y.amt ∧ -y.amt ≤ m
  omega
theorem Bnd.append {a b : List Line} {m : Int} (h : Bnd m a) (k : Bnd m b) : Bnd m (a ++ b) := by
  intro x hx
  rcases List.mem_append.1 hx with hx | hx
  · exact h x hx
  · exact k x hx
theorem canon_two {x y : Line} (h : x.key = y.key) : (canon [x, y]).length = 1 := by
  simp [canon, ins, h, Key.irrefl]

theorem insL_len (o : List Line) (x : Line) : (ins o x).length ≤ o.length + 1 := by
  induction o with
  | nil => simp [ins]
  | cons y o ih =>
    unfold ins
    split
    · simp only [List.length_cons]; omega
    · split
      · simp
      · simp
theorem foldl_len (l : List Line) : ∀ a, (l.foldl ins a).length ≤ a.length + l.length := by
  induction l with
  | nil => intro a; simp
  | cons x l ih =>
    intro a
    have h1 := ih (ins a x)
    have h2 := insL_len a x
    rw [List.foldl_cons, List.length_cons]; omega
theorem canon_len (l : List Line) : (canon l).length ≤ l.length := by
  have := foldl_len l []
  simpa [canon] using this

theorem linesE_of {c : List Acc} {l : List Line} (h : ∀ x, x ∈ l → lineE c x = 0) : linesE c l = 0 :=
  LinesTo.all (k := l.length) (fun j hj _ => h _ (List.getElem_mem hj)) (Nat.le_refl _)
theorem linesE_append {c : List Acc} {a b : List Line} (h : linesE c a = 0) (k : linesE c b = 0) : linesE c (a ++ b) = 0 := by
  refine linesE_of fun x hx => ?_
  rcases List.mem_append.1 hx with hx | hx
  · exact linesE_0 h x hx
  · exact linesE_0 k x hx

/-- all that is so of a right entry -/
structure Right (c : List Acc) (ref : ByteArray) (ent per : Int) (l : List Line) : Prop where
  chart : chartE c = 0
  ref : refB ref = true
  ent : inB 1 12 ent = true
  per : inB 1 120 per = true
  low : 2 ≤ l.length
  high : l.length ≤ 20
  lines : linesE c l = 0
  zero : (canon (l.map blank)).any notZ = false
theorem entE_right {c : List Acc} {ref : ByteArray} {ent per : Int} {l : List Line} (h : entE c ref ent per l = 0) : Right c ref ent per l := by
  by_cases h1 : chartE c = 0
  · cases h2 : refB ref with
    | false => rw [entE_2 h1 h2] at h; cases h
    | true =>
      cases h3 : inB 1 12 ent with
      | false => rw [entE_3 h1 h2 h3] at h; cases h
      | true =>
        cases h4 : inB 1 120 per with
        | false => rw [entE_4 h1 h2 h3 h4] at h; cases h
        | true =>
          rw [entE_5 h1 h2 h3 h4] at h
          by_cases h5 : l.length < 2
          · rw [if_pos h5] at h; cases h
          · rw [if_neg h5] at h
            by_cases h6 : 20 < l.length
            · rw [if_pos h6] at h; cases h
            · rw [if_neg h6] at h
              by_cases h7 : linesE c l = 0
              · rw [if_neg (by simpa using h7)] at h
                cases h8 : (canon (l.map blank)).any notZ with
                | true => rw [if_pos h8] at h; cases h
                | false => exact ⟨h1, h2, h3, h4, by omega, by omega, h7, h8⟩
              · rw [if_pos h7] at h; exact absurd h h7
  · rw [entE_1 h1] at h; exact absurd h h1
theorem right_entE {c : List Acc} {ref : ByteArray} {ent per : Int} {l : List Line} (h : Right c ref ent per l) : entE c ref ent per l = 0 := by
  have h5 := h.low
  have h6 := h.high
  rw [entE_5 h.chart h.ref h.ent h.per, if_neg (by omega), if_neg (by omega), if_neg (by simpa using h.lines), if_neg (by rw [h.zero]; decide)]
theorem Right.join {c : List Acc} {ref ref' : ByteArray} {ent per ent' per' : Int} {a b : List Line} (h : Right c ref ent per a) (k : Right c ref' ent' per' b) (hl : a.length + b.length ≤ 20) : Right c ref ent per (a ++ b) := by
  have h5 := h.low
  refine ⟨h.chart, h.ref, h.ent, h.per, by rw [List.length_append]; omega, by rw [List.length_append]; omega, linesE_append h.lines k.lines, ?_⟩
  refine canon_notZ fun key => ?_
  rw [List.map_append, tot_append, notZ_tot h.zero, notZ_tot k.zero]; omega
theorem Right.bnd {c : List Acc} {ref : ByteArray} {ent per : Int} {l : List Line} (h : Right c ref ent per l) : Bnd 1000000000000000 l := by
  intro x hx
  have := (lineE_ok (linesE_0 h.lines x hx)).2.2.2
  simp only [farB, inB, Bool.not_eq_false', Bool.and_eq_true, decide_eq_true_eq] at this
  exact this
theorem small_both {l : List Line} (h : 2 * l.length ≤ 20) (hb : Bnd 1000000000000000 l) : smallE (l ++ l.map neg) = 0 :=
  smallE_of (by rw [List.length_append, List.length_map]; omega) (hb.append (neg_bnd hb))

def negTo (l : List Line) (k : Nat) : List Line := (l.take k).map neg ++ l.drop k
theorem negTo_len (l : List Line) (k : Nat) : (negTo l k).length = l.length := by
  unfold negTo
  rw [List.length_append, List.length_map, List.length_take, List.length_drop]; omega
theorem negTo_get (l : List Line) (k : Nat) (h : k < l.length) : (negTo l k)[k]'(by rw [negTo_len]; exact h) = l[k] := by
  unfold negTo
  rw [List.getElem_append_right (by simp; omega)]
  simp [Nat.min_eq_left (Nat.le_of_lt h)]
theorem negTo_succ (l : List Line) (k : Nat) (h : k < l.length) : negTo l (k + 1) = (negTo l k).set k (neg l[k]) := by
  unfold negTo
  have hk : ((l.take k).map neg).length = k := by simp; omega
  rw [List.set_append_right _ _ (by omega), hk, Nat.sub_self, List.drop_eq_getElem_cons h, List.set_cons_zero, List.take_succ_eq_append_getElem h, List.map_append, List.append_assoc]
  rfl
theorem negTo_all (l : List Line) : negTo l l.length = l.map neg := by simp [negTo]
end Go.Proofs.YthmjkhlndphldaaGreatDoor
