/- What pools give: all together, each. Plain Lean, no program in sight. -/
import Derived.Test.YtmpnbkjcpgnifaaGreatDoorAloB
import Derived.Test.YtmpnbkjcpgnifaaGreatDoorEntX
namespace Go.Proofs.YtmpnbkjcpgnifaaGreatDoor
open Go Go.RowKit
set_option linter.unusedVariables false

/-- what comes of weights: all together is the whole, each on the whole's side -/
theorem shared_law {T : Int} {ws out : List Int} (hw : shE ws = 0) (h : Shared T ws out) : out.length = ws.length ∧ out.sum = T ∧ (0 ≤ T → ∀ x ∈ out, 0 ≤ x) ∧ (T ≤ 0 → ∀ x ∈ out, x ≤ 0) := by
  obtain ⟨ord, hp, ho⟩ := h
  obtain ⟨_, h2, h3⟩ := shE_good hw
  exact shares_law h3 (fun x hx => (h2 x hx).1) rfl hp ho
theorem shared_bnd {T : Int} {ws out : List Int} (hw : shE ws = 0) (h : Shared T ws out) (h1 : -1000000000000000 ≤ T) (h2 : T ≤ 1000000000000000) : ∀ x ∈ out, -1000000000000000 ≤ x ∧ x ≤ 1000000000000000 := by
  obtain ⟨_, hs, hp, hn⟩ := shared_law hw h
  intro x hx
  by_cases h0 : 0 ≤ T
  · have a := hp h0
    have b := (sum_nonneg out a).2 x hx
    have c := a x hx
    omega
  · have a := hn (by omega)
    have b := (sum_nonpos out a).2 x hx
    have c := a x hx
    omega
section
variable {c : List Acc} {l : List Pol} {b : List Bal} {ent per : Int} {dg : Nat → ByteArray} {p : Pol} {ref : ByteArray} {n : Int} {out : List Int}
theorem pool_apart (hp : poolE c p = 0) : p.acc ∉ p.to := by
  obtain ⟨_, _, _, _, _, hto, _⟩ := poolE_0 hp
  intro h
  obtain ⟨i, hi, e⟩ := List.getElem_of_mem h
  have h1 := firstE_0 hto i hi
  rw [toAt_some hi] at h1
  split at h1
  · rename_i h2; exact h2 h1
  · rw [if_pos (.inl (by rw [e]))] at h1
    cases h1
/-- of one pool -/
theorem gave_one {cs : List Core} (h : GaveTo l b ent per dg 1 cs) (hl : 0 < l.length) : (cs = [] ∧ getB b ent l[0].acc l[0].cur = 0) ∨
    (getB b ent l[0].acc l[0].cur ≠ 0 ∧ inB (-1000000000000000) 1000000000000000 (getB b ent l[0].acc l[0].cur) = true ∧ ∃ out, Shared (getB b ent l[0].acc l[0].cur) l[0].ws out ∧ cs = [giveCore ent per (refL ++ dg 0) l[0] (getB b ent l[0].acc l[0].cur) out]) := by
  have hz : ∀ k cs, GaveTo l b ent per dg k cs → k = 0 → cs = [] := by
    intro k cs h hk
    cases h with
    | zero => rfl
    | skip => omega
    | give => omega
  cases h with
  | skip h' _ h0 => exact .inl ⟨hz _ _ h' rfl, h0⟩
  | give h' _ h0 h1 hs => exact .inr ⟨h0, h1, _, hs, by rw [hz _ _ h' rfl]; rfl⟩
/-- a pool that has nothing gives nothing -/
theorem again_none {cs : List Core} (hl : 0 < l.length) (h0 : getB b ent l[0].acc l[0].cur = 0) (h : GaveTo l b ent per dg 1 cs) : cs = [] := by
  rcases gave_one h hl with ⟨h1, _⟩ | ⟨h1, _⟩
  · exact h1
  · exact absurd h0 h1
theorem again_ok (hl : l.length = 1) (h1 : poolsE c l = 0) (h2 : balsE b = 0) (h3 : atEL ent per = 0) (h0 : getB b ent (l[0]'(by omega)).acc (l[0]'(by omega)).cur = 0) : allotE c l b ent per = 0 := by
  rw [allotE_4 h1 h2 h3, hl]
  have hk : 0 < l.length := by omega
  have h := have_0 hk h0
  rw [firstE_succ rfl]
  exact h
theorem allotE_0 (h : allotE c l b ent per = 0) : poolsE c l = 0 ∧ balsE b = 0 ∧ atEL ent per = 0 := by
  by_cases h1 : poolsE c l = 0
  · by_cases h2 : balsE b = 0
    · by_cases h3 : atEL ent per = 0
      · exact ⟨h1, h2, h3⟩
      · rw [allotE_3 h1 h2 h3] at h; exact absurd h h3
    · rw [allotE_2 h1 h2] at h; exact absurd h h2
  · rw [allotE_1 h1] at h; exact absurd h h1
end
end Go.Proofs.YtmpnbkjcpgnifaaGreatDoor

namespace Go.Proofs.YtmpnbkjcpgnifaaGreatDoor
open Go Go.RowKit
set_option linter.unusedVariables false

theorem canon_one_cur (k : ByteArray) : ∀ (l : List Line) (a : Int), (∀ y ∈ l, y.cur = k) → (l.map blank).foldl ins [⟨⟨#[]⟩, k, a⟩] = [⟨⟨#[]⟩, k, a + (l.map (·.amt)).sum⟩]
  | [], a, _ => by simp
  | y :: l, a, h => by
    have hy : y.cur = k := h y (by simp)
    have e : ins [⟨⟨#[]⟩, k, a⟩] (blank y) = [⟨⟨#[]⟩, k, a + y.amt⟩] := by
      have hk : (⟨⟨#[]⟩, k, a⟩ : Line).key = (blank y).key := by show (⟨⟨#[]⟩, k⟩ : Key) = ⟨⟨#[]⟩, y.cur⟩; rw [hy]
      rw [ins, if_neg (by rw [hk, Key.irrefl]; decide), if_pos hk]
      rfl
    rw [List.map_cons, List.foldl_cons, e, canon_one_cur k l _ (fun z hz => h z (by simp [hz])), List.map_cons, List.sum_cons, Int.add_assoc]
theorem canon_cur {k : ByteArray} {y : Line} {l : List Line} (h : ∀ z ∈ y :: l, z.cur = k) : canon ((y :: l).map blank) = [⟨⟨#[]⟩, k, ((y :: l).map (·.amt)).sum⟩] := by
  have hy : y.cur = k := h y (by simp)
  have e : blank y = ⟨⟨#[]⟩, k, y.amt⟩ := by unfold blank; rw [hy]
  rw [canon, List.map_cons, List.foldl_cons, ins, e, canon_one_cur k l _ (fun z hz => h z (by simp [hz])), List.map_cons, List.sum_cons]
section
variable {c : List Acc} {ent per : Int} {p : Pol} {ref : ByteArray} {n : Int} {out : List Int}
theorem giveTo_all (hl : out.length = p.to.length) : ((giveTo p out p.to.length).map (·.amt)).sum = out.sum := by
  unfold giveTo
  rw [List.take_of_length_le (by rw [List.length_zip]; omega)]
  exact giveTo_sum p p.to out (by omega)
theorem give_even (hp : poolE c p = 0) (hs : Shared n p.ws out) : ∀ y, y ∈ canon ((giveCore ent per ref p n out).2.2.2.map blank) → y.amt = 0 := by
  obtain ⟨_, _, _, htw, _, _, hw⟩ := poolE_0 hp
  obtain ⟨h1, h2, _⟩ := shared_law hw hs
  intro y hy
  have e : (giveCore ent per ref p n out).2.2.2 = ⟨p.acc, p.cur, -n⟩ :: giveTo p out p.to.length := rfl
  rw [e, canon_cur (k := p.cur) (fun z hz => by
    rcases List.mem_cons.1 hz with rfl | hz
    · rfl
    · exact (giveTo_mem hz).2.1)] at hy
  obtain rfl := List.mem_singleton.1 hy
  show (-n :: _).sum = 0
  rw [List.sum_cons, giveTo_all (by omega), h2]
  omega
end

/-- stepping down: amounts, what a step does -/
def absSum (l : List Int) : Nat := (l.map Int.natAbs).sum
def addAt (out : List Int) (k : Nat) : List Int → List Int
  | [] => out
  | x :: s => addAt (out.set k (out.getD k 0 + x)) (k + 1) s
theorem addAt_len : ∀ (s : List Int) (out : List Int) (k : Nat), (addAt out k s).length = out.length
  | [], _, _ => rfl
  | x :: s, out, k => by rw [addAt, addAt_len, List.length_set]
theorem addAt_sum : ∀ (s : List Int) (out : List Int) (k : Nat), k + s.length ≤ out.length → (addAt out k s).sum = out.sum + s.sum
  | [], _, _, _ => by simp [addAt]
  | x :: s, out, k, h => by
    rw [List.length_cons] at h
    rw [addAt, addAt_sum s _ _ (by rw [List.length_set]; omega), set_sum out k x (by omega), List.sum_cons, Int.add_assoc]
theorem abs_set (out : List Int) (k : Nat) (x : Int) (h : k < out.length) : absSum (out.set k x) + (out.getD k 0).natAbs = absSum out + x.natAbs := by
  induction out generalizing k with
  | nil => simp at h
  | cons y out ih =>
    cases k with
    | zero => simp [absSum]; omega
    | succ k =>
      have := ih k (by simpa using h)
      simp [absSum] at this ⊢
      omega
theorem addAt_abs : ∀ (s : List Int) (out : List Int) (k : Nat), k + s.length ≤ out.length → absSum (addAt out k s) ≤ absSum out + absSum s
  | [], _, _, _ => by simp [addAt, absSum]
  | x :: s, out, k, h => by
    rw [List.length_cons] at h
    have h1 := addAt_abs s (out.set k (out.getD k 0 + x)) (k + 1) (by rw [List.length_set]; omega)
    have h2 := abs_set out k (out.getD k 0 + x) (by omega)
    have h3 := Int.natAbs_add_le (out.getD k 0) x
    have h4 : absSum (x :: s) = x.natAbs + absSum s := by simp [absSum]
    rw [addAt, h4]
    omega
theorem abs_mem {l : List Int} {x : Int} (h : x ∈ l) : x.natAbs ≤ absSum l := by
  induction l with
  | nil => cases h
  | cons y l ih =>
    have e : absSum (y :: l) = y.natAbs + absSum l := by simp [absSum]
    rw [e]
    rcases List.mem_cons.1 h with rfl | h
    · omega
    · have := ih h; omega
/-- a part of the whole, all on its side, is as far as the whole -/
theorem abs_same {s : List Int} {T : Int} (h : s.sum = T) (hp : 0 ≤ T → ∀ x ∈ s, 0 ≤ x) (hn : T ≤ 0 → ∀ x ∈ s, x ≤ 0) : absSum s = T.natAbs := by
  have key : ∀ l : List Int, ((∀ x ∈ l, 0 ≤ x) → (absSum l : Int) = l.sum) ∧ ((∀ x ∈ l, x ≤ 0) → (absSum l : Int) = -l.sum) := by
    intro l
    induction l with
    | nil => simp [absSum]
    | cons y l ih =>
      have e : absSum (y :: l) = y.natAbs + absSum l := by simp [absSum]
      rw [e, List.sum_cons]
      refine ⟨fun h => ?_, fun h => ?_⟩
      · have := ih.1 (fun x hx => h x (by simp [hx]))
        have := h y (by simp)
        omega
      · have := ih.2 (fun x hx => h x (by simp [hx]))
        have := h y (by simp)
        omega
  by_cases h0 : 0 ≤ T
  · have := (key s).1 (hp h0); omega
  · have := (key s).2 (hn (by omega)); omega
theorem addAt_append : ∀ (s : List Int) (x : Int) (out : List Int) (k : Nat), addAt out k (s ++ [x]) = (addAt out k s).set (k + s.length) ((addAt out k s).getD (k + s.length) 0 + x)
  | [], x, out, k => by simp [addAt]
  | y :: s, x, out, k => by
    rw [List.cons_append, addAt, addAt_append s x _ (k + 1), addAt, List.length_cons, show k + 1 + s.length = k + (s.length + 1) by omega]
theorem addAt_take {s : List Int} {j : Nat} (out : List Int) (k : Nat) (h : j < s.length) : addAt out k (s.take (j + 1)) = (addAt out k (s.take j)).set (k + j) ((addAt out k (s.take j)).getD (k + j) 0 + s[j]) := by
  have hl : (s.take j).length = j := by rw [List.length_take]; omega
  rw [List.take_succ_eq_append_getElem h, addAt_append, hl]
theorem abs_take (s : List Int) (j : Nat) : absSum (s.take j) ≤ absSum s := by
  induction s generalizing j with
  | nil => simp
  | cons y s ih =>
    cases j with
    | zero => simp [absSum]
    | succ j =>
      have := ih j
      simp [absSum] at this ⊢
      omega
theorem abs_bound {a : List Int} {m : Nat} (h : ∀ x ∈ a, x.natAbs ≤ m) : absSum a ≤ a.length * m := by
  induction a with
  | nil => simp [absSum]
  | cons y a ih =>
    have e : absSum (y :: a) = y.natAbs + absSum a := by simp [absSum]
    have h1 := ih (fun x hx => h x (by simp [hx]))
    have h2 := h y (by simp)
    rw [e, List.length_cons, Nat.add_mul]
    omega
theorem sum_abs (a : List Int) : a.sum.natAbs ≤ absSum a := by
  induction a with
  | nil => simp [absSum]
  | cons y a ih =>
    have e : absSum (y :: a) = y.natAbs + absSum a := by simp [absSum]
    have := Int.natAbs_add_le y a.sum
    rw [List.sum_cons, e]
    omega
/-- what a step does -/
theorem step_law {out ws s : List Int} {i : Nat} (hi : i < out.length) (hw : shE ws = 0) (hs : Shared (out.getD i 0) ws s) (hl : i + 1 + ws.length ≤ out.length) :
    (addAt (out.set i 0) (i + 1) s).length = out.length ∧ (addAt (out.set i 0) (i + 1) s).sum = out.sum ∧ absSum (addAt (out.set i 0) (i + 1) s) ≤ absSum out ∧ ∀ j, absSum (addAt (out.set i 0) (i + 1) (s.take j)) ≤ absSum out := by
  obtain ⟨h1, h2, h3, h4⟩ := shared_law hw hs
  have hz := set_sum out i (-(out.getD i 0)) hi
  have e0 : out.getD i 0 + -(out.getD i 0) = 0 := by omega
  rw [e0] at hz
  have ha := abs_set out i 0 hi
  rw [show Int.natAbs 0 = 0 from rfl, Nat.add_zero] at ha
  have hA := abs_same h2 h3 h4
  generalize (out.getD i 0).natAbs = t at ha hA
  refine ⟨by rw [addAt_len, List.length_set], ?_, ?_, fun j => ?_⟩
  · rw [addAt_sum _ _ _ (by rw [List.length_set]; omega), hz, h2]; omega
  · have := addAt_abs s (out.set i 0) (i + 1) (by rw [List.length_set]; omega)
    omega
  · have hj : (s.take j).length ≤ s.length := by rw [List.length_take]; omega
    have := addAt_abs (s.take j) (out.set i 0) (i + 1) (by rw [List.length_set]; omega)
    have := abs_take s j
    omega
end Go.Proofs.YtmpnbkjcpgnifaaGreatDoor

namespace Go.Proofs.YtmpnbkjcpgnifaaGreatDoor
open Go Go.RowKit
set_option linter.unusedVariables false

/-- how many of the first pools have something -/
def cntG (l : List Pol) (b : List Bal) (ent : Int) : Nat → Nat
  | 0 => 0
  | k + 1 => cntG l b ent k + (match l[k]? with | some p => if getB b ent p.acc p.cur = 0 then 0 else 1 | none => 0)
section
variable {c : List Acc} {l : List Pol} {b : List Bal} {ent per : Int} {dg : Nat → ByteArray}
theorem cnt_no {k : Nat} (hk : k < l.length) (h : getB b ent l[k].acc l[k].cur = 0) : cntG l b ent (k + 1) = cntG l b ent k := by
  rw [cntG, List.getElem?_eq_getElem hk]
  simp only [h, if_true, Nat.add_zero]
theorem cnt_yes {k : Nat} (hk : k < l.length) (h : getB b ent l[k].acc l[k].cur ≠ 0) : cntG l b ent (k + 1) = cntG l b ent k + 1 := by
  rw [cntG, List.getElem?_eq_getElem hk]
  simp only [if_neg h]
theorem cnt_mono (k : Nat) : ∀ i, i ≤ k → cntG l b ent i ≤ cntG l b ent k := by
  induction k with
  | zero => intro i hi; obtain rfl : i = 0 := by omega
            exact Nat.le_refl _
  | succ k ih =>
    intro i hi
    by_cases h : i = k + 1
    · subst h; exact Nat.le_refl _
    · have := ih i (by omega)
      rw [cntG]; omega
theorem gave_at {n : Nat} {cs : List Core} (h : GaveTo l b ent per dg n cs) : cs.length = cntG l b ent n ∧ ∀ (i : Nat) (hi : i < l.length), i < n → getB b ent l[i].acc l[i].cur ≠ 0 →
    inB (-1000000000000000) 1000000000000000 (getB b ent l[i].acc l[i].cur) = true ∧ ∃ out, Shared (getB b ent l[i].acc l[i].cur) l[i].ws out ∧ cs[cntG l b ent i]? = some (giveCore ent per (refL ++ dg i) l[i] (getB b ent l[i].acc l[i].cur) out) := by
  induction h with
  | zero => exact ⟨rfl, fun i hi h => absurd h (by omega)⟩
  | skip h hk h0 ih =>
    rename_i k cs
    refine ⟨by rw [ih.1, cnt_no hk h0], fun i hi hin hne => ?_⟩
    by_cases e : i = k
    · subst e; exact absurd h0 hne
    · exact ih.2 i hi (by omega) hne
  | give h hk h0 h1 hs ih =>
    rename_i k cs out
    refine ⟨by rw [List.length_append, ih.1, cnt_yes hk h0]; rfl, fun i hi hin hne => ?_⟩
    by_cases e : i = k
    · subst e
      refine ⟨h1, out, hs, ?_⟩
      rw [List.getElem?_append_right (by rw [ih.1]; exact Nat.le_refl _), ih.1, Nat.sub_self]
      rfl
    · obtain ⟨a1, o2, a2, a3⟩ := ih.2 i hi (by omega) hne
      refine ⟨a1, o2, a2, ?_⟩
      rw [List.getElem?_append_left]
      · exact a3
      · exact (List.getElem?_eq_some_iff.1 a3).1
theorem cnt_lt {n : Nat} {cs : List Core} (h : GaveTo l b ent per dg n cs) {i : Nat} (hi : i < l.length) (hin : i < n) (hne : getB b ent l[i].acc l[i].cur ≠ 0) : cntG l b ent i < cs.length := by
  obtain ⟨_, out, _, h3⟩ := (gave_at h).2 i hi hin hne
  exact (List.getElem?_eq_some_iff.1 h3).1
/-- all of them are small, and even -/
theorem gave_all {w : World} {n : Nat} {cs : List Core} (h : GaveTo l b ent per dg n cs) (hp : ∀ (k : Nat) (hk : k < l.length), poolE c l[k] = 0) :
    ∀ x, x ∈ cs → Bnd 1000000000000000 x.2.2.2 ∧ ∀ y, y ∈ canon (x.2.2.2.map blank) → y.amt = 0 := by
  induction h with
  | zero => intro x hx; cases hx
  | skip h hk h0 ih => exact ih
  | give h hk h0 h1 hs ih =>
    rename_i k cs out
    intro x hx
    rcases List.mem_append.1 hx with hx | hx
    · exact ih x hx
    · obtain rfl := List.mem_singleton.1 hx
      refine ⟨fun y hy => ?_, give_even (hp k hk) hs⟩
      have hn : -1000000000000000 ≤ getB b ent l[k].acc l[k].cur ∧ getB b ent l[k].acc l[k].cur ≤ 1000000000000000 := by simpa [inB] using h1
      obtain ⟨_, _, _, _, _, _, hw⟩ := poolE_0 (hp k hk)
      rcases List.mem_cons.1 hy with rfl | hy
      · show -1000000000000000 ≤ -_ ∧ -_ ≤ 1000000000000000
        omega
      · exact shared_bnd hw hs hn.1 hn.2 _ (giveTo_mem hy).2.2.1
/-- the fact: 8 by 1 and 3 -/
theorem shared_fact {out : List Int} (h : Shared 8 [1, 3] out) : out = [2, 6] := by
  obtain ⟨ord, _, rfl⟩ := h
  have e : (8 - (([1, 3] : List Int).map (shQ 8 (sumTo [1, 3] ([1, 3] : List Int).length))).sum).natAbs = 0 := by decide
  rw [e, List.take_zero]
  rfl
end
end Go.Proofs.YtmpnbkjcpgnifaaGreatDoor
