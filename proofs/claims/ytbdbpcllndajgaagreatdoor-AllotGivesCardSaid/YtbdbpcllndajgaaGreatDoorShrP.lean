/- Plain facts about what is given out by weights. -/
import Derived.Test.YtbdbpcllndajgaaGreatDoorBigY
namespace Go.Proofs.YtbdbpcllndajgaaGreatDoor
open Go Go.RowKit
set_option linter.unusedVariables false

/-- a share, rounded to 0; and what is cut off -/
def shQ (T S w : Int) : Int := (T * w).tdiv S
def shM (T S w : Int) : Nat := ((T * w).tmod S).natAbs
theorem sh_step {T S w : Int} (hS : 0 < S) (hw : 0 ≤ w) : (0 ≤ T → 0 ≤ T * w - S * shQ T S w ∧ T * w - S * shQ T S w ≤ S - 1 ∧ 0 ≤ shQ T S w) ∧ (T ≤ 0 → T * w - S * shQ T S w ≤ 0 ∧ -(S - 1) ≤ T * w - S * shQ T S w ∧ shQ T S w ≤ 0) := by
  unfold shQ
  constructor
  · intro hT
    have h1 : 0 ≤ T * w := Int.mul_nonneg hT hw
    have h2 := Int.tdiv_eq_ediv_of_nonneg (b := S) h1
    rw [h2]
    have h3 := Int.emod_nonneg (T * w) (show S ≠ 0 by omega)
    have h4 := Int.emod_lt_of_pos (T * w) hS
    have h5 := Int.mul_ediv_add_emod (T * w) S
    have h6 : 0 ≤ T * w / S := Int.ediv_nonneg h1 (by omega)
    omega
  · intro hT
    have h1 : 0 ≤ -T * w := Int.mul_nonneg (by omega) hw
    have e : (T * w).tdiv S = -((-T * w) / S) := by
      rw [← Int.tdiv_eq_ediv_of_nonneg (b := S) h1, Int.neg_mul, Int.neg_tdiv, Int.neg_neg]
    rw [e]
    have h3 := Int.emod_nonneg (-T * w) (show S ≠ 0 by omega)
    have h4 := Int.emod_lt_of_pos (-T * w) hS
    have h5 := Int.mul_ediv_add_emod (-T * w) S
    have h6 : 0 ≤ -T * w / S := Int.ediv_nonneg h1 (by omega)
    rw [Int.neg_mul] at h1 h3 h4 h5 h6 ⊢
    rw [Int.mul_neg]
    omega
theorem shQ_bound {T S w : Int} (hS : 0 < S) (hw : 0 ≤ w) (hwS : w ≤ S) : (shQ T S w).natAbs ≤ T.natAbs := by
  obtain ⟨h1, h2⟩ := sh_step (T := T) hS hw
  rcases Int.le_total 0 T with h | h
  · obtain ⟨a, b, c⟩ := h1 h
    have h3 : T * w ≤ T * S := Int.mul_le_mul_of_nonneg_left hwS h
    have h4 : S * shQ T S w ≤ S * T := by rw [Int.mul_comm S T]; omega
    have := Int.le_of_mul_le_mul_left h4 hS
    omega
  · obtain ⟨a, b, c⟩ := h2 h
    have h3 : T * S ≤ T * w := by
      have h5 : -T * w ≤ -T * S := Int.mul_le_mul_of_nonneg_left hwS (by omega)
      rw [Int.neg_mul, Int.neg_mul] at h5
      omega
    have h4 : S * T ≤ S * shQ T S w := by rw [Int.mul_comm S T]; omega
    have := Int.le_of_mul_le_mul_left h4 hS
    omega
theorem sumTo_map_step (T S : Int) (ws : List Int) (k : Nat) (h : k < ws.length) : sumTo (ws.map (shQ T S)) (k + 1) = sumTo (ws.map (shQ T S)) k + shQ T S ws[k] := by
  rw [sumTo_succ _ k (by simpa using h)]
  simp
/-- what is left over -/
theorem sh_left {T S : Int} {ws : List Int} (hS : 0 < S) (hw : ∀ x ∈ ws, 0 ≤ x) : ∀ k, k ≤ ws.length →
    (0 ≤ T → 0 ≤ T * sumTo ws k - S * sumTo (ws.map (shQ T S)) k ∧ T * sumTo ws k - S * sumTo (ws.map (shQ T S)) k ≤ k * (S - 1)) ∧ (T ≤ 0 → T * sumTo ws k - S * sumTo (ws.map (shQ T S)) k ≤ 0 ∧ -(k * (S - 1)) ≤ T * sumTo ws k - S * sumTo (ws.map (shQ T S)) k) := by
  intro k
  induction k with
  | zero =>
    intro _
    simp [sumTo]
  | succ k ih =>
    intro hk
    have h1 := ih (by omega)
    obtain ⟨s1, s2⟩ := sh_step (T := T) (w := ws[k]) hS (hw _ (List.getElem_mem _))
    rw [sumTo_succ ws k (by omega), sumTo_map_step T S ws k (by omega), Int.mul_add, Int.mul_add]
    rw [show ((k + 1 : Nat) : Int) * (S - 1) = (k : Int) * (S - 1) + (S - 1) by rw [Int.natCast_add, Int.add_mul]; simp]
    constructor
    · intro hT
      have a := h1.1 hT
      have b := s1 hT
      omega
    · intro hT
      have a := h1.2 hT
      have b := s2 hT
      omega
theorem sh_left_end {T S : Int} {ws : List Int} (hS : 0 < S) (hw : ∀ x ∈ ws, 0 ≤ x) (hs : sumTo ws ws.length = S) :
    (0 ≤ T → 0 ≤ T - sumTo (ws.map (shQ T S)) ws.length) ∧ (T ≤ 0 → T - sumTo (ws.map (shQ T S)) ws.length ≤ 0) ∧ (T - sumTo (ws.map (shQ T S)) ws.length).natAbs < ws.length := by
  have h := sh_left (T := T) hS hw ws.length (Nat.le_refl _)
  rw [hs] at h
  generalize sumTo (ws.map (shQ T S)) ws.length = Q at h ⊢
  have e : T * S - S * Q = S * (T - Q) := by rw [Int.mul_sub, Int.mul_comm]
  rw [e] at h
  have hn : 0 < ws.length := by
    rcases Nat.eq_zero_or_pos ws.length with h0 | h0
    · rw [h0] at hs; simp [sumTo] at hs; omega
    · exact h0
  have p1 : 0 ≤ T → 0 ≤ T - Q ∧ T - Q < ws.length := by
    intro hT
    obtain ⟨a, b⟩ := h.1 hT
    constructor
    · apply Int.le_of_mul_le_mul_left (a := S) _ hS
      rw [Int.mul_zero]; exact a
    · apply Int.lt_of_mul_lt_mul_left (a := S) _ (by omega)
      have : (ws.length : Int) * (S - 1) = S * (ws.length : Int) - (ws.length : Int) := by rw [Int.mul_sub, Int.mul_comm, Int.mul_one]
      omega
  have p2 : T ≤ 0 → T - Q ≤ 0 ∧ -(ws.length : Int) < T - Q := by
    intro hT
    obtain ⟨a, b⟩ := h.2 hT
    constructor
    · apply Int.le_of_mul_le_mul_left (a := S) _ hS
      rw [Int.mul_zero]; exact a
    · apply Int.lt_of_mul_lt_mul_left (a := S) _ (by omega)
      have : (ws.length : Int) * (S - 1) = S * (ws.length : Int) - (ws.length : Int) := by rw [Int.mul_sub, Int.mul_comm, Int.mul_one]
      rw [Int.mul_neg]
      omega
  refine ⟨fun hT => (p1 hT).1, fun hT => (p2 hT).1, ?_⟩
  rcases Int.le_total 0 T with hT | hT
  · have := p1 hT; omega
  · have := p2 hT; omega
/-- one more, or less, at some of them -/
def bump (s : Int) : List Int → List Nat → List Int
  | o, [] => o
  | o, i :: r => bump s (o.set i (o.getD i 0 + s)) r
theorem bump_len (s : Int) : ∀ (l : List Nat) (o : List Int), (bump s o l).length = o.length
  | [], _ => rfl
  | i :: r, o => by rw [bump, bump_len s r, List.length_set]
theorem bump_append (s : Int) : ∀ (l : List Nat) (o : List Int) (i : Nat), bump s o (l ++ [i]) = (bump s o l).set i ((bump s o l).getD i 0 + s)
  | [], _, _ => rfl
  | j :: r, o, i => by rw [List.cons_append, bump, bump, bump_append s r]
theorem bump_take (s : Int) (l : List Nat) (o : List Int) (k : Nat) (hk : k < l.length) : bump s o (l.take (k + 1)) = (bump s o (l.take k)).set l[k] ((bump s o (l.take k)).getD l[k] 0 + s) := by
  rw [List.take_succ_eq_append_getElem hk, bump_append]
theorem sumTo_eq_sum (l : List Int) : sumTo l l.length = l.sum := by unfold sumTo; rw [List.take_length]
theorem set_sum : ∀ (o : List Int) (i : Nat) (s : Int), i < o.length → (o.set i (o.getD i 0 + s)).sum = o.sum + s
  | [], i, _, h => by simp at h
  | a :: o, 0, s, _ => by simp; omega
  | a :: o, i + 1, s, h => by
    have := set_sum o i s (by simpa using h)
    simp only [List.set_cons_succ, List.getD_cons_succ, List.sum_cons]
    omega
theorem bump_sum (s : Int) : ∀ (l : List Nat) (o : List Int), (∀ i ∈ l, i < o.length) → (bump s o l).sum = o.sum + s * l.length
  | [], o, _ => by simp [bump]
  | i :: r, o, h => by
    rw [bump, bump_sum s r _ (fun j hj => by rw [List.length_set]; exact h j (List.mem_cons_of_mem _ hj)), set_sum o i s (h i List.mem_cons_self), List.length_cons]
    rw [Int.natCast_add, Int.mul_add]
    simp
    omega
theorem set_all {P : Int → Prop} {o : List Int} {i : Nat} {x : Int} (h : ∀ y ∈ o, P y) (hx : P x) : ∀ y ∈ o.set i x, P y := by
  intro y hy
  rcases List.mem_or_eq_of_mem_set hy with h1 | h1
  · exact h y h1
  · rw [h1]; exact hx
theorem bump_all {P : Int → Prop} (s : Int) (h0 : P 0) (hs : ∀ x, P x → P (x + s)) : ∀ (l : List Nat) (o : List Int), (∀ y ∈ o, P y) → ∀ y ∈ bump s o l, P y
  | [], o, h => h
  | i :: r, o, h => by
    rw [bump]
    refine bump_all s h0 hs r _ (set_all h (hs _ ?_))
    rw [List.getD_eq_getElem?_getD]
    cases hi : o[i]? with
    | none => exact h0
    | some x => exact h x (List.mem_of_getElem? hi)
theorem sum_nonneg : ∀ (l : List Int), (∀ x ∈ l, 0 ≤ x) → 0 ≤ l.sum ∧ ∀ x ∈ l, x ≤ l.sum
  | [], _ => by simp
  | a :: l, h => by
    obtain ⟨h1, h2⟩ := sum_nonneg l fun x hx => h x (List.mem_cons_of_mem _ hx)
    have h3 := h a List.mem_cons_self
    rw [List.sum_cons]
    refine ⟨by omega, fun x hx => ?_⟩
    rcases List.mem_cons.1 hx with rfl | hx
    · omega
    · have := h2 x hx; omega
theorem sum_nonpos : ∀ (l : List Int), (∀ x ∈ l, x ≤ 0) → l.sum ≤ 0 ∧ ∀ x ∈ l, l.sum ≤ x
  | [], _ => by simp
  | a :: l, h => by
    obtain ⟨h1, h2⟩ := sum_nonpos l fun x hx => h x (List.mem_cons_of_mem _ hx)
    have h3 := h a List.mem_cons_self
    rw [List.sum_cons]
    refine ⟨by omega, fun x hx => ?_⟩
    rcases List.mem_cons.1 hx with rfl | hx
    · omega
    · have := h2 x hx; omega
theorem sign_mulS (x : Int) : Int.sign x * (x.natAbs : Int) = x := by
  rw [Int.sign_mul_natAbs]
/-- the shares: all together what is given out, none on the other side -/
theorem shares_law {T S : Int} {ws : List Int} {ord : List Nat} (hS : 0 < S) (hw : ∀ x ∈ ws, 0 ≤ x) (hs : sumTo ws ws.length = S) (hp : ord.Perm (List.range ws.length)) {out : List Int}
    (ho : out = bump (T - (ws.map (shQ T S)).sum).sign (ws.map (shQ T S)) (ord.take (T - (ws.map (shQ T S)).sum).natAbs)) :
    out.length = ws.length ∧ out.sum = T ∧ (0 ≤ T → ∀ x ∈ out, 0 ≤ x) ∧ (T ≤ 0 → ∀ x ∈ out, x ≤ 0) := by
  have hl : (ws.map (shQ T S)).length = ws.length := by simp
  obtain ⟨e1, e2, e3⟩ := sh_left_end (T := T) hS hw hs
  rw [← hl, sumTo_eq_sum] at e1 e2 e3
  rw [hl] at e3
  have hol : ord.length = ws.length := by rw [hp.length_eq, List.length_range]
  have hlt : ∀ i ∈ ord.take (T - (ws.map (shQ T S)).sum).natAbs, i < (ws.map (shQ T S)).length := by
    intro i hi
    rw [hl]
    exact List.mem_range.1 (hp.mem_iff.1 (List.mem_of_mem_take hi))
  have hstep := fun (x : Int) (hx : x ∈ ws) => sh_step (T := T) hS (hw x hx)
  refine ⟨by rw [ho, bump_len, hl], ?_, ?_, ?_⟩
  · rw [ho, bump_sum _ _ _ hlt, List.length_take, Nat.min_eq_left (by omega), sign_mulS]
    omega
  · intro hT
    rw [ho]
    refine bump_all (P := fun x => 0 ≤ x) _ (Int.le_refl _) (fun x hx => ?_) _ _ ?_
    · have := e1 hT
      have : 0 ≤ (T - (ws.map (shQ T S)).sum).sign := Int.sign_nonneg_iff.2 this
      show 0 ≤ x + _
      omega
    · intro y hy
      obtain ⟨x, hx, rfl⟩ := List.mem_map.1 hy
      exact ((hstep x hx).1 hT).2.2
  · intro hT
    rw [ho]
    refine bump_all (P := fun x => x ≤ 0) _ (Int.le_refl _) (fun x hx => ?_) _ _ ?_
    · have := e2 hT
      have : (T - (ws.map (shQ T S)).sum).sign ≤ 0 := Int.sign_nonpos_iff.2 this
      show x + _ ≤ 0
      omega
    · intro y hy
      obtain ⟨x, hx, rfl⟩ := List.mem_map.1 hy
      exact ((hstep x hx).2 hT).2.2
end Go.Proofs.YtbdbpcllndajgaaGreatDoor
