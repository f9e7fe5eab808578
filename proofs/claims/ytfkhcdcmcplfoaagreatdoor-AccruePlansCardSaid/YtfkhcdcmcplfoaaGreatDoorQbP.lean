/- Numbers as lists of words of 32 bits: plain facts. -/
import Derived.Test.YtfkhcdcmcplfoaaGreatDoorOwn
namespace Go.Proofs.YtfkhcdcmcplfoaaGreatDoor
open Go Go.RowKit
set_option linter.unusedVariables false

/-- the number of a list of words, the least first -/
def qval : List Nat → Nat
  | [] => 0
  | d :: l => d + 4294967296 * qval l
def QDig (l : List Nat) : Prop := ∀ x, x ∈ l → x < 4294967296
/-- the words of a number, without a nought at the end -/
def qdigs (n : Nat) : List Nat := if n = 0 then [] else n % 4294967296 :: qdigs (n / 4294967296)
termination_by n
decreasing_by omega
theorem qdigs_0 : qdigs 0 = [] := by rw [qdigs, if_pos rfl]
theorem qdigs_s {n : Nat} (h : n ≠ 0) : qdigs n = n % 4294967296 :: qdigs (n / 4294967296) := by rw [qdigs, if_neg h]
theorem qval_digs : ∀ n : Nat, qval (qdigs n) = n := by
  intro n
  induction n using Nat.strongRecOn with
  | _ n ih =>
    by_cases h : n = 0
    · subst h; rw [qdigs_0]; rfl
    · rw [qdigs_s h, qval, ih (n / 4294967296) (by omega)]; omega
theorem qdigs_dig : ∀ n : Nat, QDig (qdigs n) := by
  intro n
  induction n using Nat.strongRecOn with
  | _ n ih =>
    by_cases h : n = 0
    · subst h; rw [qdigs_0]; intro x hx; cases hx
    · rw [qdigs_s h]
      intro x hx
      rcases List.mem_cons.1 hx with rfl | hx
      · omega
      · exact ih (n / 4294967296) (by omega) x hx
theorem QDig.tail {d : Nat} {l : List Nat} (h : QDig (d :: l)) : QDig l := fun x hx => h x (List.mem_cons_of_mem _ hx)
theorem qdigs_val : ∀ l : List Nat, QDig l → (∀ d, l.getLast? = some d → d ≠ 0) → qdigs (qval l) = l := by
  intro l
  induction l with
  | nil => intro _ _; exact qdigs_0
  | cons d l ih =>
    intro h hl
    have hd := h d (by simp)
    cases l with
    | nil =>
      have h0 := hl d rfl
      have e : qval [d] = d := by simp [qval]
      rw [e, qdigs_s h0, show d / 4294967296 = 0 from by omega, qdigs_0, show d % 4294967296 = d from by omega]
    | cons e l =>
      have h1 := ih h.tail (fun x hx => hl x (by simpa using hx))
      have h2 : qval (e :: l) ≠ 0 := by
        intro h3
        rw [h3, qdigs_0] at h1
        cases h1
      have h4 : qval (d :: e :: l) = d + 4294967296 * qval (e :: l) := rfl
      rw [h4]
      generalize qval (e :: l) = v at h1 h2
      rw [qdigs_s (by omega), show (d + 4294967296 * v) / 4294967296 = v from by omega, h1, show (d + 4294967296 * v) % 4294967296 = d from by omega]
theorem qval_append (a b : List Nat) : qval (a ++ b) = qval a + 4294967296 ^ a.length * qval b := by
  induction a with
  | nil => simp [qval]
  | cons d a ih =>
    rw [List.cons_append, qval, qval, ih, List.length_cons, Nat.pow_succ, Nat.mul_add, Nat.mul_comm (4294967296 ^ a.length) 4294967296, Nat.mul_assoc]; omega
theorem qval_zero {l : List Nat} (h : ∀ x, x ∈ l → x = 0) : qval l = 0 := by
  induction l with
  | nil => rfl
  | cons d l ih => rw [qval, ih fun x hx => h x (List.mem_cons_of_mem _ hx), h d (by simp)]
theorem qval_lt {l : List Nat} (h : QDig l) : qval l < 4294967296 ^ l.length := by
  induction l with
  | nil => simp [qval]
  | cons d l ih =>
    have h1 := ih h.tail
    have h2 := h d (by simp)
    rw [qval, List.length_cons, Nat.pow_succ]
    omega
theorem qtrim_eq {l : List Nat} {n : Nat} (h : QDig l) (hn : n ≤ l.length) (hz : ∀ (j : Nat) (hj : j < l.length), n ≤ j → l[j] = 0) (hl : ∀ (h0 : 0 < n), l[n - 1]'(by omega) ≠ 0) : l.take n = qdigs (qval l) := by
  have e : qval l = qval (l.take n) := by
    have e1 := qval_append (l.take n) (l.drop n)
    rw [List.take_append_drop] at e1
    rw [e1, qval_zero (l := l.drop n), Nat.mul_zero, Nat.add_zero]
    intro x hx
    obtain ⟨i, hi, rfl⟩ := List.getElem_of_mem hx
    rw [List.getElem_drop]
    exact hz _ _ (by omega)
  rw [e, qdigs_val]
  · exact fun x hx => h x (List.mem_of_mem_take hx)
  · intro d hd
    rw [List.getLast?_eq_getElem?] at hd
    have hlen : (l.take n).length = n := by rw [List.length_take]; omega
    rw [hlen] at hd
    by_cases h0 : 0 < n
    · rw [List.getElem?_take, if_pos (by omega), List.getElem?_eq_getElem (by omega)] at hd
      injection hd with hd
      rw [← hd]
      exact hl h0
    · have : n = 0 := by omega
      subst this
      simp at hd
theorem qdigs_mono : ∀ n m : Nat, m ≤ n → (qdigs m).length ≤ (qdigs n).length := by
  intro n
  induction n using Nat.strongRecOn with
  | _ n ih =>
    intro m hm
    by_cases h : m = 0
    · subst h; rw [qdigs_0]; exact Nat.zero_le _
    · rw [qdigs_s h, qdigs_s (show n ≠ 0 by omega), List.length_cons, List.length_cons]
      have := ih (n / 4294967296) (by omega) (m / 4294967296) (by omega)
      omega

/-- sums, word by word -/
def addL : List Nat → List Nat → Nat → List Nat
  | [], _, c => [c]
  | x :: a, b, c => (x + b.headD 0 + c) % 4294967296 :: addL a b.tail ((x + b.headD 0 + c) / 4294967296)
theorem addL_val : ∀ (a b : List Nat) (c : Nat), b.length ≤ a.length → qval (addL a b c) = qval a + qval b + c := by
  intro a
  induction a with
  | nil =>
    intro b c h
    have : b = [] := List.eq_nil_of_length_eq_zero (by simpa using h)
    subst this
    simp [addL, qval]
  | cons x a ih =>
    intro b c h
    cases b with
    | nil =>
      have h1 := ih [] ((x + 0 + c) / 4294967296) (by simp)
      simp only [addL, qval, List.headD_nil, List.tail_nil] at h1 ⊢
      omega
    | cons y b =>
      have h1 := ih b ((x + y + c) / 4294967296) (by simpa using h)
      simp only [addL, qval, List.headD_cons, List.tail_cons] at h1 ⊢
      omega
theorem QDig.head {b : List Nat} (h : QDig b) : b.headD 0 < 4294967296 := by
  cases b with
  | nil => simp
  | cons y b => exact h y (by simp)
theorem QDig.tail' {b : List Nat} (h : QDig b) : QDig b.tail := fun x hx => h x (List.mem_of_mem_tail hx)
theorem addL_dig : ∀ (a b : List Nat) (c : Nat), QDig a → QDig b → c ≤ 1 → QDig (addL a b c) := by
  intro a
  induction a with
  | nil =>
    intro b c _ _ hc x hx
    have : x = c := by simpa [addL] using hx
    omega
  | cons d a ih =>
    intro b c ha hb hc x hx
    rw [addL] at hx
    rcases List.mem_cons.1 hx with rfl | hx
    · omega
    · have h1 := ha d (by simp)
      have h2 := hb.head
      exact ih b.tail _ ha.tail hb.tail' (by omega) x hx
theorem addL_len : ∀ (a b : List Nat) (c : Nat), (addL a b c).length = a.length + 1 := by
  intro a
  induction a with
  | nil => intro b c; rfl
  | cons x a ih => intro b c; rw [addL, List.length_cons, ih, List.length_cons]
theorem headD_drop (b : List Nat) (i : Nat) : (b.drop i).headD 0 = b.getD i 0 := by
  rw [List.headD_eq_head?_getD, List.head?_drop, List.getD_eq_getElem?_getD]
/-- the words of the sum so far, and what is carried -/
def AddAt (a b : List Nat) (i c : Nat) (pre : List Nat) : Prop := addL a b 0 = pre ++ addL (a.drop i) (b.drop i) c ∧ pre.length = i ∧ c ≤ 1
theorem AddAt.zero (a b : List Nat) : AddAt a b 0 0 [] := ⟨rfl, rfl, by omega⟩
theorem AddAt.succ {a b pre : List Nat} {i c : Nat} (h : AddAt a b i c pre) (ha : QDig a) (hb : QDig b) (hi : i < a.length) :
    AddAt a b (i + 1) ((a[i] + b.getD i 0 + c) / 4294967296) (pre ++ [(a[i] + b.getD i 0 + c) % 4294967296]) := by
  obtain ⟨h1, h2, h3⟩ := h
  refine ⟨?_, by simp [h2], ?_⟩
  · rw [h1, List.drop_eq_getElem_cons hi, addL, headD_drop, List.tail_drop, List.append_assoc]; rfl
  · have e1 := ha a[i] (List.getElem_mem hi)
    have e2 : b.getD i 0 < 4294967296 := by
      rw [← headD_drop]
      exact QDig.head fun x hx => hb x (List.mem_of_mem_drop hx)
    omega
theorem AddAt.end {a b pre : List Nat} {c : Nat} (h : AddAt a b a.length c pre) : addL a b 0 = pre ++ [c] := by
  have := h.1
  rwa [List.drop_length, addL] at this

/-- differences, word by word -/
def subL : List Nat → List Nat → Nat → List Nat
  | [], _, _ => []
  | x :: a, b, c => (x + 4294967296 - b.headD 0 - c) % 4294967296 :: subL a b.tail (if x < b.headD 0 + c then 1 else 0)
theorem subL_val : ∀ (a b : List Nat) (c : Nat), QDig a → QDig b → c ≤ 1 → b.length ≤ a.length → qval b + c ≤ qval a → qval (subL a b c) + qval b + c = qval a := by
  intro a
  induction a with
  | nil =>
    intro b c _ _ _ h hv
    have : b = [] := List.eq_nil_of_length_eq_zero (by simpa using h)
    subst this
    simp [subL, qval] at hv ⊢
    exact hv
  | cons x a ih =>
    intro b c ha hb hc h hv
    have hx := ha x (by simp)
    have hy := hb.head
    have e : qval b = b.headD 0 + 4294967296 * qval b.tail := by cases b <;> simp [qval]
    have hl : b.tail.length ≤ a.length := by rw [List.length_tail]; simp at h; omega
    rw [subL, qval, qval]
    rw [qval] at hv
    by_cases hlt : x < b.headD 0 + c
    · have h1 := ih b.tail 1 ha.tail hb.tail' (by omega) hl (by omega)
      rw [if_pos hlt]
      omega
    · have h1 := ih b.tail 0 ha.tail hb.tail' (by omega) hl (by omega)
      rw [if_neg hlt]
      omega
theorem subL_dig : ∀ (a b : List Nat) (c : Nat), QDig (subL a b c) := by
  intro a
  induction a with
  | nil => intro b c x hx; cases hx
  | cons d a ih =>
    intro b c x hx
    rw [subL] at hx
    rcases List.mem_cons.1 hx with rfl | hx
    · omega
    · exact ih _ _ x hx
theorem subL_len : ∀ (a b : List Nat) (c : Nat), (subL a b c).length = a.length := by
  intro a
  induction a with
  | nil => intro b c; rfl
  | cons x a ih => intro b c; rw [subL, List.length_cons, ih, List.length_cons]
def SubAt (a b : List Nat) (i c : Nat) (pre : List Nat) : Prop := subL a b 0 = pre ++ subL (a.drop i) (b.drop i) c ∧ pre.length = i ∧ c ≤ 1
theorem SubAt.zero (a b : List Nat) : SubAt a b 0 0 [] := ⟨rfl, rfl, by omega⟩
theorem SubAt.succ {a b pre : List Nat} {i c : Nat} (h : SubAt a b i c pre) (hi : i < a.length) :
    SubAt a b (i + 1) (if a[i] < b.getD i 0 + c then 1 else 0) (pre ++ [(a[i] + 4294967296 - b.getD i 0 - c) % 4294967296]) := by
  obtain ⟨h1, h2, h3⟩ := h
  refine ⟨?_, by simp [h2], by split <;> omega⟩
  rw [h1, List.drop_eq_getElem_cons hi, subL, headD_drop, List.tail_drop, List.append_assoc]; rfl
theorem SubAt.end {a b pre : List Nat} {c : Nat} (h : SubAt a b a.length c pre) : subL a b 0 = pre := by
  have := h.1
  rwa [List.drop_length, subL, List.append_nil] at this

/-- the first word from above in which they differ tells -/
theorem qcmp_lt {a b : List Nat} {i : Nat} (ha : QDig a) (hb : QDig b) (hia : i < a.length) (hib : i < b.length) (he : a.drop (i + 1) = b.drop (i + 1)) (hlt : a[i] < b[i]) : qval a < qval b := by
  have ea := qval_append (a.take i) (a.drop i)
  have eb := qval_append (b.take i) (b.drop i)
  rw [List.take_append_drop] at ea eb
  have la : (a.take i).length = i := by rw [List.length_take]; omega
  have lb : (b.take i).length = i := by rw [List.length_take]; omega
  have h1 := qval_lt (l := a.take i) fun x hx => ha x (List.mem_of_mem_take hx)
  rw [la] at ea h1
  rw [lb] at eb
  rw [List.drop_eq_getElem_cons hia, qval, he] at ea
  rw [List.drop_eq_getElem_cons hib, qval] at eb
  have h2 : 4294967296 ^ i * (a[i] + 1 + 4294967296 * qval (b.drop (i + 1))) ≤ 4294967296 ^ i * (b[i] + 4294967296 * qval (b.drop (i + 1))) := Nat.mul_le_mul_left _ (by omega)
  have h3 : 4294967296 ^ i * (a[i] + 1 + 4294967296 * qval (b.drop (i + 1))) = 4294967296 ^ i + 4294967296 ^ i * (a[i] + 4294967296 * qval (b.drop (i + 1))) := by
    rw [show a[i] + 1 + 4294967296 * qval (b.drop (i + 1)) = (a[i] + 4294967296 * qval (b.drop (i + 1))) + 1 from by omega, Nat.mul_add, Nat.mul_one]; omega
  omega
/-- -1, 0 or 1 -/
def qcmp (m n : Nat) : Int := if m < n then -1 else if m = n then 0 else 1
theorem qcmp_len_lt {m n : Nat} (h : (qdigs m).length < (qdigs n).length) : m < n := by
  rcases Nat.lt_or_ge m n with h1 | h1
  · exact h1
  · have := qdigs_mono m n h1
    omega
theorem qdigs_inj {m n : Nat} (h : qdigs m = qdigs n) : m = n := by
  have := congrArg qval h
  rwa [qval_digs, qval_digs] at this
end Go.Proofs.YtfkhcdcmcplfoaaGreatDoor
