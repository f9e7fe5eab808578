/- Numbers as lists of words of 32 bits: plain facts. -/
import Derived.Test.YtbdbpcllndajgaaGreatDoorOwn
namespace Go.Proofs.YtbdbpcllndajgaaGreatDoor
open Go Go.RowKit
set_option linter.unusedVariables false

/-- the number of a list of words, the least first -/
def qval : List Nat → Nat
  | [] => 0
  | d :: l => d + 4294967296 * qval l
def QDig (l : List Nat) : Prop := ∀ x, x ∈ l → x < 4294967296
/-- the words of a number, without a nought at the end -/
def qdigs (n : Nat) : List Nat := if n = 0 then [] else n % 4294967296 :: qdigs (n / 4294967296)
termination_by n
decreasing_by omega
theorem qdigs_0 : qdigs 0 = [] := by rw [qdigs, if_pos rfl]
theorem qdigs_s {n : Nat} (h : n ≠ 0) : qdigs n = n % 4294967296 :: qdigs (n / 4294967296) := by rw [qdigs, if_neg h]
theorem qval_digs : ∀ n : Nat, qval (qdigs n) = n := by
  intro n
  induction n using Nat.strongRecOn with
  | _ n ih =>
    by_cases h : n = 0
    · subst h; rw [qdigs_0]; rfl
    · rw [qdigs_s h, qval, ih (n / 4294967296) (by omega)]; omega
theorem qdigs_dig : ∀ n : Nat, QDig (qdigs n) := by
  intro n
  induction n using Nat.strongRecOn with
  | _ n ih =>
    by_cases h : n = 0
    · subst h; rw [qdigs_0]; intro x hx; cases hx
    · rw [qdigs_s h]
      intro x hx
      rcases List.mem_cons.1 hx with rfl | hx
      · omega
      · exact ih (n / 4294967296) (by omega) x hx
theorem QDig.tail {d : Nat} {l : List Nat} (h : QDig (d :: l)) : QDig l := fun x hx => h x (List.mem_cons_of_mem _ hx)
theorem qdigs_val : ∀ l : List Nat, QDig l → (∀ d, l.getLast? = some d → d ≠ 0) → qdigs (qval l) = l := by
  intro l
  induction l with
  | nil => intro _ _; exact qdigs_0
  | cons d l ih =>
    intro h hl
    have hd := h d (by simp)
    cases l with
    | nil =>
      have h0 := hl d rfl
      have e : qval [d] = d := by simp [qval]
      rw [e, qdigs_s h0, show d / 4294967296 = 0 from by omega, qdigs_0, show d % 4294967296 = d from by omega]
    | cons e l =>
      have h1 := ih h.tail (fun x hx => hl x (by simpa using hx))
      have h2 : qval (e :: l) ≠ 0 := by
        intro h3
        rw [h3, qdigs_0] at h1
        cases h1
      have h4 : qval (d :: e :: l) = d + 4294967296 * qval (e :: l) := rfl
      rw [h4]
      generalize qval (e :: l) = v at h1 h2
      rw [qdigs_s (by omega), show (d + 4294967296 * v) / 4294967296 = v from by omega, h1, show (d + 4294967296 * v) % 4294967296 = d from by omega]
theorem qval_append (a b : List Nat) : qval (a ++ b) = qval a + 4294967296 ^ a.length * qval b := by
  induction a with
  | nil => simp [qval]
  | cons d a ih =>
    rw [List.cons_append, qval, qval, ih, List.length_cons, Nat.pow_succ, Nat.mul_add, Nat.mul_comm (4294967296 ^ a.length) 4294967296, Nat.mul_assoc]; omega
theorem qval_zero {l : List Nat} (h : ∀ x, x ∈ l → x = 0) : qval l = 0 := by
  induction l with
  | nil => rfl
  | cons d l ih => rw [qval, ih fun x hx => h x (List.mem_cons_of_mem _ hx), h d (by simp)]
theorem qval_lt {l : List Nat} (h : QDig l) : qval l < 4294967296 ^ l.length := by
  induction l with
  | nil => simp [qval]
  | cons d l ih =>
    have h1 := ih h.tail
    have h2 := h d (by simp)
    rw [qval, List.length_cons, Nat.pow_succ]
    omega
theorem qtrim_eq {l : List Nat} {n : Nat} (h : QDig l) (hn : n ≤ l.length) (hz : ∀ (j : Nat) (hj : j < l.length), n ≤ j → l[j] = 0) (hl : ∀ (h0 : 0 < n), l[n - 1]'(by omega) ≠ 0) : l.take n = qdigs (qval l) := by
  have e : qval l = qval (l.take n) := by
    have e1 := qval_append (l.take n) (l.drop n)
    rw [List.take_append_drop] at e1
    rw [e1, qval_zero (l := l.drop n), Nat.mul_zero, Nat.add_zero]
    intro x hx
    obtain ⟨i, hi, rfl⟩ := List.getElem_of_mem hx
    rw [List.getElem_drop]
    exact hz _ _ (by omega)
  rw [e, qdigs_val]
  · exact fun x hx => h x (List.mem_of_mem_take hx)
  · intro d hd
    rw [List.getLast?_eq_getElem?] at hd
    have hlen : (l.take n).length = n := by rw [List.length_take]; omega
    rw [hlen] at hd
    by_cases h0 : 0 < n
    · rw [List.getElem?_take, if_pos (by omega), List.getElem?_eq_getElem (by omega)] at hd
      injection hd with hd
      rw [← hd]
      exact hl h0
    · have : n = 0 := by omega
      subst this
      simp at hd
theorem qdigs_mono : ∀ n m : Nat, m ≤ n → (qdigs m).length ≤ (qdigs n).length := by
  intro n
  induction n using Nat.strongRecOn with
  | _ n ih =>
    intro m hm
    by_cases h : m = 0
    · subst h; rw [qdigs_0]; exact Nat.zero_le _
    · rw [qdigs_s h, qdigs_s (show n ≠ 0 by omega), List.length_cons, List.length_cons]
      have := ih (n / 4294967296) (by omega) (m / 4294967296) (by omega)
      omega

/-- sums, word by word -/
def addL : List Nat → List Nat → Nat → List Nat
  | [], _, c => [c]
  | x :: a, b, c => (x + b.headD 0 + c) % 4294967296 :: addL a b.tail ((x + b.headD 0 + c) / 4294967296)
theorem addL_val : ∀ (a b : List Nat) (c : Nat), b.length ≤ a.length → qval (addL a b c) = qval a + qval b + c := by
  intro a
  induction a with
  | nil =>
    intro b c h
    have : b = [] := List.eq_nil_of_length_eq_zero (by simpa using h)
    subst this
    simp [addL, qval]
  | cons x a ih =>
    intro b c h
    cases b with
    | nil =>
      have h1 := ih [] ((x + 0 + c) / 4294967296) (by simp)
      simp only [addL, qval, List.headD_nil, List.tail_nil] at h1 ⊢
      omega
    | cons y b =>
      have h1 := ih b ((x + y + c) / 4294967296) (by simpa using h)
      simp only [addL, qval, List.headD_cons, List.tail_cons] at h1 ⊢
      omega
theorem QDig.head {b : List Nat} (h : QDig b) : b.headD 0 < 4294967296 := by
  cases b with
  | nil => simp
  | cons y b => exact h y (by simp)
theorem QDig.tail' {b : List Nat} (h : QDig b) : QDig b.tail := fun x hx => h x (List.mem_of_mem_tail hx)
theorem addL_dig : ∀ (a b : List Nat) (c : Nat), QDig a → QDig b → c ≤ 1 → QDig (addL a b c) := by
  intro a
  induction a with
  | nil =>
    intro b c _ _ hc x hx
    have : x = c := by simpa [addL] using hx
    omega
  | cons d a ih =>
    intro b c ha hb hc x hx
    rw [addL] at hx
    rcases List.mem_cons.1 hx with rfl | hx
    · omega
    · have h1 := ha d (by simp)
      have h2 := hb.head
      exact ih b.tail _ ha.tail hb.tail' (by omega) x hx
theorem addL_len : ∀ (a b : List Nat) (c : Nat), (addL a b c).length = a.length + 1 := by
  intro a
  induction a with
  | nil => intro b c; rfl
  | cons x a ih => intro b c; rw [addL, List.length_cons, ih, List.length_cons]
theorem headD_drop (b : List Nat) (i : Nat) : (b.drop i).headD 0 = b.getD i 0 := by
  rw [List.headD_eq_head?_getD, List.head?_drop, List.getD_eq_getElem?_getD]
/-- the words of the sum so far, and what is carried -/
def AddAt (a b : List Nat) (i c : Nat) (pre : List Nat) : Prop := addL a b 0 = pre ++ addL (a.drop i) (b.drop i) c ∧ pre.length = i ∧ c ≤ 1
theorem AddAt.zero (a b : List Nat) : AddAt a b 0 0 [] := ⟨rfl, rfl, by omega⟩
theorem AddAt.succ {a b pre : List Nat} {i c : Nat} (h : AddAt a b i c pre) (ha : QDig a) (hb : QDig b) (hi : i < a.length) :
    AddAt a b (i + 1) ((a[i] + b.getD i 0 + c) / 4294967296) (pre ++ [(a[i] + b.getD i 0 + c) % 4294967296]) := by
  obtain ⟨h1, h2, h3⟩ := h
  refine ⟨?_, by simp [h2], ?_⟩
  · rw [h1, List.drop_eq_getElem_cons hi, addL, headD_drop, List.tail_drop, List.append_assoc]; rfl
  · have e1 := ha a[i] (List.getElem_mem hi)
    have e2 : b.getD i 0 < 4294967296 := by
      rw [← headD_drop]
      exact QDig.head fun x hx => hb x (List.mem_of_mem_drop hx)
    omega
theorem AddAt.end {a b pre : List Nat} {c : Nat} (h : AddAt a b a.length c pre) : addL a b 0 = pre ++ [c] := by
  have := h.1
  rwa [List.drop_length, addL] at this

/-- differences, word by word -/
def subL : List Nat → List Nat → Nat → List Nat
  | [], _, _ => []
  | x :: a, b, c => (x + 4294967296 - b.headD 0 - c) % 4294967296 :: subL a b.tail (if x < b.headD 0 + c then 1 else 0)
theorem subL_val : ∀ (a b : List Nat) (c : Nat), QDig a → QDig b → c ≤ 1 → b.length ≤ a.length → qval b + c ≤ qval a → qval (subL a b c) + qval b + c = qval a := by
  intro a
  induction a with
  | nil =>
    intro b c _ _ _ h hv
    have : b = [] := List.eq_nil_of_length_eq_zero (by simpa using h)
    subst this
    simp [subL, qval] at hv ⊢
    exact hv
  | cons x a ih =>
    intro b c ha hb hc h hv
    have hx := ha x (by simp)
    have hy := hb.head
    have e : qval b = b.headD 0 + 4294967296 * qval b.tail := by cases b <;> simp [qval]
    have hl : b.tail.length ≤ a.length := by rw [List.length_tail]; simp at h; omega
    rw [subL, qval, qval]
    rw [qval] at hv
    by_cases hlt : x < b.headD 0 + c
    · have h1 := ih b.tail 1 ha.tail hb.tail' (by omega) hl (by omega)
      rw [if_pos hlt]
      omega
    · have h1 := ih b.tail 0 ha.tail hb.tail' (by omega) hl (by omega)
      rw [if_neg hlt]
      omega
theorem subL_dig : ∀ (a b : List Nat) (c : Nat), QDig (subL a b c) := by
  intro a
  induction a with
  | nil => intro b c x hx; cases hx
  | cons d a ih =>
    intro b c x hx
    rw [subL] at hx
    rcases List.mem_cons.1 hx with rfl | hx
    · omega
    · exact ih _ _ x hx
theorem subL_len : ∀ (a b : List Nat) (c : Nat), (subL a b c).length = a.length := by
  intro a
  induction a with
  | nil => intro b c; rfl
  | cons x a ih => intro b c; rw [subL, List.length_cons, ih, List.length_cons]
def SubAt (a b : List Nat) (i c : Nat) (pre : List Nat) : Prop := subL a b 0 = pre ++ subL (a.drop i) (b.drop i) c ∧ pre.length = i ∧ c ≤ 1
theorem SubAt.zero (a b : List Nat) : SubAt a b 0 0 [] := ⟨rfl, rfl, by omega⟩
theorem SubAt.succ {a b pre : List Nat} {i c : Nat} (h : SubAt a b i c pre) (hi : i < a.length) :
    SubAt a b (i + 1) (if a[i] < b.getD i 0 + c then 1 else 0) (pre ++ [(a[i] + 4294967296 - b.getD i 0 - c) % 4294967296]) := by
  obtain ⟨h1, h2, h3⟩ := h
  refine ⟨?_, by simp [h2], by split <;> omega⟩
  rw [h1, List.drop_eq_getElem_cons hi, subL, headD_drop, List.tail_drop, List.append_assoc]; rfl
theorem SubAt.end {a b pre : List Nat} {c : Nat} (h : SubAt a b a.length c pre) : subL a b 0 = pre := by
  have := h.1
  rwa [List.drop_length, subL, List.append_nil] at this

/-- the first word from above in which they differ tells -/
theorem qcmp_lt {a b : List Nat} {i : Nat} (ha : QDig a) (hb : QDig b) (hia : i < a.length) (hib : i < b.length) (he : a.drop (i + 1) = b.drop (i + 1)) (hlt : a[i] < b[i]) : qval a < qval b := by
  have ea := qval_append (a.take i) (a.drop i)
  have eb := qval_append (b.take i) (b.drop i)
  rw [List.take_append_drop] at ea eb
  have la : (a.take i).length = i := by rw [List.length_take]; omega
  have lb : (b.take i).length = i := by rw [List.length_take]; omega
  have h1 := qval_lt (l := a.take i) fun x hx => ha x (List.mem_of_mem_take hx)
  rw [la] at ea h1
  rw [lb] at eb
  rw [List.drop_eq_getElem_cons hia, qval, he] at ea
  rw [List.drop_eq_getElem_cons hib, qval] at eb
  have h2 : 4294967296 ^ i * (a[i] + 1 + 4294967296 * qval (b.drop (i + 1))) ≤ 4294967296 ^ i * (b[i] + 4294967296 * qval (b.drop (i + 1))) := Nat.mul_le_mul_left _ (by omega)
  have h3 : 4294967296 ^ i * (a[i] + 1 + 4294967296 * qval (b.drop (i + 1))) = 4294967296 ^ i + 4294967296 ^ i * (a[i] + 4294967296 * qval (b.drop (i + 1))) := by
    rw [show a[i] + 1 + 4294967296 * qval (b.drop (i + 1)) = (a[i] + 4294967296 * qval (b.drop (i + 1))) + 1 from by omega, Nat.mul_add, Nat.mul_one]; omega
  omega
/-- -1, 0 or 1 -/
def qcmp (m n : Nat) : Int := if m < n then -1 else if m = n then 0 else 1
theorem qcmp_len_lt {m n : Nat} (h : (qdigs m).length < (qdigs n).length) : m < n := by
  rcases Nat.lt_or_ge m n with h1 | h1
  · exact h1
  · have := qdigs_mono m n h1
    omega
theorem qdigs_inj {m n : Nat} (h : qdigs m = qdigs n) : m = n := by
  have := congrArg qval h
  rwa [qval_digs, qval_digs] at this
end Go.Proofs.YtbdbpcllndajgaaGreatDoor

namespace Go.Proofs.YtbdbpcllndajgaaGreatDoor
open Go Go.RowKit
set_option linter.unusedVariables false

def KB : Nat := 4294967296
/-- the guess g with the rest r: what stays true while it is put right -/
structure Guess (h V U : Nat) (top g r : Nat) : Prop where
  eq : g * top + r = h
  le : U / V ≤ g
section
variable {top next u2 u1 u0 g r : Nat}
theorem guess_start (ht : 0 < top) (hn : next < KB) : Guess (u2 * KB + u1) (top * KB + next) ((u2 * KB + u1) * KB + u0) top ((u2 * KB + u1) / top) ((u2 * KB + u1) % top) ∨ KB ≤ u0 := by
  by_cases hu : u0 < KB
  · left
    refine ⟨by rw [Nat.mul_comm]; exact Nat.div_add_mod _ _, ?_⟩
    have h1 : ((u2 * KB + u1) * KB + u0) / (top * KB + next) ≤ ((u2 * KB + u1) * KB + u0) / (top * KB) := Nat.div_le_div_left (by omega) (Nat.mul_pos ht (by unfold KB; omega))
    have h2 : ((u2 * KB + u1) * KB + u0) / (top * KB) = (u2 * KB + u1) / top := by
      rw [Nat.mul_comm top KB, ← Nat.div_div_eq_div_mul, Nat.mul_comm _ KB, Nat.mul_add_div (by unfold KB; omega), Nat.div_eq_of_lt hu, Nat.add_zero]
    omega
  · right; omega
/-- too great: one less -/
theorem Guess.less {h : Nat} (hG : Guess h (top * KB + next) (h * KB + u0) top g r) (hq : (h * KB + u0) / (top * KB + next) < KB) (hw : KB - 1 < g ∨ r * KB + u0 < g * next) (hV : 0 < top * KB + next) : Guess h (top * KB + next) (h * KB + u0) top (g - 1) (r + top) ∧ 1 ≤ g := by
  have hlt : (h * KB + u0) / (top * KB + next) < g := by
    rcases hw with hw | hw
    · omega
    · refine (Nat.div_lt_iff_lt_mul hV).2 ?_
      have e := hG.eq
      have e2 : g * (top * KB + next) = g * top * KB + g * next := by rw [Nat.mul_add, Nat.mul_assoc]
      rw [e2, ← e, Nat.add_mul]
      omega
  have hle := hG.le
  have e0 := hG.eq
  refine ⟨⟨?_, Nat.le_sub_one_of_lt hlt⟩, Nat.lt_of_le_of_lt (Nat.zero_le _) hlt⟩
  have hg1 : 1 ≤ g := Nat.lt_of_le_of_lt (Nat.zero_le _) hlt
  clear hlt hle hw hq hG
  obtain ⟨g', rfl⟩ : ∃ g', g = g' + 1 := ⟨g - 1, by omega⟩
  rw [Nat.add_mul] at e0
  simp only [Nat.add_sub_cancel]
  omega
/-- not too great: it is the quotient's limb -/
theorem Guess.done {h : Nat} (hG : Guess h (top * KB + next) (h * KB + u0) top g r) (hV : 0 < top * KB + next) (hw : g * next ≤ r * KB + u0) : g = (h * KB + u0) / (top * KB + next) := by
  refine Nat.le_antisymm ((Nat.le_div_iff_mul_le hV).2 ?_) hG.le
  have e := hG.eq
  have e2 : g * (top * KB + next) = g * top * KB + g * next := by rw [Nat.mul_add, Nat.mul_assoc]
  rw [e2, ← e, Nat.add_mul]
  omega
/-- a great rest ends it as well -/
theorem Guess.wide {h : Nat} (hG : Guess h (top * KB + next) (h * KB + u0) top g r) (hh : h < top * KB + KB) (hn : next < KB) (ht : 0 < top) (hr : KB ≤ r) : g * next ≤ r * KB + u0 := by
  have e := hG.eq
  have h1 : g * top < top * KB := by omega
  have h2 : g < KB := by
    rw [Nat.mul_comm top KB] at h1
    exact Nat.lt_of_mul_lt_mul_right h1
  have h3 : g * next ≤ KB * KB := Nat.mul_le_mul (by omega) (by omega)
  have h4 : KB * KB ≤ r * KB := Nat.mul_le_mul_right _ hr
  omega
end
end Go.Proofs.YtbdbpcllndajgaaGreatDoor

namespace Go.Proofs.YtbdbpcllndajgaaGreatDoor
set_option linter.unusedVariables false

/-- words by one word, with what is carried -/
def mulL : List Nat → Nat → Nat → List Nat
  | [], _, c => [c]
  | x :: a, d, c => (x * d + c) % 4294967296 :: mulL a d ((x * d + c) / 4294967296)
theorem mulL_val : ∀ (a : List Nat) (d c : Nat), qval (mulL a d c) = qval a * d + c
  | [], d, c => by simp [mulL, qval]
  | x :: a, d, c => by
    rw [mulL, qval, qval, mulL_val a d]
    have := Nat.mod_add_div (x * d + c) 4294967296
    rw [Nat.add_mul, Nat.mul_assoc, Nat.mul_add]
    omega
theorem carry_lt {x d c : Nat} (hx : x < 4294967296) (hd : d < 4294967296) (hc : c < 4294967296) : x * d + c < 18446744073709551616 ∧ (x * d + c) / 4294967296 < 4294967296 := by
  have h : x * d ≤ 4294967295 * 4294967295 := Nat.mul_le_mul (by omega) (by omega)
  constructor
  · omega
  · omega
theorem mulL_dig : ∀ (a : List Nat) (d c : Nat), QDig a → d < 4294967296 → c < 4294967296 → QDig (mulL a d c)
  | [], d, c, _, _, hc => by intro y hy; simp [mulL] at hy; omega
  | x :: a, d, c, ha, hd, hc => by
    intro y hy
    rw [mulL] at hy
    rcases List.mem_cons.1 hy with rfl | hy
    · exact Nat.mod_lt _ (by decide)
    · exact mulL_dig a d _ ha.tail hd (carry_lt (ha x (by simp)) hd hc).2 y hy
theorem mulL_len : ∀ (a : List Nat) (d c : Nat), (mulL a d c).length = a.length + 1
  | [], d, c => rfl
  | x :: a, d, c => by rw [mulL, List.length_cons, mulL_len a d, List.length_cons]
def MulAt (a : List Nat) (d i cr : Nat) (pre : List Nat) : Prop := mulL a d 0 = pre ++ mulL (a.drop i) d cr ∧ pre.length = i ∧ cr < 4294967296
theorem MulAt.zero (a : List Nat) (d : Nat) : MulAt a d 0 0 [] := ⟨rfl, rfl, by omega⟩
theorem MulAt.succ {a pre : List Nat} {d i cr : Nat} (h : MulAt a d i cr pre) (ha : QDig a) (hd : d < 4294967296) (hi : i < a.length) :
    MulAt a d (i + 1) ((a[i] * d + cr) / 4294967296) (pre ++ [(a[i] * d + cr) % 4294967296]) := by
  obtain ⟨h1, h2, h3⟩ := h
  refine ⟨?_, by simp [h2], (carry_lt (ha _ (List.getElem_mem hi)) hd h3).2⟩
  rw [h1, List.drop_eq_getElem_cons hi, mulL]
  simp
theorem MulAt.end {a pre : List Nat} {d cr : Nat} (h : MulAt a d a.length cr pre) : mulL a d 0 = pre ++ [cr] := by
  rw [h.1, List.drop_length]
  rfl
end Go.Proofs.YtbdbpcllndajgaaGreatDoor

namespace Go.Proofs.YtbdbpcllndajgaaGreatDoor
set_option linter.unusedVariables false

theorem ms_prod {g v : Nat} (hg : g < 4294967296) (hv : v < 4294967296) : g * v ≤ 18446744065119617025 :=
  Nat.mul_le_mul (show g ≤ 4294967295 by omega) (show v ≤ 4294967295 by omega)
/-- a word less another and what is lent; and what is lent on -/
def msX (u y d : Nat) : Nat := (u + 8589934592 - y - d) % 4294967296
def msD (u y d : Nat) : Nat := if u < y + d then 1 else 0
theorem msD_le (u y d : Nat) : msD u y d ≤ 1 := by unfold msD; split <;> omega
/-- what is left when the quotient's limb times the divisor is taken away -/
theorem ms2 {u0 u1 u2 v0 v1 g : Nat} (h0 : u0 < 4294967296) (h1 : u1 < 4294967296) (hv0 : v0 < 4294967296) (hv1 : v1 < 4294967296) (hg : g < 4294967296) (hV : 0 < v1 * 4294967296 + v0)
    (hq : g = ((u2 * 4294967296 + u1) * 4294967296 + u0) / (v1 * 4294967296 + v0)) :
    u2 = (g * v0 / 4294967296 + g * v1) / 4294967296 + msD u1 ((g * v0 / 4294967296 + g * v1) % 4294967296) (msD u0 (g * v0 % 4294967296) 0) ∧
      msX u0 (g * v0 % 4294967296) 0 = ((u2 * 4294967296 + u1) * 4294967296 + u0) % (v1 * 4294967296 + v0) % 4294967296 ∧
      msX u1 ((g * v0 / 4294967296 + g * v1) % 4294967296) (msD u0 (g * v0 % 4294967296) 0) = ((u2 * 4294967296 + u1) * 4294967296 + u0) % (v1 * 4294967296 + v0) / 4294967296 := by
  have e := Nat.div_add_mod ((u2 * 4294967296 + u1) * 4294967296 + u0) (v1 * 4294967296 + v0)
  rw [← hq] at e
  have hr := Nat.mod_lt ((u2 * 4294967296 + u1) * 4294967296 + u0) hV
  have e2 : (v1 * 4294967296 + v0) * g = g * v1 * 4294967296 + g * v0 := by rw [Nat.mul_comm, Nat.mul_add, Nat.mul_assoc]
  rw [e2] at e
  generalize ((u2 * 4294967296 + u1) * 4294967296 + u0) % (v1 * 4294967296 + v0) = R at e hr ⊢
  have p0 := ms_prod hg hv0
  have p1 := ms_prod hg hv1
  generalize g * v0 = a at e p0 ⊢
  generalize g * v1 = b at e p1 ⊢
  clear hq e2
  obtain ⟨r0, r1, hR, hr0⟩ : ∃ r0 r1, R = r1 * 4294967296 + r0 ∧ r0 < 4294967296 := ⟨R % 4294967296, R / 4294967296, by omega, by omega⟩
  obtain ⟨a0, a1, ha, ha0⟩ : ∃ a0 a1, a = a1 * 4294967296 + a0 ∧ a0 < 4294967296 := ⟨a % 4294967296, a / 4294967296, by omega, by omega⟩
  obtain ⟨b0, b1, hb, hb0⟩ : ∃ b0 b1, a1 + b = b1 * 4294967296 + b0 ∧ b0 < 4294967296 := ⟨(a1 + b) % 4294967296, (a1 + b) / 4294967296, by omega, by omega⟩
  have f1 : a % 4294967296 = a0 := by omega
  have f2 : a / 4294967296 = a1 := by omega
  have f3 : R % 4294967296 = r0 := by omega
  have f4 : R / 4294967296 = r1 := by omega
  rw [f1, f2, f3, f4, hb, show (b1 * 4294967296 + b0) / 4294967296 = b1 from by omega, show (b1 * 4294967296 + b0) % 4294967296 = b0 from by omega]
  have hr1 : r1 < 4294967296 := by omega
  -- the words one by one
  have g1 : u0 + 4294967296 * (u1 + 4294967296 * u2) = (a0 + r0) + 4294967296 * (b0 + r1 + 4294967296 * b1) := by omega
  unfold msX msD
  by_cases c0 : u0 < a0 + 0
  · rw [if_pos c0]
    by_cases c1 : u1 < b0 + 1
    · rw [if_pos c1]; omega
    · rw [if_neg c1]; omega
  · rw [if_neg c0]
    by_cases c1 : u1 < b0 + 0
    · rw [if_pos c1]; omega
    · rw [if_neg c1]; omega
/-- the quotient's limb is below the base -/
theorem limb_lt {R l V : Nat} (hR : R < V) (hl : l < 4294967296) : (R * 4294967296 + l) / V < 4294967296 := by
  refine (Nat.div_lt_iff_lt_mul (by omega)).2 ?_
  have : (R + 1) * 4294967296 ≤ V * 4294967296 := Nat.mul_le_mul_right _ (by omega)
  rw [Nat.mul_comm 4294967296 V]
  omega
/-- one limb more of the quotient -/
theorem limb_next {A Q R V l B : Nat} (hV : 0 < V) (hA : B = A * 4294967296 + l) (h : Q * V + R = A) : (Q * 4294967296 + (R * 4294967296 + l) / V) * V + (R * 4294967296 + l) % V = B ∧ (R * 4294967296 + l) % V < V := by
  refine ⟨?_, Nat.mod_lt _ hV⟩
  have e := Nat.div_add_mod (R * 4294967296 + l) V
  rw [Nat.add_mul, Nat.add_assoc, Nat.mul_comm ((R * 4294967296 + l) / V) V, e, hA, ← h, Nat.add_mul, Nat.mul_right_comm]
  omega

/-- shifted to the right -/
def shrL (d : Nat) : List Nat → List Nat
  | [] => []
  | [x] => [x / d]
  | x :: y :: l => (x + 4294967296 * y) / d % 4294967296 :: shrL d (y :: l)
theorem shrL_len (d : Nat) : ∀ l : List Nat, (shrL d l).length = l.length
  | [] => rfl
  | [x] => rfl
  | x :: y :: l => by rw [shrL, List.length_cons, shrL_len d (y :: l)]; rfl
theorem shrL_dig {d : Nat} (hd : 0 < d) : ∀ l : List Nat, QDig l → QDig (shrL d l)
  | [], h => h
  | [x], h => by
    intro y hy
    have hx := h x (by simp)
    simp only [shrL, List.mem_singleton] at hy
    subst hy
    exact Nat.lt_of_le_of_lt (Nat.div_le_self _ _) hx
  | x :: y :: l, h => by
    intro z hz
    rw [shrL] at hz
    rcases List.mem_cons.1 hz with rfl | hz
    · exact Nat.mod_lt _ (by decide)
    · exact shrL_dig hd (y :: l) h.tail z hz
theorem shrL_val {d e : Nat} (hd : 0 < d) (hde : d * e = 4294967296) : ∀ l : List Nat, QDig l → qval (shrL d l) = qval l / d
  | [], _ => by simp [shrL, qval]
  | [x], _ => by simp [shrL, qval]
  | x :: y :: l, h => by
    rw [shrL, qval, shrL_val hd hde (y :: l) h.tail]
    have hx := h x (by simp)
    have e1 : qval (x :: y :: l) = x + 4294967296 * qval (y :: l) := rfl
    rw [e1]
    have e2 : qval (y :: l) = y + 4294967296 * qval l := rfl
    have h1 : ∀ z, (x + 4294967296 * z) / d = x / d + e * z := fun z => by
      rw [← hde, Nat.mul_assoc, Nat.add_mul_div_left _ _ hd]
    rw [h1, h1]
    have h2 : x / d < e := (Nat.div_lt_iff_lt_mul hd).2 (by rw [Nat.mul_comm, hde]; exact hx)
    have h3 : qval (y :: l) % d = y % d := by
      rw [e2, ← hde, Nat.mul_assoc, Nat.add_mul_mod_self_left]
    have h4 : ∀ z, e * z = 4294967296 * (z / d) + e * (z % d) := fun z => by
      have := Nat.div_add_mod z d
      calc e * z = e * (d * (z / d) + z % d) := by rw [this]
        _ = e * d * (z / d) + e * (z % d) := by rw [Nat.mul_add, Nat.mul_assoc]
        _ = _ := by rw [Nat.mul_comm e d, hde]
    have h5 : e * (y % d) + e ≤ 4294967296 := by
      have : y % d + 1 ≤ d := Nat.mod_lt _ hd
      calc e * (y % d) + e = e * (y % d + 1) := by rw [Nat.mul_add, Nat.mul_one]
        _ ≤ e * d := Nat.mul_le_mul_left _ this
        _ = _ := by rw [Nat.mul_comm, hde]
    rw [h4 y, h4 (qval (y :: l)), h3]
    generalize e * (y % d) = t at h5 ⊢
    generalize x / d = i at h2 ⊢
    generalize y / d = m
    generalize qval (y :: l) / d = n
    omega
/-- a division with both moved up -/
theorem div_scaled {a b s : Nat} (hs : 0 < s) : a * s / (b * s) = a / b ∧ a * s % (b * s) / s = a % b := by
  refine ⟨Nat.mul_div_mul_right _ _ hs, ?_⟩
  rw [Nat.mul_mod_mul_right, Nat.mul_div_cancel _ hs]

/-- a division from above: the limbs i and more are done -/
structure DivAt (a : List Nat) (V i R : Nat) (qs : List Nat) : Prop where
  dig : QDig qs
  eq : qval qs * V + R = qval (a.drop i)
  lt : R < V
theorem DivAt.zero {a : List Nat} {V i : Nat} (hi : qval (a.drop i) < V) : DivAt a V i (qval (a.drop i)) [] := ⟨fun x hx => (by cases hx), (by simp [qval]), hi⟩
theorem DivAt.step {a : List Nat} {V i R : Nat} {qs : List Nat} (h : DivAt a V (i + 1) R qs) (ha : QDig a) (hi : i < a.length) :
    DivAt a V i ((R * 4294967296 + a[i]) % V) ((R * 4294967296 + a[i]) / V :: qs) := by
  have hV : 0 < V := Nat.lt_of_le_of_lt (Nat.zero_le _) h.lt
  have hl := ha a[i] (List.getElem_mem hi)
  have e : qval (a.drop i) = qval (a.drop (i + 1)) * 4294967296 + a[i] := by rw [List.drop_eq_getElem_cons hi, qval]; omega
  obtain ⟨h1, h2⟩ := limb_next (Q := qval qs) hV e h.eq
  refine ⟨?_, ?_, h2⟩
  · intro x hx
    rcases List.mem_cons.1 hx with rfl | hx
    · exact limb_lt h.lt hl
    · exact h.dig x hx
  · rw [← h1, qval, Nat.mul_comm 4294967296 (qval qs), Nat.add_comm _ (qval qs * 4294967296)]
theorem DivAt.end {a : List Nat} {V R : Nat} {qs : List Nat} (h : DivAt a V 0 R qs) : qval qs = qval a / V ∧ R = qval a % V := by
  have e := h.eq
  rw [List.drop_zero] at e
  have hV : 0 < V := Nat.lt_of_le_of_lt (Nat.zero_le _) h.lt
  rw [← e, Nat.mul_comm (qval qs) V]
  constructor
  · rw [Nat.mul_add_div hV, Nat.div_eq_of_lt h.lt, Nat.add_zero]
  · rw [Nat.mul_add_mod, Nat.mod_eq_of_lt h.lt]
end Go.Proofs.YtbdbpcllndajgaaGreatDoor
