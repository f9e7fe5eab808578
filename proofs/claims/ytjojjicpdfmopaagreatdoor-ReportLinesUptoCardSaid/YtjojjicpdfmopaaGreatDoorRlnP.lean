/- Plain: the text of a trial balance, and how many lines it has. -/
import Derived.Test.YtjojjicpdfmopaaGreatDoorBalP
import Derived.Test.YtjojjicpdfmopaaGreatDoorStrP
namespace Go.Proofs.YtjojjicpdfmopaaGreatDoor
open Go Go.Lib
set_option linter.unusedVariables false

/-- an amount's size with p places -/
def showL (x p : Nat) : List UInt8 :=
  if p = 0 then List.replicate (p + 1 - (decDigits x).length) 48 ++ decDigits x
  else (List.replicate (p + 1 - (decDigits x).length) 48 ++ decDigits x).take ((List.replicate (p + 1 - (decDigits x).length) 48 ++ decDigits x).length - p) ++ 46 :: (List.replicate (p + 1 - (decDigits x).length) 48 ++ decDigits x).drop ((List.replicate (p + 1 - (decDigits x).length) 48 ++ decDigits x).length - p)
theorem dec_digit (x : Nat) : ∀ b, b ∈ decDigits x → b ≠ 10 := by
  rw [decDigits_eq]
  intro b hb
  obtain ⟨t, _, rfl⟩ := List.mem_map.1 hb
  unfold dg
  have h : x / 10 ^ (nDigits x - 1 - t) % 10 < 10 := Nat.mod_lt _ (by omega)
  have : ∀ y : Fin 10, UInt8.ofNat (48 + y.val) ≠ 10 := by decide
  exact this ⟨_, h⟩
theorem show_none (x p : Nat) : (10 : UInt8) ∉ showL x p := by
  have h : (10 : UInt8) ∉ List.replicate (p + 1 - (decDigits x).length) 48 ++ decDigits x := by
    intro hm
    rcases List.mem_append.1 hm with h1 | h1
    · have := (List.mem_replicate.1 h1).2
      revert this; decide
    · exact dec_digit x _ h1 rfl
  unfold showL
  split
  · exact h
  · intro hm
    rcases List.mem_append.1 hm with h1 | h1
    · exact h (List.mem_of_mem_take h1)
    · rcases List.mem_cons.1 h1 with h2 | h2
      · revert h2; decide
      · exact h (List.mem_of_mem_drop h2)

/-- words with a blank between them -/
def joinL : List (List UInt8) → List UInt8
  | [] => []
  | [a] => a
  | a :: b :: l => a ++ 32 :: joinL (b :: l)
theorem join_none : ∀ (l : List (List UInt8)), (∀ a, a ∈ l → (10 : UInt8) ∉ a) → (10 : UInt8) ∉ joinL l
  | [], _ => by simp [joinL]
  | [a], h => h a (List.mem_singleton.2 rfl)
  | a :: b :: l, h => by
    intro hm
    rcases List.mem_append.1 hm with h1 | h1
    · exact h a (by simp) h1
    · rcases List.mem_cons.1 h1 with h2 | h2
      · revert h2; decide
      · exact join_none (b :: l) (fun x hx => h x (List.mem_cons_of_mem _ hx)) h2
/-- a line -/
def lineL (ws : List (List UInt8)) : List UInt8 := joinL ws ++ [10]
theorem line_count {ws : List (List UInt8)} (h : ∀ a, a ∈ ws → (10 : UInt8) ∉ a) : (lineL ws).count 10 = 1 := by
  unfold lineL
  rw [List.count_append, List.count_eq_zero.2 (join_none ws h)]
  rfl
theorem lines_count {α : Type} (f : α → List (List UInt8)) : ∀ (l : List α), (∀ x, x ∈ l → ∀ a, a ∈ f x → (10 : UInt8) ∉ a) → (l.flatMap fun x => lineL (f x)).count 10 = l.length
  | [], _ => rfl
  | x :: l, h => by
    rw [List.flatMap_cons, List.count_append, line_count (h x (List.mem_cons_self ..)), lines_count f l (fun y hy => h y (List.mem_cons_of_mem _ hy)), List.length_cons]
    omega

open Classical in
/-- the currencies of an entity's balances, as they come -/
noncomputable def curAdd (e : Int) (out : List ByteArray) (x : Bal) : List ByteArray := if x.ent = e then (if x.cur ∈ out then out else out ++ [x.cur]) else out
noncomputable def curIn (e : Int) (S : List Bal) : List ByteArray := S.foldl (curAdd e) []
theorem curIn_snoc (e : Int) (S : List Bal) (x : Bal) : curIn e (S ++ [x]) = curAdd e (curIn e S) x := by simp [curIn, List.foldl_append]
theorem snocI {α : Type} {P : List α → Prop} (h0 : P []) (h1 : ∀ S x, P S → P (S ++ [x])) (S : List α) : P S := by
  have key : ∀ l : List α, P l.reverse := by
    intro l
    induction l with
    | nil => exact h0
    | cons x l ih => rw [List.reverse_cons]; exact h1 _ _ ih
  have := key S.reverse
  rwa [List.reverse_reverse] at this
theorem curIn_mem (e : Int) (S : List Bal) (k : ByteArray) : k ∈ curIn e S ↔ ∃ x, x ∈ S ∧ x.ent = e ∧ x.cur = k := by
  refine snocI (P := fun S => k ∈ curIn e S ↔ ∃ x, x ∈ S ∧ x.ent = e ∧ x.cur = k) ?_ (fun S x ih => ?_) S
  · simp [curIn]
  · rw [curIn_snoc]
    unfold curAdd
    constructor
    · intro h
      split at h
      · rename_i he
        split at h
        · obtain ⟨y, hy, h2⟩ := ih.1 h; exact ⟨y, List.mem_append_left _ hy, h2⟩
        · rcases List.mem_append.1 h with h3 | h3
          · obtain ⟨y, hy, h2⟩ := ih.1 h3; exact ⟨y, List.mem_append_left _ hy, h2⟩
          · exact ⟨x, by simp, he, (List.mem_singleton.1 h3).symm⟩
      · obtain ⟨y, hy, h2⟩ := ih.1 h; exact ⟨y, List.mem_append_left _ hy, h2⟩
    · rintro ⟨y, hy, h1, h2⟩
      rcases List.mem_append.1 hy with h3 | h3
      · have := ih.2 ⟨y, h3, h1, h2⟩
        split
        · split
          · exact this
          · exact List.mem_append_left _ this
        · exact this
      · obtain rfl := List.mem_singleton.1 h3
        subst h2
        rw [if_pos h1]
        split
        · assumption
        · simp
theorem curIn_nodup (e : Int) (S : List Bal) : (curIn e S).Nodup := by
  refine snocI (P := fun S => (curIn e S).Nodup) ?_ (fun S x ih => ?_) S
  · simp [curIn]
  · rw [curIn_snoc]
    unfold curAdd
    split
    · split
      · exact ih
      · rename_i hm
        refine List.nodup_append.2 ⟨ih, by simp, ?_⟩
        intro a ha b hb
        obtain rfl := List.mem_singleton.1 hb
        intro hab
        subst hab
        exact hm ha
    · exact ih
/-- how many lines the law wants, of the first i balances -/
noncomputable def wantN (S : List Bal) (e : Int) (i : Nat) : Nat := ((S.take i).filter fun x => decide (x.ent = e)).length + (curIn e (S.take i)).length
theorem want_0 (S : List Bal) (e : Int) : wantN S e 0 = 0 := by simp [wantN, curIn]
open Classical in
theorem want_succ {S : List Bal} {e : Int} {i : Nat} (hi : i < S.length) : wantN S e (i + 1) = wantN S e i + (if S[i].ent = e then (if S[i].cur ∈ curIn e (S.take i) then 1 else 2) else 0) := by
  have e1 : S.take (i + 1) = S.take i ++ [S[i]] := by rw [List.take_succ_eq_append_getElem hi]
  unfold wantN
  rw [e1, curIn_snoc, List.filter_append, List.length_append]
  unfold curAdd
  by_cases h1 : S[i].ent = e
  · rw [if_pos h1, if_pos h1]
    by_cases h2 : S[i].cur ∈ curIn e (S.take i)
    · rw [if_pos h2, if_pos h2]; simp [h1]; omega
    · rw [if_neg h2, if_neg h2]; simp [h1]; omega
  · rw [if_neg h1, if_neg h1]
    simp [h1]

/-- the line of a balance -/
def balL (c : List Acc) (p : Nat) (x : Bal) (nm : ByteArray) : List (List UInt8) := [x.acc.data.toList, nm.data.toList, x.cur.data.toList, [if x.amt < 0 then 67 else 68], showL x.amt.natAbs p]
end Go.Proofs.YtjojjicpdfmopaaGreatDoor
