/- A chart as text, read: plain facts. -/
import Derived.Test.YthmjkhlndphldaaDoorPrintA
namespace Go.Proofs.YthmjkhlndphldaaDoor
open Go Go.RowKit
set_option linter.unusedVariables false

/-- a text cut at each byte c -/
def cutL (c : UInt8) : List UInt8 → List (List UInt8)
  | [] => [[]]
  | b :: s => if b = c then [] :: cutL c s else match cutL c s with
    | [] => [[b]]
    | p :: ps => (b :: p) :: ps
/-- p ahead of the first -/
def glue (p : List UInt8) : List (List UInt8) → List (List UInt8)
  | [] => [p]
  | q :: qs => (p ++ q) :: qs
/-- pieces put together, c between them -/
def joinL (c : UInt8) : List (List UInt8) → List UInt8
  | [] => []
  | [p] => p
  | p :: q :: r => p ++ c :: joinL c (q :: r)
section
variable {c : UInt8}
theorem cutL_ne (s : List UInt8) : cutL c s ≠ [] := by
  cases s with
  | nil => simp [cutL]
  | cons b s =>
    unfold cutL
    split
    · simp
    · split <;> simp
theorem cutL_hit (s : List UInt8) : cutL c (c :: s) = [] :: cutL c s := by
  rw [cutL, if_pos rfl]
theorem cutL_cons {b : UInt8} (h : b ≠ c) (s : List UInt8) : cutL c (b :: s) = glue [b] (cutL c s) := by
  rw [cutL, if_neg h]
  cases hs : cutL c s with
  | nil => exact absurd hs (cutL_ne s)
  | cons p ps => rfl
theorem glue_nil {l : List (List UInt8)} (h : l ≠ []) : glue [] l = l := by
  cases l with
  | nil => exact absurd rfl h
  | cons q qs => rfl
theorem glue_glue (p q : List UInt8) (l : List (List UInt8)) : glue p (glue q l) = glue (p ++ q) l := by
  cases l with
  | nil => rfl
  | cons x xs => simp [glue]
theorem cutL_free {p : List UInt8} (h : c ∉ p) (r : List UInt8) : cutL c (p ++ r) = glue p (cutL c r) := by
  induction p with
  | nil => exact (glue_nil (cutL_ne r)).symm
  | cons b p ih =>
    have h1 : b ≠ c := fun e => h (by simp [e])
    have h2 : c ∉ p := fun e => h (by simp [e])
    rw [List.cons_append, cutL_cons h1, ih h2, glue_glue]; rfl
theorem cutL_at {p : List UInt8} (h : c ∉ p) (r : List UInt8) : cutL c (p ++ c :: r) = p :: cutL c r := by
  rw [cutL_free h, cutL_hit]
  simp [glue]
theorem cutL_none {p : List UInt8} (h : c ∉ p) : cutL c p = [p] := by
  have := cutL_free h []
  rw [List.append_nil] at this
  rw [this]; simp [cutL, glue]
theorem joinL_cons (p : List UInt8) {l : List (List UInt8)} (h : l ≠ []) : joinL c (p :: l) = p ++ c :: joinL c l := by
  cases l with
  | nil => exact absurd rfl h
  | cons q r => rfl
theorem joinL_glue (b : UInt8) {l : List (List UInt8)} (h : l ≠ []) : joinL c (glue [b] l) = b :: joinL c l := by
  cases l with
  | nil => exact absurd rfl h
  | cons p l =>
    cases l with
    | nil => rfl
    | cons q r => rfl
theorem join_cut (s : List UInt8) : joinL c (cutL c s) = s := by
  induction s with
  | nil => rfl
  | cons b s ih =>
    by_cases h : b = c
    · subst h
      rw [cutL_hit, joinL_cons _ (cutL_ne s), ih]; rfl
    · rw [cutL_cons h, joinL_glue b (cutL_ne s), ih]
theorem cutL_len (s : List UInt8) : (cutL c s).length ≤ s.length + 1 := by
  induction s with
  | nil => simp [cutL]
  | cons b s ih =>
    by_cases h : b = c
    · subst h
      rw [cutL_hit]
      simp only [List.length_cons]; omega
    · rw [cutL_cons h]
      cases hs : cutL c s with
      | nil => exact absurd hs (cutL_ne s)
      | cons p ps =>
        rw [hs] at ih
        simp only [glue, List.length_cons] at *
        omega
/-- no piece is longer than the whole -/
theorem cutL_part (s : List UInt8) : ∀ p, p ∈ cutL c s → p.length ≤ s.length := by
  induction s with
  | nil => intro p hp; simp [cutL] at hp; simp [hp]
  | cons b s ih =>
    intro p hp
    by_cases h : b = c
    · subst h
      rw [cutL_hit] at hp
      rcases List.mem_cons.1 hp with rfl | hp
      · simp
      · have := ih p hp
        simp only [List.length_cons]; omega
    · rw [cutL_cons h] at hp
      cases hs : cutL c s with
      | nil => exact absurd hs (cutL_ne s)
      | cons q qs =>
        rw [hs] at hp ih
        rcases List.mem_cons.1 hp with rfl | hp
        · have := ih q (by simp)
          simp only [List.length_append, List.length_cons, List.length_nil]; omega
        · have := ih p (by simp [hp])
          simp only [List.length_cons]; omega
end

def bs (l : List UInt8) : ByteArray := ⟨l.toArray⟩
theorem bytes_inj {a b : ByteArray} (h : a.toList = b.toList) : a = b := by
  rw [ByteArray.toList_eq, ByteArray.toList_eq] at h
  have : a.data = b.data := Array.toList_inj.1 h
  cases a; cases b; simp_all
theorem bs_data (l : List UInt8) : (bs l).data.toList = l := rfl
theorem bs_toList (l : List UInt8) : (bs l).toList = l := by rw [ByteArray.toList_eq]; rfl
theorem bs_size (l : List UInt8) : (bs l).size = l.length := rfl
theorem bs_of (s : ByteArray) : bs s.data.toList = s := rfl
theorem bs_inj {a b : List UInt8} (h : bs a = bs b) : a = b := by rw [← bs_data a, h, bs_data]
/-- a kind's letter -/
def kindOf (l : List UInt8) : Int := if l = [65] then 1 else if l = [76] then 2 else if l = [69] then 3 else if l = [73] then 4 else if l = [88] then 5 else 0
/-- the account of a line's pieces -/
def lineA (w : List (List UInt8)) : Option Acc := match w with
  | [c, n, k, m, p] => if kindOf k = 0 then none else if m ≠ [109] ∧ m ≠ [45] then none else if p = [45] then some ⟨bs c, bs n, kindOf k, ⟨#[]⟩, decide (m = [109])⟩ else
      if digitsB (bs p) 6 = false then none else some ⟨bs c, bs n, kindOf k, bs p, decide (m = [109])⟩
  | _ => none
/-- what the pieces of a text are read as, behind the accounts acc -/
def parseR : List (List UInt8) → List Acc → List Acc × Int × Int
  | [], acc => (acc, 0, 0)
  | [p], acc => if p = [] then (acc, 0, 0) else ([], acc.length, 2)
  | p :: q :: r, acc => match lineA (cutL 32 p) with
    | none => ([], acc.length, 2)
    | some a => if acc.length = 60 then ([], acc.length, 4) else if accF acc a = 0 then parseR (q :: r) (acc ++ [a]) else ([], acc.length, accF acc a)

theorem kindOf_cases {k : List UInt8} (h : kindOf k ≠ 0) : (k = [65] ∧ kindOf k = 1) ∨ (k = [76] ∧ kindOf k = 2) ∨ (k = [69] ∧ kindOf k = 3) ∨ (k = [73] ∧ kindOf k = 4) ∨ (k = [88] ∧ kindOf k = 5) := by
  by_cases h1 : k = [65]
  · subst h1; exact .inl ⟨rfl, rfl⟩
  · by_cases h2 : k = [76]
    · subst h2; exact .inr (.inl ⟨rfl, rfl⟩)
    · by_cases h3 : k = [69]
      · subst h3; exact .inr (.inr (.inl ⟨rfl, rfl⟩))
      · by_cases h4 : k = [73]
        · subst h4; exact .inr (.inr (.inr (.inl ⟨rfl, rfl⟩)))
        · by_cases h5 : k = [88]
          · subst h5; exact .inr (.inr (.inr (.inr ⟨rfl, rfl⟩)))
          · unfold kindOf at h
            rw [if_neg h1, if_neg h2, if_neg h3, if_neg h4, if_neg h5] at h
            exact absurd rfl h
theorem letter_kind {k : List UInt8} (h : kindOf k ≠ 0) : letterB (kindOf k) = k := by
  rcases kindOf_cases h with ⟨rfl, _⟩ | ⟨rfl, _⟩ | ⟨rfl, _⟩ | ⟨rfl, _⟩ | ⟨rfl, _⟩ <;> decide +kernel
theorem kind_letter {n : Int} (h1 : 1 ≤ n) (h2 : n ≤ 5) : kindOf (letterB n) = n ∧ (10 : UInt8) ∉ letterB n ∧ (32 : UInt8) ∉ letterB n := by
  rcases (show n = 1 ∨ n = 2 ∨ n = 3 ∨ n = 4 ∨ n = 5 by omega) with rfl | rfl | rfl | rfl | rfl <;> decide +kernel
theorem digits_ne {p : List UInt8} {m : Int} (h : digitsB (bs p) m = true) : p ≠ [] := by
  rintro rfl
  unfold digitsB at h
  simp [bs_toList] at h
/-- what all bytes are of that set -/
theorem allIn_not {s cs : ByteArray} (h : allIn s cs = true) {b : UInt8} (hb : cs.data.toList.contains b = false) : b ∉ s.data.toList := by
  intro hm
  unfold allIn at h
  rw [List.all_eq_true] at h
  have := h b hm
  rw [hb] at this; cases this
theorem digits_free {s : ByteArray} {m : Int} (h : digitsB s m = true) : (10 : UInt8) ∉ s.data.toList ∧ (32 : UInt8) ∉ s.data.toList ∧ (45 : UInt8) ∉ s.data.toList := by
  unfold digitsB at h
  simp only [Bool.and_eq_true] at h
  exact ⟨allIn_not h.2 (by decide), allIn_not h.2 (by decide), allIn_not h.2 (by decide)⟩
theorem name_free {s : ByteArray} (h : nameB s = true) : (10 : UInt8) ∉ s.data.toList ∧ (32 : UInt8) ∉ s.data.toList := by
  unfold nameB at h
  simp only [Bool.and_eq_true] at h
  exact ⟨allIn_not h.2 (by decide +kernel), allIn_not h.2 (by decide +kernel)⟩
theorem mon_free (m : Bool) : (10 : UInt8) ∉ monB m ∧ (32 : UInt8) ∉ monB m := by cases m <;> decide

/-- a line without its end -/
def bodyL (a : Acc) : List UInt8 := joinL 32 [a.code.data.toList, a.name.data.toList, letterB a.kind, monB a.money, parB a.parent]
theorem lineL_body (a : Acc) : lineL a = bodyL a ++ [10] := by
  unfold lineL bodyL
  simp [joinL]
/-- what is read as an account is that account's line -/
theorem lineA_line {w : List (List UInt8)} {a : Acc} (h : lineA w = some a) : joinL 32 w ++ [10] = lineL a := by
  unfold lineA at h
  split at h
  · rename_i c n k m p
    by_cases h1 : kindOf k = 0
    · rw [if_pos h1] at h; cases h
    · rw [if_neg h1] at h
      by_cases h2 : m ≠ [109] ∧ m ≠ [45]
      · rw [if_pos h2] at h; cases h
      · rw [if_neg h2] at h
        have hm : monB (decide (m = [109])) = m := by
          by_cases e : m = [109]
          · subst e; rfl
          · have e2 : m = [45] := by
              by_cases e3 : m = [45]
              · exact e3
              · exact absurd ⟨e, e3⟩ h2
            subst e2; rfl
        by_cases h3 : p = [45]
        · rw [if_pos h3] at h
          injection h with h
          subst h
          rw [lineL_body]
          unfold bodyL
          have hpe : parB (⟨#[]⟩ : ByteArray) = [45] := by decide +kernel
          simp only [letter_kind h1, hm, bs_data, hpe]
          subst h3
          rfl
        · rw [if_neg h3] at h
          by_cases h4 : digitsB (bs p) 6 = false
          · rw [if_pos h4] at h; cases h
          · rw [if_neg h4] at h
            injection h with h
            subst h
            have hp := digits_ne (by simpa using h4 : digitsB (bs p) 6 = true)
            have hpb : parB (bs p) = p := by
              unfold parB
              rw [if_neg (by rw [bs_toList]; simpa using hp), bs_data]
            rw [lineL_body]
            unfold bodyL
            simp only [letter_kind h1, hm, bs_data, hpb]
  · cases h
theorem par_free {f : List Acc} (hf : ∀ i (h : i < f.length), digitsB f[i].code 6 = true) {a : Acc} (ha : AccGood f a) : (a.parent.toList.isEmpty = true ∧ parB a.parent = [45]) ∨ (digitsB a.parent 6 = true ∧ parB a.parent = a.parent.data.toList) := by
  rcases ha.parent with h | ⟨h, k, h1, _⟩
  · exact .inl ⟨h, if_pos h⟩
  · refine .inr ⟨?_, if_neg (by rw [h]; decide)⟩
    unfold idxO at h1
    obtain ⟨hk, e, _⟩ := List.findIdx?_eq_some_iff_getElem.1 h1
    have e := bytes_inj (beq_iff_eq.1 e)
    rw [← e]; exact hf k hk
/-- a right account's line is read as the account -/
theorem line_back {f : List Acc} (hf : ∀ i (h : i < f.length), digitsB f[i].code 6 = true) {a : Acc} (ha : AccGood f a) : lineA (cutL 32 (bodyL a)) = some a ∧ (10 : UInt8) ∉ bodyL a := by
  obtain ⟨d1, d2, _⟩ := digits_free ha.code
  obtain ⟨n1, n2⟩ := name_free ha.name
  obtain ⟨k0, k1, k2⟩ := kind_letter ha.lo ha.hi
  obtain ⟨m1, m2⟩ := mon_free a.money
  have hp : (10 : UInt8) ∉ parB a.parent ∧ (32 : UInt8) ∉ parB a.parent := by
    rcases par_free hf ha with ⟨_, e⟩ | ⟨h, e⟩
    · rw [e]; decide
    · rw [e]; exact ⟨(digits_free h).1, (digits_free h).2.1⟩
  constructor
  · have e : cutL 32 (bodyL a) = [a.code.data.toList, a.name.data.toList, letterB a.kind, monB a.money, parB a.parent] := by
      unfold bodyL
      simp only [joinL]
      rw [cutL_at d2, cutL_at n2, cutL_at k2, cutL_at m2, cutL_none hp.2]
    rw [e]
    show (if kindOf (letterB a.kind) = 0 then _ else _) = _
    rw [k0, if_neg (by have := ha.lo; omega), if_neg (by cases a.money <;> decide)]
    have hm : decide (monB a.money = [109]) = a.money := by cases a.money <;> decide
    rcases par_free hf ha with ⟨h0, e2⟩ | ⟨h0, e2⟩
    · rw [if_pos e2, hm, bs_of, bs_of]
      have : a.parent = ⟨#[]⟩ := bytes_inj (by rw [show a.parent.toList = [] by simpa using h0]; exact (bs_toList []).symm)
      rw [← this]
    · have hne : parB a.parent ≠ [45] := fun e3 => (digits_free h0).2.2 (by rw [← e2, e3]; simp)
      rw [if_neg hne, hm, e2, bs_of, bs_of, bs_of, if_neg (by rw [h0]; decide)]
  · unfold bodyL
    simp only [joinL, List.mem_append, List.mem_cons]
    rintro (h | h | h | h | h | h | h | h | h)
    · exact d1 h
    · exact absurd h (by decide)
    · exact n1 h
    · exact absurd h (by decide)
    · exact k1 h
    · exact absurd h (by decide)
    · exact m1 h
    · exact absurd h (by decide)
    · exact hp.1 h

theorem parse_two (p : List UInt8) {l : List (List UInt8)} (h : l ≠ []) (acc : List Acc) : parseR (p :: l) acc = match lineA (cutL 32 p) with
    | none => ([], (acc.length : Int), 2)
    | some a => if acc.length = 60 then ([], (acc.length : Int), 4) else if accF acc a = 0 then parseR l (acc ++ [a]) else ([], (acc.length : Int), accF acc a) := by
  cases l with
  | nil => exact absurd rfl h
  | cons q r => rfl
/-- what a right chart is printed as is read as that chart -/
theorem print_parse {l : List Acc} (h : chartE l = 0) : ∀ n, n ≤ l.length → parseR (cutL 10 (printL (l.drop (l.length - n)))) (l.take (l.length - n)) = (l, 0, 0) := by
  intro n
  induction n with
  | zero =>
    intro _
    rw [Nat.sub_zero, List.drop_length, List.take_length]
    rfl
  | succ n ih =>
    intro hn
    have hi : l.length - (n + 1) < l.length := by omega
    have e1 : l.length - (n + 1) + 1 = l.length - n := by omega
    have hl := chartE_len h
    obtain ⟨b1, b2⟩ := line_back (f := l.take (l.length - (n + 1))) (fun i hi2 => by
      rw [List.length_take] at hi2
      rw [List.getElem_take]
      exact (ch_good h i (by omega)).code) (ch_good h _ hi)
    have e2 : printL (l.drop (l.length - (n + 1))) = bodyL l[l.length - (n + 1)] ++ 10 :: printL (l.drop (l.length - n)) := by
      rw [List.drop_eq_getElem_cons hi, e1]
      show lineL _ ++ printL _ = _
      rw [lineL_body, List.append_assoc]
      rfl
    rw [e2, cutL_at b2, parse_two _ (cutL_ne _), b1]
    show (if _ then _ else _) = _
    rw [if_neg (by rw [List.length_take]; omega), if_pos (chartE_acc h _ hi), ← List.take_succ_eq_append_getElem hi, e1]
    exact ih (by omega)
theorem parse_print {l : List Acc} (h : chartE l = 0) : parseR (cutL 10 (printL l)) [] = (l, 0, 0) := by
  have := print_parse h l.length (Nat.le_refl _)
  rw [Nat.sub_self] at this
  exact this

theorem accE_app {acc : List Acc} (a : Acc) {i : Nat} (hi : i < acc.length) : accE (acc ++ [a]) i = accE acc i := by
  rw [accE_at hi, accE_at (by rw [List.length_append]; omega), List.take_append_of_le_length (by omega), List.getElem_append_left hi]
theorem accE_last (acc : List Acc) (a : Acc) : accE (acc ++ [a]) acc.length = accF acc a := by
  rw [accE_at (by simp), List.take_left', List.getElem_append_right (Nat.le_refl _)]
  · simp
  · rfl
theorem chartE_of {l : List Acc} (hl : l.length ≤ 60) (h : OkTo l l.length) : chartE l = 0 := by
  unfold chartE
  rw [if_neg (by omega)]
  exact scanE_none h _ _ (by omega)
/-- what is read without a fault is a right chart, and is printed as what was read -/
theorem parse_ok : ∀ (ps : List (List UInt8)) (acc m : List Acc) (k : Int), ps ≠ [] → acc.length ≤ 60 → OkTo acc acc.length → parseR ps acc = (m, k, 0) → chartE m = 0 ∧ ∃ r, m = acc ++ r ∧ joinL 10 ps = printL r := by
  intro ps
  induction ps with
  | nil => intro _ _ _ h; exact absurd rfl h
  | cons p ps ih =>
    intro acc m k _ hl hok h
    by_cases hps : ps = []
    · subst hps
      unfold parseR at h
      by_cases hp : p = []
      · rw [if_pos hp] at h
        injection h with h1 h2
        subst h1
        exact ⟨chartE_of hl hok, [], by simp, by subst hp; rfl⟩
      · rw [if_neg hp] at h
        injection h with _ h2
        injection h2 with _ h3
        exact absurd h3 (by decide)
    · rw [parse_two p hps] at h
      cases ha : lineA (cutL 32 p) with
      | none =>
        rw [ha] at h
        injection h with _ h2
        injection h2 with _ h3
        exact absurd h3 (by decide)
      | some a =>
        rw [ha] at h
        simp only at h
        by_cases h60 : acc.length = 60
        · rw [if_pos h60] at h
          injection h with _ h2
          injection h2 with _ h3
          exact absurd h3 (by decide)
        · rw [if_neg h60] at h
          by_cases hf : accF acc a = 0
          · rw [if_pos hf] at h
            obtain ⟨h1, r, h2, h3⟩ := ih (acc ++ [a]) m k hps (by rw [List.length_append]; simp; omega) (by
              intro j hj
              rw [List.length_append, List.length_singleton] at hj
              by_cases e : j < acc.length
              · rw [accE_app a e]; exact hok j e
              · obtain rfl : j = acc.length := by omega
                rw [accE_last]; exact hf) h
            refine ⟨h1, a :: r, by rw [h2]; simp, ?_⟩
            rw [joinL_cons _ hps, h3]
            have := lineA_line ha
            rw [join_cut] at this
            show _ = lineL a ++ printL r
            rw [← this]; simp
          · rw [if_neg hf] at h
            injection h with _ h2
            injection h2 with _ h3
            exact absurd h3 hf
theorem parse_back {s : List UInt8} {m : List Acc} {k : Int} (h : parseR (cutL 10 s) [] = (m, k, 0)) : chartE m = 0 ∧ printL m = s := by
  obtain ⟨h1, r, h2, h3⟩ := parse_ok _ _ _ _ (cutL_ne s) (by simp) (fun j hj => by simp at hj) h
  rw [join_cut] at h3
  rw [h3, h2]
  exact ⟨h2 ▸ h1, by simp⟩
end Go.Proofs.YthmjkhlndphldaaDoor
