/- Plain facts of charts that nothing is wrong with. -/
import Derived.Test.YtjojjicpdfmopaaGreatDoorChartX
namespace Go.Proofs.YtjojjicpdfmopaaGreatDoor
open Go Go.RowKit
set_option linter.unusedVariables false

theorem scanE_all {l : List Acc} : ∀ (n i : Nat), scanE l i n = 0 → ∀ j, i ≤ j → j < i + n → accE l j = 0 := by
  intro n
  induction n with
  | zero => intro i _ j h1 h2; omega
  | succ n ih =>
    intro i h j h1 h2
    unfold scanE at h
    by_cases e : accE l i = 0
    · rw [if_pos e] at h
      by_cases ej : j = i
      · subst ej; exact e
      · exact ih (i + 1) h j (by omega) (by omega)
    · rw [if_neg e] at h; exact absurd h e

theorem chartE_len {l : List Acc} (h : chartE l = 0) : l.length ≤ 60 := by
  unfold chartE at h
  by_cases h60 : 60 < l.length
  · rw [if_pos h60] at h; omega
  · omega
theorem chartE_acc {l : List Acc} (h : chartE l = 0) (i : Nat) (hi : i < l.length) : accF (l.take i) l[i] = 0 := by
  have hl := chartE_len h
  unfold chartE at h
  rw [if_neg (by omega)] at h
  have := scanE_all _ _ h i (by omega) (by omega)
  rwa [accE_at hi] at this

/-- what an account that nothing is wrong with has -/
structure AccGood (f : List Acc) (a : Acc) : Prop where
  code : digitsB a.code 6 = true
  name : nameB a.name = true
  lo : 1 ≤ a.kind
  hi : a.kind ≤ 5
  order : ordOk f a = true
  parent : a.parent.toList.isEmpty = true ∨ (a.parent.toList.isEmpty = false ∧ ∃ k, idxO f a.parent = some k ∧ f[k]?.map (·.kind) = some a.kind)

theorem accF_good {f : List Acc} {a : Acc} (h : accF f a = 0) : AccGood f a := by
  unfold accF at h
  cases h1 : digitsB a.code 6 with
  | false => rw [if_pos h1] at h; omega
  | true =>
    rw [if_neg (by simp [h1])] at h
    cases h2 : nameB a.name with
    | false => rw [if_pos h2] at h; omega
    | true =>
      rw [if_neg (by simp [h2])] at h
      by_cases h3 : a.kind < 1
      · rw [if_pos h3] at h; omega
      · rw [if_neg h3] at h
        by_cases h4 : 5 < a.kind
        · rw [if_pos h4] at h; omega
        · rw [if_neg h4] at h
          by_cases h5 : ordOk f a = false
          · rw [if_pos h5] at h; omega
          · rw [if_neg h5] at h
            have h5' : ordOk f a = true := by simpa using h5
            cases h6 : a.parent.toList.isEmpty with
            | true => exact ⟨h1, h2, by omega, by omega, h5', .inl h6⟩
            | false =>
              rw [if_neg (by simp [h6])] at h
              cases h7 : idxO f a.parent with
              | none => simp [h7] at h
              | some k =>
                simp only [h7] at h
                by_cases h8 : f[k]?.map (·.kind) = some a.kind
                · exact ⟨h1, h2, by omega, by omega, h5', .inr ⟨h6, k, h7, h8⟩⟩
                · rw [if_neg h8] at h; omega

theorem bytesLess_irrefl : ∀ x : List UInt8, Op.bytesLess x x = false := by
  intro x
  induction x with
  | nil => rfl
  | cons a x ih => simp [Op.bytesLess, ih]
theorem bytesLess_trans : ∀ x y z : List UInt8, Op.bytesLess x y = true → Op.bytesLess y z = true → Op.bytesLess x z = true := by
  intro x
  induction x with
  | nil =>
    intro y z h1 h2
    cases z with
    | nil => cases y <;> simp [Op.bytesLess] at h2
    | cons c z => simp [Op.bytesLess]
  | cons a x ih =>
    intro y z h1 h2
    cases y with
    | nil => simp [Op.bytesLess] at h1
    | cons b y =>
      cases z with
      | nil => simp [Op.bytesLess] at h2
      | cons c z =>
        simp only [Op.bytesLess, Bool.or_eq_true, decide_eq_true_eq, Bool.and_eq_true, beq_iff_eq] at *
        rcases h1 with h1 | ⟨rfl, h1⟩
        · rcases h2 with h2 | ⟨rfl, h2⟩
          · exact .inl (UInt8.lt_trans h1 h2)
          · exact .inl h1
        · rcases h2 with h2 | ⟨rfl, h2⟩
          · exact .inl h2
          · exact .inr ⟨rfl, ih _ _ h1 h2⟩

section
variable {l : List Acc} (h : chartE l = 0)
include h
theorem ch_good (i : Nat) (hi : i < l.length) : AccGood (l.take i) l[i] := accF_good (chartE_acc h i hi)

theorem ch_next (i : Nat) (hi : i + 1 < l.length) : Op.bytesLess (l[i]'(by omega)).code.toList l[i+1].code.toList = true := by
  have := (ch_good h (i + 1) hi).order
  unfold ordOk at this
  rw [take_last (by omega) hi] at this
  exact this

theorem ch_sorted (i : Nat) : ∀ j, (hij : i < j) → (hj : j < l.length) → Op.bytesLess (l[i]'(by omega)).code.toList l[j].code.toList = true := by
  intro j
  induction j with
  | zero => intro h1 _; omega
  | succ j ih =>
    intro h1 hj
    by_cases e : i = j
    · subst e; exact ch_next h i hj
    · exact bytesLess_trans _ _ _ (ih (by omega) (by omega)) (ch_next h j hj)

theorem ch_inj (i j : Nat) (hi : i < l.length) (hj : j < l.length) (e : l[i].code.toList = l[j].code.toList) : i = j := by
  rcases Nat.lt_trichotomy i j with h1 | h1 | h1
  · have := ch_sorted h i j h1 hj
    rw [e, bytesLess_irrefl] at this; cases this
  · exact h1
  · have := ch_sorted h j i h1 hi
    rw [e, bytesLess_irrefl] at this; cases this

theorem ch_idx (i : Nat) (hi : i < l.length) : idxO l l[i].code = some i := by
  unfold idxO
  rw [List.findIdx?_eq_some_iff_getElem]
  refine ⟨hi, by simp, fun j hj hc => ?_⟩
  have := ch_inj h j i (by omega) hi (by simpa using hc)
  omega

theorem ch_code (i : Nat) (hi : i < l.length) : l[i].code.toList.isEmpty = false := by
  have := (ch_good h i hi).code
  unfold digitsB at this
  simp only [Bool.and_eq_true, Bool.not_eq_true'] at this
  exact this.1.1

/-- an account's parent, where it has one -/
theorem ch_parent (i : Nat) (hi : i < l.length) (hp : l[i].parent.toList.isEmpty = false) :
    ∃ p, ∃ hp : p < i, idxO (l.take i) l[i].parent = some p ∧ (l[p]'(by omega)).code.toList = l[i].parent.toList ∧ (l[p]'(by omega)).kind = l[i].kind := by
  rcases (ch_good h i hi).parent with h1 | ⟨_, k, h1, h2⟩
  · rw [h1] at hp; cases hp
  · have hk := idxO_lt h1
    rw [List.length_take] at hk
    refine ⟨k, by omega, h1, ?_, ?_⟩
    · unfold idxO at h1
      have := (List.findIdx?_eq_some_iff_getElem.1 h1).2.1
      simpa [List.getElem_take] using this
    · rw [List.getElem?_take, if_pos (by omega), List.getElem?_eq_getElem (by omega)] at h2
      simpa using h2

/-- no account's code is the empty text -/
theorem ch_noroot (i : Nat) (hi : i < l.length) (hp : l[i].parent.toList.isEmpty = true) : idxO (l.take i) l[i].parent = none := by
  unfold idxO
  rw [List.findIdx?_eq_none_iff]
  intro x hx
  obtain ⟨j, hj, rfl⟩ := List.getElem_of_mem hx
  rw [List.length_take] at hj
  rw [List.getElem_take]
  have := ch_code h j (by omega)
  have h0 : l[i].parent.toList = [] := by simpa using hp
  rw [h0]
  cases hc : (l[j]'(by omega)).code.toList with
  | nil => rw [hc] at this; cases this
  | cons a x => rfl
end

/-! ### what is under what -/
theorem belTo_keep (l : List Acc) (i : Nat) : ∀ m d j, j < i + 1 + m → belTo l i (m + d) j = belTo l i m j := by
  intro m d
  induction d with
  | zero => intro j _; rfl
  | succ d ih =>
    intro j hj
    rw [show m + (d + 1) = (m + d) + 1 from by omega, belTo, if_neg (by omega)]
    exact ih j hj
theorem belTo_lt (l : List Acc) (i : Nat) : ∀ m j, j < i → belTo l i m j = false := by
  intro m
  induction m with
  | zero => intro j hj; simp [belTo]; omega
  | succ m ih => intro j hj; rw [belTo, if_neg (by omega)]; exact ih j hj
theorem bel_lt {l : List Acc} {i j : Nat} (hj : j < i) : bel l i j = false := belTo_lt l i _ j hj
theorem bel_self (l : List Acc) (i : Nat) : bel l i i = true := by
  unfold bel
  have := belTo_keep l i 0 (l.length - i - 1) i (by omega)
  rw [Nat.zero_add] at this
  rw [this]; simp [belTo]
theorem bel_gt {l : List Acc} {i k : Nat} (hik : i < k) (hk : k < l.length) : bel l i k = (match idxO (l.take k) l[k].parent with | some p => bel l i p | none => false) := by
  obtain ⟨m, rfl⟩ : ∃ m, k = i + 1 + m := ⟨k - i - 1, by omega⟩
  obtain ⟨d, hd⟩ : ∃ d, l.length - i - 1 = m + 1 + d := ⟨l.length - i - 1 - (m + 1), by omega⟩
  unfold bel
  rw [hd, belTo_keep l i (m + 1) d _ (by omega), belTo, if_pos rfl, List.getElem?_eq_getElem hk]
  simp only []
  cases hx : idxO (l.take (i + 1 + m)) l[i + 1 + m].parent with
  | none => rfl
  | some p =>
    have hp := idxO_lt hx
    rw [List.length_take] at hp
    simp only []
    rw [show m + 1 + d = m + (1 + d) from by omega, belTo_keep l i m (1 + d) p (by omega)]

theorem bel_kind {l : List Acc} (h : chartE l = 0) (i : Nat) : ∀ k, (hk : k < l.length) → bel l i k = true → ∃ hi : i < l.length, l[k].kind = l[i].kind := by
  intro k
  induction k using Nat.strongRecOn with
  | _ k ih =>
    intro hk hb
    rcases Nat.lt_trichotomy i k with h1 | h1 | h1
    · rw [bel_gt h1 hk] at hb
      cases hx : l[k].parent.toList.isEmpty with
      | true => rw [ch_noroot h k hk hx] at hb; cases hb
      | false =>
        obtain ⟨p, hp, e1, _, e3⟩ := ch_parent h k hk hx
        rw [e1] at hb
        obtain ⟨hi, e4⟩ := ih p hp (by omega) hb
        exact ⟨hi, by rw [← e3, e4]⟩
    · subst h1; exact ⟨hk, rfl⟩
    · rw [bel_lt h1] at hb; cases hb

/-- has account i no parent? -/
def topB (l : List Acc) (i : Nat) : Bool := match l[i]? with | some a => a.parent.toList.isEmpty | none => false
/-- under how many of the accounts ahead of m that have no parent is account t? -/
def seenTo (l : List Acc) (m t : Nat) : Nat := ((List.range m).filter fun i => topB l i && bel l i t).length

theorem seenTo_le (l : List Acc) (m t : Nat) : seenTo l m t ≤ m := by
  unfold seenTo
  exact Nat.le_trans (List.length_filter_le _ _) (by simp)
theorem seenTo_succ (l : List Acc) (m t : Nat) : seenTo l (m + 1) t = seenTo l m t + if topB l m && bel l m t then 1 else 0 := by
  unfold seenTo
  rw [List.range_succ, List.filter_append, List.length_append]
  congr 1
  by_cases h : (topB l m && bel l m t) = true
  · rw [if_pos h]; simp [h]
  · rw [if_neg h]; simp [h]

theorem filt_one (p : Nat → Bool) (i : Nat) (hp : p i = true) : ∀ n, i < n → (∀ k, k < n → k ≠ i → p k = false) → (List.range n).filter p = [i] := by
  intro n
  induction n with
  | zero => intro h _; omega
  | succ n ih =>
    intro hi hk
    rw [List.range_succ, List.filter_append]
    by_cases e : i = n
    · subst e
      have : (List.range i).filter p = [] := by
        rw [List.filter_eq_nil_iff]
        intro k hk'
        have hki := List.mem_range.1 hk'
        rw [hk k (by omega) (by omega)]; decide
      rw [this]; simp [hp]
    · rw [ih (by omega) (fun k h1 h2 => hk k (by omega) h2)]
      simp [hk n (by omega) (fun e' => e e'.symm)]

theorem seen_one {l : List Acc} (h : chartE l = 0) : ∀ t, (ht : t < l.length) → seenTo l l.length t = 1 := by
  intro t
  induction t using Nat.strongRecOn with
  | _ t ih =>
    intro ht
    cases hx : l[t].parent.toList.isEmpty with
    | true =>
      unfold seenTo
      rw [filt_one _ t (by simp [topB, ht, hx, bel_self]) _ ht (fun k hk hkt => ?_)]
      · rfl
      · rcases Nat.lt_or_ge k t with h1 | h1
        · have hb := bel_gt h1 ht
          rw [ch_noroot h t ht hx] at hb
          simp [hb]
        · rw [bel_lt (show t < k by omega)]; simp
    | false =>
      obtain ⟨p, hp, e1, _, _⟩ := ch_parent h t ht hx
      rw [← ih p hp (by omega)]
      unfold seenTo
      congr 1
      apply List.filter_congr
      intro i hi
      rcases Nat.lt_trichotomy i t with h1 | h1 | h1
      · rw [bel_gt h1 ht, e1]
      · subst h1; simp [topB, ht, hx]
      · rw [bel_lt h1, bel_lt (show p < i by omega)]

theorem underTo_map {l : List Acc} (i n : Nat) : n ≤ l.length → underTo l i n = ((List.range n).filter fun j => bel l i j).filterMap fun j => (l[j]?).map (·.code) := fun _ => rfl

/-- the places of those under i -/
def uIdx (l : List Acc) (i : Nat) : List Nat := (List.range l.length).filter fun j => bel l i j
theorem uIdx_lt {l : List Acc} {i j : Nat} (h : j ∈ uIdx l i) : j < l.length := by
  unfold uIdx at h
  exact List.mem_range.1 (List.mem_filter.1 h).1
theorem uIdx_bel {l : List Acc} {i j : Nat} (h : j ∈ uIdx l i) : bel l i j = true := by
  unfold uIdx at h
  exact (List.mem_filter.1 h).2
theorem uIdx_mem {l : List Acc} {i j : Nat} (hj : j < l.length) (h : bel l i j = true) : j ∈ uIdx l i := by
  unfold uIdx
  exact List.mem_filter.2 ⟨List.mem_range.2 hj, h⟩
theorem uIdx_nodup (l : List Acc) (i : Nat) : (uIdx l i).Nodup := List.Pairwise.filter _ List.nodup_range

theorem fm_len {l : List Acc} : ∀ (q : List Nat), (∀ j ∈ q, j < l.length) → (q.filterMap fun j => (l[j]?).map (·.code)).length = q.length := by
  intro q
  induction q with
  | nil => intro _; rfl
  | cons a q ih =>
    intro hq
    have ha : a < l.length := hq a (List.mem_cons_self)
    rw [List.filterMap_cons]
    simp only [List.getElem?_eq_getElem ha, Option.map_some, List.length_cons]
    rw [ih (fun j hj => hq j (List.mem_cons_of_mem _ hj))]
theorem fm_get {l : List Acc} : ∀ (q : List Nat), (∀ j ∈ q, j < l.length) → ∀ k, (hk : k < q.length) → (q.filterMap fun j => (l[j]?).map (·.code))[k]? = (l[q[k]]?).map (·.code) := by
  intro q
  induction q with
  | nil => intro _ k hk; simp at hk
  | cons a q ih =>
    intro hq k hk
    have ha : a < l.length := hq a (List.mem_cons_self)
    rw [List.filterMap_cons]
    simp only [List.getElem?_eq_getElem ha, Option.map_some]
    cases k with
    | zero => simp [ha]
    | succ k =>
      simp only [List.getElem?_cons_succ, List.getElem_cons_succ]
      exact ih (fun j hj => hq j (List.mem_cons_of_mem _ hj)) k (by simpa using hk)

theorem under_len (l : List Acc) (i : Nat) : (underTo l i l.length).length = (uIdx l i).length := fm_len _ fun j hj => uIdx_lt hj
theorem under_get (l : List Acc) (i k : Nat) (hk : k < (uIdx l i).length) : (underTo l i l.length)[k]? = some (l[(uIdx l i)[k]]'(uIdx_lt (List.getElem_mem hk))).code := by
  have := fm_get (uIdx l i) (fun j hj => uIdx_lt hj) k hk
  rw [List.getElem?_eq_getElem (uIdx_lt (List.getElem_mem hk))] at this
  exact this

theorem uIdx_pos {l : List Acc} {i : Nat} (hi : i < l.length) : 0 < (uIdx l i).length := List.length_pos_of_mem (uIdx_mem hi (bel_self l i))

theorem leaf_iff {l : List Acc} (h : chartE l = 0) (i : Nat) (hi : i < l.length) : (uIdx l i).length = 1 ↔ leafE l l[i].code = 0 := by
  have h0 : idxI l l[i].code = i := by simp [idxI, ch_idx h i hi]
  unfold leafE
  rw [if_neg (by omega)]
  constructor
  · intro h1
    by_cases hp : 0 ≤ parI l l[i].code
    · exfalso
      unfold parI at hp
      cases hq : parO l l[i].code with
      | none => rw [hq] at hp; simp at hp
      | some k =>
        unfold parO at hq
        obtain ⟨hk, hc, _⟩ := List.findIdx?_eq_some_iff_getElem.1 hq
        have hc' : l[k].parent.toList = l[i].code.toList := by simpa using hc
        have hne : l[k].parent.toList.isEmpty = false := by rw [hc']; exact ch_code h i hi
        obtain ⟨p, hpk, e1, e2, _⟩ := ch_parent h k hk hne
        have hpi : p = i := ch_inj h p i (by omega) hi (by rw [e2, hc'])
        subst hpi
        have hb : bel l p k = true := by rw [bel_gt hpk hk, e1]; exact bel_self l p
        obtain ⟨x, hx⟩ := List.length_eq_one_iff.1 h1
        have m1 := uIdx_mem hi (bel_self l p)
        have m2 := uIdx_mem hk hb
        rw [hx] at m1 m2
        simp at m1 m2
        omega
    · rw [if_neg hp]
  · intro h1
    by_cases hp : 0 ≤ parI l l[i].code
    · rw [if_pos hp] at h1; omega
    · have hno : ∀ k, (hk : k < l.length) → (l[k].parent.toList == l[i].code.toList) = false := by
        intro k hk
        cases hq : parO l l[i].code with
        | some k' => exfalso; apply hp; simp [parI, hq]
        | none =>
          unfold parO at hq
          rw [List.findIdx?_eq_none_iff] at hq
          exact hq _ (List.getElem_mem hk)
      have hall : ∀ k, k < l.length → k ≠ i → bel l i k = false := by
        intro k
        induction k using Nat.strongRecOn with
        | _ k ih =>
          intro hk hki
          rcases Nat.lt_or_ge k i with h2 | h2
          · exact bel_lt h2
          · rw [bel_gt (by omega) hk]
            cases hx : l[k].parent.toList.isEmpty with
            | true => rw [ch_noroot h k hk hx]
            | false =>
              obtain ⟨p, hp, e1, e2, _⟩ := ch_parent h k hk hx
              rw [e1]
              by_cases e : p = i
              · subst e
                have := hno k hk
                rw [← e2] at this
                simp at this
              · exact ih p hp (by omega) e
      unfold uIdx
      rw [filt_one _ i (bel_self l i) _ hi (fun k hk hki => hall k hk hki)]
      rfl

theorem leaves_prefix (l : List Acc) {i n : Nat} (h : i ≤ n) : leavesTo l i <+: leavesTo l n := by
  unfold leavesTo
  exact ((List.take_prefix_take_left h).filter _).map _
theorem leaves_get {l : List Acc} {i n : Nat} (hi : i < l.length) (hn : i < n) (hl : leafE l l[i].code = 0) : (leavesTo l n)[(leavesTo l i).length]? = some l[i].code := by
  have hp := leaves_prefix l (show i + 1 ≤ n by omega)
  rw [leavesTo_yes hi hl] at hp
  obtain ⟨r, hr⟩ := hp
  rw [← hr, List.append_assoc, List.getElem?_append_right (Nat.le_refl _)]
  simp

/-- behind j rounds of the inner loop at account i -/
def seenIn (l : List Acc) (i j t : Nat) : Nat := seenTo l i t + (if topB l i = true ∧ t ∈ (uIdx l i).take j then 1 else 0)
theorem seenIn_le (l : List Acc) (i j t : Nat) : seenIn l i j t ≤ i + 1 := by
  unfold seenIn
  have := seenTo_le l i t
  split <;> omega
theorem seenIn_zero (l : List Acc) (i t : Nat) : seenIn l i 0 t = seenTo l i t := by simp [seenIn]
theorem seenIn_no {l : List Acc} {i : Nat} (h : topB l i = false) (j t : Nat) : seenIn l i j t = seenTo l i t := by simp [seenIn, h]
theorem seenIn_step {l : List Acc} {i j : Nat} (h : topB l i = true) (hj : j < (uIdx l i).length) (t : Nat) :
    seenIn l i (j + 1) t = if t = (uIdx l i)[j] then seenIn l i j t + 1 else seenIn l i j t := by
  have hm : ∀ t, t ∈ (uIdx l i).take (j + 1) ↔ t ∈ (uIdx l i).take j ∨ t = (uIdx l i)[j] := by
    intro t
    rw [List.take_succ_eq_append_getElem hj, List.mem_append, List.mem_singleton]
  unfold seenIn
  by_cases e : t = (uIdx l i)[j]
  · have hn : t ∉ (uIdx l i).take j := by
      intro hm
      rw [List.mem_take_iff_getElem] at hm
      obtain ⟨k, hk, hkt⟩ := hm
      have := List.pairwise_iff_getElem.1 (uIdx_nodup l i) k j (by omega) hj (by omega)
      exact this (hkt.trans e)
    rw [if_pos e, if_pos ⟨h, (hm t).2 (.inr e)⟩, if_neg (fun hh => hn hh.2)]
  · rw [if_neg e]
    congr 1
    by_cases ht : t ∈ (uIdx l i).take j
    · rw [if_pos ⟨h, (hm t).2 (.inl ht)⟩, if_pos ⟨h, ht⟩]
    · rw [if_neg (fun hh => (((hm t).1 hh.2).elim ht e)), if_neg (fun hh => ht hh.2)]
theorem seenIn_all {l : List Acc} {i : Nat} (t : Nat) (ht : t < l.length) : seenIn l i (uIdx l i).length t = seenTo l (i + 1) t := by
  rw [seenTo_succ]
  unfold seenIn
  rw [List.take_length]
  congr 1
  cases h1 : topB l i with
  | false => simp
  | true =>
    cases h2 : bel l i t with
    | true => simp [uIdx_mem ht h2]
    | false =>
      have : t ∉ uIdx l i := fun hm => by rw [uIdx_bel hm] at h2; cases h2
      simp [this]
end Go.Proofs.YtjojjicpdfmopaaGreatDoor
