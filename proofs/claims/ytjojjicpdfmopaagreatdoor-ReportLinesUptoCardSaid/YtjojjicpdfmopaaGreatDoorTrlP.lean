/- Plain: what a trial balance is, as text, and when there is none; how many lines it has. -/
import Derived.Test.YtjojjicpdfmopaaGreatDoorRlnP
import Derived.Test.YtjojjicpdfmopaaGreatDoorBigI
namespace Go.Proofs.YtjojjicpdfmopaaGreatDoor
open Go Go.Lib
set_option linter.unusedVariables false

/-- the name of the account with code k -/
def accName (c : List Acc) (k : ByteArray) : ByteArray := match idxO c k with | some j => (match c[j]? with | some a => a.name | none => ⟨#[]⟩) | none => ⟨#[]⟩
def ownE (e : Int) (S : List Bal) : List Bal := S.filter fun x => decide (x.ent = e)
/-- the lines of the balances -/
def accT (c : List Acc) (p : Nat) (e : Int) (S : List Bal) : List UInt8 := (ownE e S).flatMap fun x => lineL (balL c p x (accName c x.acc))
def debs (e : Int) (k : ByteArray) (S : List Bal) : List Int := (S.filter fun x => decide (x.ent = e) && (decide (x.cur = k) && !decide (x.amt < 0))).map fun x => x.amt
def creds (e : Int) (k : ByteArray) (S : List Bal) : List Int := (S.filter fun x => decide (x.ent = e) && (decide (x.cur = k) && decide (x.amt < 0))).map fun x => -x.amt
/-- the line of a currency -/
def totL (p : Nat) (e : Int) (S : List Bal) (k : ByteArray) : List (List UInt8) := [[116, 111, 116, 97, 108], k.data.toList, showL (debs e k S).sum.toNat p, showL (creds e k S).sum.toNat p]
def totT (p : Nat) (e : Int) (S : List Bal) (ks : List ByteArray) : List UInt8 := ks.flatMap fun k => lineL (totL p e S k)
def sumOk (e : Int) (S : List Bal) (k : ByteArray) : Prop := in64 (debs e k S).sum = true ∧ in64 (creds e k S).sum = true
/-- all own balances' accounts are there -/
def found (c : List Acc) (e : Int) (S : List Bal) : Prop := ∀ x, x ∈ S → x.ent = e → 0 ≤ idxI c x.acc

section
variable {c : List Acc} {p : Nat} {e : Int} {S : List Bal} {k : ByteArray} {x : Bal}
theorem ownE_own (h : x.ent = e) : ownE e (S ++ [x]) = ownE e S ++ [x] := by simp [ownE, h]
theorem ownE_not (h : x.ent ≠ e) : ownE e (S ++ [x]) = ownE e S := by simp [ownE, h]
theorem accT_own (h : x.ent = e) : accT c p e (S ++ [x]) = accT c p e S ++ lineL (balL c p x (accName c x.acc)) := by
  unfold accT; rw [ownE_own h, List.flatMap_append]; simp
theorem accT_not (h : x.ent ≠ e) : accT c p e (S ++ [x]) = accT c p e S := by
  unfold accT; rw [ownE_not h]
theorem debs_snoc : debs e k (S ++ [x]) = debs e k S ++ (if x.ent = e ∧ x.cur = k ∧ ¬ x.amt < 0 then [x.amt] else []) := by
  unfold debs
  rw [List.filter_append, List.map_append]
  congr 1
  by_cases h1 : x.ent = e <;> by_cases h2 : x.cur = k <;> by_cases h3 : x.amt < 0 <;> simp [h1, h2, h3]
theorem creds_snoc : creds e k (S ++ [x]) = creds e k S ++ (if x.ent = e ∧ x.cur = k ∧ x.amt < 0 then [-x.amt] else []) := by
  unfold creds
  rw [List.filter_append, List.map_append]
  congr 1
  by_cases h1 : x.ent = e <;> by_cases h2 : x.cur = k <;> by_cases h3 : x.amt < 0 <;> simp [h1, h2, h3]
theorem debs_len : (debs e k S).length ≤ S.length := by
  unfold debs; rw [List.length_map]; exact List.length_filter_le _ _
theorem creds_len : (creds e k S).length ≤ S.length := by
  unfold creds; rw [List.length_map]; exact List.length_filter_le _ _
/-- nothing of a currency that is none of theirs -/
theorem debs_none (h : ∀ x, x ∈ S → x.ent = e → x.cur ≠ k) : debs e k S = [] := by
  unfold debs
  rw [List.map_eq_nil_iff, List.filter_eq_nil_iff]
  intro x hx
  by_cases h1 : x.ent = e
  · have := h x hx h1
    simp [this]
  · simp [h1]
theorem creds_none (h : ∀ x, x ∈ S → x.ent = e → x.cur ≠ k) : creds e k S = [] := by
  unfold creds
  rw [List.map_eq_nil_iff, List.filter_eq_nil_iff]
  intro x hx
  by_cases h1 : x.ent = e
  · have := h x hx h1
    simp [this]
  · simp [h1]
theorem sum_nonneg : ∀ {l : List Int}, (∀ n, n ∈ l → 0 ≤ n) → 0 ≤ l.sum
  | [], _ => by simp
  | n :: l, h => by
    have h1 := h n (List.mem_cons_self ..)
    have h2 := sum_nonneg (l := l) fun m hm => h m (List.mem_cons_of_mem _ hm)
    rw [List.sum_cons]; omega
theorem debs_nonneg : 0 ≤ (debs e k S).sum := sum_nonneg fun n hn => by
  unfold debs at hn
  obtain ⟨x, hx, rfl⟩ := List.mem_map.1 hn
  have := (List.mem_filter.1 hx).2
  simp at this; omega
theorem creds_nonneg : 0 ≤ (creds e k S).sum := sum_nonneg fun n hn => by
  unfold creds at hn
  obtain ⟨x, hx, rfl⟩ := List.mem_map.1 hn
  have := (List.mem_filter.1 hx).2
  simp at this; omega
theorem debs_ints (h : ∀ x, x ∈ S → mayB x.amt = true) : Ints64 (debs e k S) := by
  intro n hn
  unfold debs at hn
  obtain ⟨x, hx, rfl⟩ := List.mem_map.1 hn
  have := h x (List.mem_filter.1 hx).1
  unfold mayB inB at this
  simp at this; omega
theorem creds_ints (h : ∀ x, x ∈ S → mayB x.amt = true) : Ints64 (creds e k S) := by
  intro n hn
  unfold creds at hn
  obtain ⟨x, hx, rfl⟩ := List.mem_map.1 hn
  have := h x (List.mem_filter.1 hx).1
  unfold mayB inB at this
  simp at this; omega
theorem found_snoc : found c e (S ++ [x]) ↔ found c e S ∧ (x.ent = e → 0 ≤ idxI c x.acc) := by
  constructor
  · intro h
    exact ⟨fun y hy => h y (List.mem_append_left _ hy), h x (by simp)⟩
  · rintro ⟨h1, h2⟩ y hy
    rcases List.mem_append.1 hy with h | h
    · exact h1 y h
    · obtain rfl := List.mem_singleton.1 h; exact h2
end

theorem allIn_none {s l : ByteArray} (h : allIn s l = true) (hl : (10 : UInt8) ∉ l.data.toList) : (10 : UInt8) ∉ s.data.toList := by
  intro hm
  unfold allIn at h
  have := List.all_eq_true.1 h _ hm
  simp only [List.contains_iff_mem] at this
  exact hl this
theorem digits_none {s : ByteArray} {m : Int} (h : digitsB s m = true) : (10 : UInt8) ∉ s.data.toList := by
  unfold digitsB at h
  simp only [Bool.and_eq_true] at h
  exact allIn_none h.2 (by decide)
theorem name_none {s : ByteArray} (h : nameB s = true) : (10 : UInt8) ∉ s.data.toList := by
  unfold nameB at h
  simp only [Bool.and_eq_true] at h
  exact allIn_none h.2 (by decide)
theorem cur_none {s : ByteArray} (h : curB s = true) : (10 : UInt8) ∉ s.data.toList := by
  unfold curB at h
  simp only [Bool.and_eq_true] at h
  exact allIn_none h.2 (by decide)
/-- the account that is found -/
theorem idx_found {c : List Acc} {k : ByteArray} (h : 0 ≤ idxI c k) : ∃ (j : Nat) (hj : j < c.length), idxI c k = (j : Int) ∧ c[j].code = k ∧ accName c k = c[j].name := by
  unfold idxI at h
  cases ho : idxO c k with
  | none => rw [ho] at h; exact absurd h (by decide)
  | some j =>
    have hj : j < c.length := idxO_lt ho
    have h2 := ho
    unfold idxO at h2
    obtain ⟨_, h3, _⟩ := List.findIdx?_eq_some_iff_getElem.1 h2
    refine ⟨j, hj, by unfold idxI; rw [ho], ?_, ?_⟩
    · rw [beq_toList] at h3
      exact of_decide_eq_true h3
    · unfold accName
      rw [ho]
      show (match c[j]? with | some a => a.name | none => ⟨#[]⟩) = _
      rw [List.getElem?_eq_getElem hj]
theorem balL_none {c : List Acc} {p : Nat} {x : Bal} (hc : chartE c = 0) (hf : 0 ≤ idxI c x.acc) (hk : curB x.cur = true) : ∀ a, a ∈ balL c p x (accName c x.acc) → (10 : UInt8) ∉ a := by
  obtain ⟨j, hj, _, h1, h2⟩ := idx_found hf
  have hg := ch_good hc j hj
  intro a ha
  unfold balL at ha
  simp only [List.mem_cons, List.not_mem_nil, or_false] at ha
  rcases ha with rfl | rfl | rfl | rfl | rfl
  · rw [← h1]; exact digits_none hg.code
  · rw [h2]; exact name_none hg.name
  · exact cur_none hk
  · split <;> decide
  · exact show_none _ _
theorem totL_none {p : Nat} {e : Int} {S : List Bal} {k : ByteArray} (hk : curB k = true) : ∀ a, a ∈ totL p e S k → (10 : UInt8) ∉ a := by
  intro a ha
  unfold totL at ha
  simp only [List.mem_cons, List.not_mem_nil, or_false] at ha
  rcases ha with rfl | rfl | rfl | rfl
  · decide
  · exact cur_none hk
  · exact show_none _ _
  · exact show_none _ _
theorem trial_count {c : List Acc} {p : Nat} {e : Int} {S : List Bal} {ks : List ByteArray} (hc : chartE c = 0) (hf : found c e S) (hk : ∀ x, x ∈ S → x.ent = e → curB x.cur = true) (hp : ks.Perm (curIn e S)) :
    (accT c p e S ++ totT p e S ks).count 10 = wantN S e S.length := by
  rw [List.count_append]
  unfold accT totT
  rw [lines_count _ (ownE e S) (fun x hx => by
    have h1 := List.mem_filter.1 hx
    have h2 : x.ent = e := of_decide_eq_true h1.2
    exact balL_none hc (hf x h1.1 h2) (hk x h1.1 h2))]
  rw [lines_count _ ks (fun k hm => by
    obtain ⟨x, hx, h1, rfl⟩ := (curIn_mem e S k).1 (hp.mem_iff.1 hm)
    exact totL_none (hk x hx h1))]
  unfold wantN
  rw [List.take_length, hp.length_eq]
  rfl
end Go.Proofs.YtjojjicpdfmopaaGreatDoor
