/- Holdings, in plain words: what is wrong with them, their order, what parts the top has. -/
import Derived.Test.YtggmbjdonlbfkaaGreatDoorBesafterBalP
import Derived.Test.YtggmbjdonlbfkaaGreatDoorBesafterBigI
namespace Go.Proofs.YtggmbjdonlbfkaaGreatDoorBesafter
open Go Go.RowKit
set_option linter.unusedVariables false

structure Hold where
  ent : Int
  wh : Int
  part : Int
instance : Inhabited Hold := ⟨⟨0, 0, 0⟩⟩
def Hold.enc (h : Hold) : List Value := [.int .i64 h.ent, .int .i64 h.wh, .int .i64 h.part]
theorem holdEnc_ok : Enc 3 Hold.enc := ⟨fun _ => rfl, fun _ u hu => by simp [Hold.enc] at hu; rcases hu with rfl | rfl | rfl <;> rfl⟩
def sameH (h x : Hold) : Bool := x.ent == h.ent && x.wh == h.wh
def holdE (l : List Hold) (k : Nat) : Int := match l[k]? with | none => 0 | some h => if inB 1 12 h.ent = false ∨ inB 1 12 h.wh = false ∨ h.part < 1 ∨ 1000 < h.part then 1 else if h.ent = h.wh ∨ (l.take k).any (sameH h) = true then 8 else 0
/-- what the first k have of an entity -/
def hadTo (l : List Hold) (e : Int) (k : Nat) : Int := ((l.take k).map fun h => if h.wh = e then h.part else 0).sum
def sumHE (l : List Hold) (k : Nat) : Int := match l[k]? with | none => 0 | some h => if 1000 < hadTo l h.wh (k + 1) then 11 else 0
def inL (out : List Int) (e : Int) : Bool := out.any fun x => x == e
def waits (out : List Int) (e : Int) (h : Hold) : Bool := h.wh == e && !inL out h.ent
def mayP (l : List Hold) (out : List Int) (e : Int) : Bool := !inL out e && !(l.any (waits out e))
/-- a round over the first entities -/
def roundTo (l : List Hold) (out : List Int) : Nat → List Int
  | 0 => out
  | k + 1 => if mayP l (roundTo l out k) ((k : Int) + 1) = true then roundTo l out k ++ [(k : Int) + 1] else roundTo l out k
def orderN (l : List Hold) : Nat → List Int → List Int
  | 0, _ => []
  | f + 1, out => if 12 ≤ out.length then out else if (roundTo l out 12).length = out.length then [] else orderN l f (roundTo l out 12)
def orderF (l : List Hold) : List Int := orderN l 13 []
def holdsE (l : List Hold) : Int := if 20 < l.length then 4 else if firstE (holdE l) l.length ≠ 0 then firstE (holdE l) l.length else if firstE (sumHE l) l.length ≠ 0 then firstE (sumHE l) l.length else if orderF l = [] then 5 else 0
def sumP (l : List Hold) (o : List Int) (e : Int) (k : Nat) : Int := ((l.take k).map fun h => if h.wh = e then o.getD (h.ent - 1).toNat 0 * h.part else 0).sum
def partsTo (l : List Hold) (top : Int) (ord : List Int) : Nat → List Int
  | 0 => List.replicate 12 0
  | k + 1 => match ord[k]? with
    | none => partsTo l top ord k
    | some e => (partsTo l top ord k).set (e - 1).toNat (if e = top then 1000 else (sumP l (partsTo l top ord k) e l.length).tdiv 1000)
def partsF (l : List Hold) (top : Int) : List Int := partsTo l top (orderF l) (orderF l).length

/-- numbers of 1 to 12, none twice -/
structure Ord12 (o : List Int) : Prop where
  nd : o.Nodup
  rng : ∀ x ∈ o, 1 ≤ x ∧ x ≤ 12
theorem inL_iff (o : List Int) (e : Int) : inL o e = true ↔ e ∈ o := by
  unfold inL
  rw [List.any_eq_true]
  constructor
  · rintro ⟨x, hx, h⟩
    have : x = e := by simpa using h
    subst this; exact hx
  · intro h; exact ⟨e, h, by simp⟩
theorem Ord12.step {o : List Int} (h : Ord12 o) {e : Int} (he : 1 ≤ e ∧ e ≤ 12) (hn : inL o e = false) : Ord12 (o ++ [e]) := by
  have hne : e ∉ o := fun hm => by rw [(inL_iff o e).2 hm] at hn; cases hn
  refine ⟨?_, fun x hx => ?_⟩
  · rw [List.nodup_append]
    refine ⟨h.nd, by simp, fun a ha b hb => ?_⟩
    obtain rfl := List.mem_singleton.1 hb
    exact fun e2 => hne (e2 ▸ ha)
  · rcases List.mem_append.1 hx with hx | hx
    · exact h.rng x hx
    · obtain rfl := List.mem_singleton.1 hx
      exact he
theorem round_ord (l : List Hold) {out : List Int} (h : Ord12 out) : ∀ k, k ≤ 12 → Ord12 (roundTo l out k)
  | 0, _ => h
  | k + 1, hk => by
    have ih := round_ord l h k (by omega)
    rw [roundTo]
    by_cases hm : mayP l (roundTo l out k) ((k : Int) + 1) = true
    · rw [if_pos hm]
      have h2 : inL (roundTo l out k) ((k : Int) + 1) = false := by
        unfold mayP at hm
        simp at hm
        exact hm.1
      exact ih.step (by omega) h2
    · rw [if_neg hm]; exact ih
theorem orderN_ord (l : List Hold) : ∀ f out, Ord12 out → Ord12 (orderN l f out) ∧ (orderN l f out = [] ∨ 12 ≤ (orderN l f out).length)
  | 0, _, _ => ⟨⟨by simp [orderN], fun x hx => by simp [orderN] at hx⟩, .inl rfl⟩
  | f + 1, out, h => by
    rw [orderN]
    by_cases h1 : 12 ≤ out.length
    · rw [if_pos h1]; exact ⟨h, .inr h1⟩
    · rw [if_neg h1]
      by_cases h2 : (roundTo l out 12).length = out.length
      · rw [if_pos h2]; exact ⟨⟨by simp, fun x hx => by cases hx⟩, .inl rfl⟩
      · rw [if_neg h2]; exact orderN_ord l f _ (round_ord l h 12 (by omega))
theorem nodup_len : ∀ (o S : List Int), o.Nodup → (∀ x ∈ o, x ∈ S) → o.length ≤ S.length
  | [], _, _, _ => by simp
  | a :: o, S, hn, hs => by
    obtain ⟨h1, h2⟩ := List.nodup_cons.1 hn
    have h3 := nodup_len o (S.erase a) h2 (fun x hx => by
      have hxa : x ≠ a := fun e => h1 (e ▸ hx)
      exact (List.mem_erase_of_ne hxa).2 (hs x (by simp [hx])))
    have ha : a ∈ S := hs a (by simp)
    rw [List.length_erase_of_mem ha] at h3
    have : 0 < S.length := List.length_pos_of_mem ha
    rw [List.length_cons]; omega
theorem ord_all {o : List Int} (h : Ord12 o) (h12 : 12 ≤ o.length) {e : Int} (he : 1 ≤ e ∧ e ≤ 12) : e ∈ o := by
  rcases Decidable.em (e ∈ o) with hm | hm
  · exact hm
  · exfalso
    have h1 := nodup_len (e :: o) [1, 2, 3, 4, 5, 6, 7, 8, 9, 10, 11, 12] (List.nodup_cons.2 ⟨hm, h.nd⟩) (fun x hx => by
      have hr : 1 ≤ x ∧ x ≤ 12 := by
        rcases List.mem_cons.1 hx with rfl | hx
        · exact he
        · exact h.rng x hx
      simp only [List.mem_cons, List.not_mem_nil, or_false]
      omega)
    simp at h1
    omega
theorem order_ord (l : List Hold) : Ord12 (orderF l) ∧ (orderF l = [] ∨ 12 ≤ (orderF l).length) := orderN_ord l 13 [] ⟨by simp, fun x hx => by cases hx⟩
theorem had_step {l : List Hold} {k : Nat} (hk : k < l.length) (e : Int) : hadTo l e (k + 1) = hadTo l e k + if l[k].wh = e then l[k].part else 0 := by
  unfold hadTo
  rw [List.take_succ_eq_append_getElem hk, List.map_append, List.sum_append]
  simp
theorem sumP_step {l : List Hold} {k : Nat} (hk : k < l.length) (o : List Int) (e : Int) : sumP l o e (k + 1) = sumP l o e k + if l[k].wh = e then o.getD (l[k].ent - 1).toNat 0 * l[k].part else 0 := by
  unfold sumP
  rw [List.take_succ_eq_append_getElem hk, List.map_append, List.sum_append]
  simp
/-- no entity is had more than whole -/
theorem had_le {l : List Hold} (h : firstE (sumHE l) l.length = 0) (e : Int) : ∀ k, k ≤ l.length → hadTo l e k ≤ 1000
  | 0, _ => by simp [hadTo]
  | k + 1, hk => by
    have ih := had_le h e k (by omega)
    rw [had_step (by omega)]
    by_cases hw : l[k].wh = e
    · have h1 := firstE_0 h k (by omega)
      unfold sumHE at h1
      rw [List.getElem?_eq_getElem (by omega)] at h1
      simp only at h1
      split at h1
      · cases h1
      · rename_i h2
        rw [hw, had_step (by omega), if_pos hw] at h2
        rw [if_pos hw]; omega
    · rw [if_neg hw]; omega
theorem hold_part {l : List Hold} (h : firstE (holdE l) l.length = 0) {k : Nat} (hk : k < l.length) : (1 ≤ l[k].ent ∧ l[k].ent ≤ 12) ∧ (1 ≤ l[k].wh ∧ l[k].wh ≤ 12) ∧ 1 ≤ l[k].part ∧ l[k].part ≤ 1000 := by
  have h1 := firstE_0 h k hk
  unfold holdE at h1
  rw [List.getElem?_eq_getElem hk] at h1
  simp only at h1
  split at h1
  · cases h1
  · rename_i h2
    simp [inB] at h2
    omega
theorem sumP_le {l : List Hold} (h : firstE (holdE l) l.length = 0) (h2 : firstE (sumHE l) l.length = 0) {o : List Int} (ho : ∀ i, 0 ≤ o.getD i 0 ∧ o.getD i 0 ≤ 1000) (e : Int) : ∀ k, k ≤ l.length → 0 ≤ sumP l o e k ∧ sumP l o e k ≤ 1000 * hadTo l e k
  | 0, _ => by simp [sumP, hadTo]
  | k + 1, hk => by
    obtain ⟨i1, i2⟩ := sumP_le h h2 ho e k (by omega)
    rw [sumP_step (by omega), had_step (by omega)]
    by_cases hw : l[k].wh = e
    · rw [if_pos hw, if_pos hw]
      obtain ⟨_, _, p1, p2⟩ := hold_part h (k := k) (by omega)
      obtain ⟨o1, o2⟩ := ho (l[k].ent - 1).toNat
      have q1 := Int.mul_nonneg o1 (show 0 ≤ l[k].part by omega)
      have q2 := Int.mul_le_mul_of_nonneg_right o2 (show 0 ≤ l[k].part by omega)
      rw [Int.mul_add]
      omega
    · rw [if_neg hw, if_neg hw]; omega
theorem parts_rng {l : List Hold} (h : firstE (holdE l) l.length = 0) (h2 : firstE (sumHE l) l.length = 0) (top : Int) (ord : List Int) : ∀ k, (partsTo l top ord k).length = 12 ∧ ∀ i, 0 ≤ (partsTo l top ord k).getD i 0 ∧ (partsTo l top ord k).getD i 0 ≤ 1000
  | 0 => by
    refine ⟨by simp [partsTo], fun i => ?_⟩
    rw [partsTo, List.getD_eq_getElem?_getD, List.getElem?_replicate]
    split <;> simp
  | k + 1 => by
    obtain ⟨i1, i2⟩ := parts_rng h h2 top ord k
    rw [partsTo]
    cases hk : ord[k]? with
    | none => exact ⟨i1, i2⟩
    | some e =>
      refine ⟨by simp only [List.length_set]; exact i1, fun i => ?_⟩
      have hv : 0 ≤ (if e = top then (1000 : Int) else (sumP l (partsTo l top ord k) e l.length).tdiv 1000) ∧ (if e = top then (1000 : Int) else (sumP l (partsTo l top ord k) e l.length).tdiv 1000) ≤ 1000 := by
        by_cases he : e = top
        · rw [if_pos he]; omega
        · rw [if_neg he]
          obtain ⟨s1, s2⟩ := sumP_le h h2 i2 e l.length (Nat.le_refl _)
          have s3 := had_le h2 e l.length (Nat.le_refl _)
          rw [Int.tdiv_eq_ediv_of_nonneg s1]
          omega
      simp only [List.getD_eq_getElem?_getD, List.getElem?_set]
      by_cases hi : (e - 1).toNat = i
      · rw [if_pos hi]
        by_cases hl : (e - 1).toNat < (partsTo l top ord k).length
        · rw [if_pos hl]; exact hv
        · rw [if_neg hl]; simp
      · rw [if_neg hi]
        have := i2 i
        rw [List.getD_eq_getElem?_getD] at this
        exact this
theorem parts_top_to (l : List Hold) {top : Int} {ord : List Int} (ho : Ord12 ord) (ht : 1 ≤ top ∧ top ≤ 12) (h1 : ∀ k, (partsTo l top ord k).length = 12) : ∀ k, top ∈ ord.take k → (partsTo l top ord k).getD (top - 1).toNat 0 = 1000
  | 0, h => by simp at h
  | k + 1, h => by
    have ih := parts_top_to l ho ht h1 k
    have hl := h1 k
    rw [partsTo]
    cases hk : ord[k]? with
    | none =>
      have : ord.take (k + 1) = ord.take k := by
        have := List.getElem?_eq_none_iff.1 hk
        rw [List.take_of_length_le (by omega), List.take_of_length_le (by omega)]
      rw [this] at h
      exact ih h
    | some e =>
      obtain ⟨hkl, hke⟩ := List.getElem?_eq_some_iff.1 hk
      have he := ho.rng e (hke ▸ List.getElem_mem hkl)
      simp only [List.getD_eq_getElem?_getD, List.getElem?_set]
      by_cases et : e = top
      · subst et
        rw [if_pos rfl, if_pos (by omega), if_pos rfl]
        rfl
      · rw [if_neg (by omega)]
        rw [List.take_succ_eq_append_getElem hkl, hke] at h
        rcases List.mem_append.1 h with h | h
        · have := ih h
          rw [List.getD_eq_getElem?_getD] at this
          exact this
        · exact absurd (List.mem_singleton.1 h).symm et
/-- the top has all of itself, no more than all of any -/
theorem parts_law {l : List Hold} (h : holdsE l = 0) {top : Int} (ht : 1 ≤ top ∧ top ≤ 12) : (partsF l top).length = 12 ∧ (∀ i, 0 ≤ (partsF l top).getD i 0 ∧ (partsF l top).getD i 0 ≤ 1000) ∧ (partsF l top).getD (top - 1).toNat 0 = 1000 := by
  unfold holdsE at h
  split at h
  · cases h
  · split at h
    · rename_i h1 h2; exact absurd h h2
    · split at h
      · rename_i h1 h2 h3; exact absurd h h3
      · split at h
        · cases h
        · rename_i h1 h2 h3 h4
          have e1 : firstE (holdE l) l.length = 0 := by simpa using h2
          have e2 : firstE (sumHE l) l.length = 0 := by simpa using h3
          have hr := fun k => parts_rng e1 e2 top (orderF l) k
          obtain ⟨ho, hl⟩ := order_ord l
          refine ⟨(hr _).1, (hr _).2, ?_⟩
          refine parts_top_to l ho ht (fun k => (hr k).1) _ ?_
          rw [List.take_length]
          exact ord_all ho (hl.resolve_left h4) ht
theorem parts_none (top : Int) (ht : 1 ≤ top ∧ top ≤ 12) : holdsE [] = 0 ∧ (partsF [] top).sum = 1000 ∧ ∀ i, i ≠ (top - 1).toNat → (partsF [] top).getD i 0 = 0 := by
  have hc : top = 1 ∨ top = 2 ∨ top = 3 ∨ top = 4 ∨ top = 5 ∨ top = 6 ∨ top = 7 ∨ top = 8 ∨ top = 9 ∨ top = 10 ∨ top = 11 ∨ top = 12 := by omega
  have key : ∀ (L : List Int) (t : Nat), L.length = 12 → (∀ i, i < 12 → i ≠ t → L.getD i 0 = 0) → ∀ i, i ≠ t → L.getD i 0 = 0 := by
    intro L t hl h i hi
    by_cases h12 : i < 12
    · exact h i h12 hi
    · rw [List.getD_eq_getElem?_getD, List.getElem?_eq_none (by omega)]; rfl
  rcases hc with rfl | rfl | rfl | rfl | rfl | rfl | rfl | rfl | rfl | rfl | rfl | rfl <;>
    exact ⟨by decide +kernel, by decide +kernel, key _ _ (by decide +kernel) (by decide +kernel)⟩
theorem parts_fact : holdsE [⟨1, 2, 600⟩, ⟨2, 3, 500⟩] = 0 ∧ partsF [⟨1, 2, 600⟩, ⟨2, 3, 500⟩] 1 = [1000, 600, 300, 0, 0, 0, 0, 0, 0, 0, 0, 0] := by decide +kernel
end Go.Proofs.YtggmbjdonlbfkaaGreatDoorBesafter

namespace Go.Proofs.YtggmbjdonlbfkaaGreatDoorBesafter
open Go Go.RowKit
set_option linter.unusedVariables false

def idxA {α : Type} (l : List α) (p : α → Bool) : Int := match l.findIdx? p with | some k => (k : Int) | none => -1
section
variable {α : Type} {l : List α} {p : α → Bool} {k : Nat}
theorem NoTo.hitA (h : NoTo p l k) (hk : k < l.length) (hc : p l[k] = true) : idxA l p = (k : Int) := by
  have : l.findIdx? p = some k := by
    rw [List.findIdx?_eq_some_iff_getElem]
    exact ⟨hk, hc, fun j hj => by rw [h j (by omega) hj]; decide⟩
  unfold idxA; rw [this]
theorem NoTo.missA (h : NoTo p l k) (hk : l.length ≤ k) : idxA l p = -1 := by
  have : l.findIdx? p = none := by
    rw [List.findIdx?_eq_none_iff]
    intro x hx
    obtain ⟨j, hj, rfl⟩ := List.getElem_of_mem hx
    exact h j hj (by omega)
  unfold idxA; rw [this]
theorem idxA_any (l : List α) (p : α → Bool) : decide (0 ≤ idxA l p) = l.any p := by
  unfold idxA
  cases h : l.findIdx? p with
  | none =>
    rw [List.findIdx?_eq_none_iff] at h
    have : l.any p = false := List.any_eq_false.2 fun x hx => by rw [h x hx]; decide
    rw [this]; decide
  | some k =>
    obtain ⟨hk, hc, _⟩ := List.findIdx?_eq_some_iff_getElem.1 h
    have : l.any p = true := List.any_eq_true.2 ⟨_, List.getElem_mem hk, hc⟩
    rw [this]; simp
end
theorem inL_any (l : List Int) (t : Int) : (l.any fun x => t == x) = inL l t := by
  unfold inL
  congr 1
  funext x
  rw [Bool.eq_iff_iff, beq_iff_eq, beq_iff_eq]
  exact eq_comm

set_option maxRecDepth 100000 in
theorem index_intG (l : List Int) (t : Int) (A : Option Addr) (n cap : Nat) (w : World) (hl : n ≤ 9223372036854775807) (ha : Rd w 1 intEnc2 A n l) :
    Calls Tryz.prog 45 #[.slice A n cap, .int .i64 t] w fun e w' => e = .returned (.int .i64 (idxA l (fun x => t == x))) ∧ w = w' := by
  have Hn := hide ha.1
  go_enter Tryz.func45, Tryz.ntmps45
  go_wp2_with fail
  go_loopw [8] (fun i wr => w = wr ∧ ∃ k : Nat, k ≤ n ∧ i = .int .i64 k ∧ Hid (NoTo (fun x => t == x) l k)) (fun i _ => n - (intOf i).toNat)
  case atStart => exact ⟨rfl, 0, by omega, rfl, NoTo.zero _ _⟩
  case round =>
    obtain ⟨rfl, k, hk, rfl, HNo⟩ := hrel
    by_cases hlt : k < n
    · obtain ⟨b, off, rfl, hcs⟩ := ha.2 (by omega)
      have hkl : k < l.length := by have := Hn.out; omega
      have h0 := hcs k 0 _ hkl rfl
      simp only [Nat.mul_one, Nat.add_zero] at h0
      clear hcs
      have k0 : (0 : Int) ≤ (k : Int) := by omega
      have k1 : (k : Int) < (n : Int) := by omega
      obtain ⟨x, hx⟩ : ∃ x, x = l[k] := ⟨_, rfl⟩
      rw [← hx] at h0
      have HX := hide hx
      clear hx
      cases hp : (t == x) with
      | true =>
        have HP : Hid ((t == l[k]) = true) := by show _ = _; rw [← HX.out]; exact hp
        go_wp2_with fail
        go_ret
        exact ⟨ret_int (HNo.out.hitA hkl HP.out).symm, rfl⟩
      | false =>
        have HP : Hid ((t == l[k]) = false) := by show _ = _; rw [← HX.out]; exact hp
        go_wp2_with fail
        go_roundw
        case rel => exact ⟨by first | rfl | trivial, k + 1, by omega, by go_num, HNo.out.succ hkl HP.out⟩
        case measure => simp [intOf]; omega
    · go_wp2_with fail
      go_ret
      exact ⟨ret_int (HNo.out.missA (by have := Hn.out; omega)).symm, rfl⟩
theorem contains_intG (l : List Int) (t : Int) (A : Option Addr) (n cap : Nat) (w : World) (hl : n ≤ 9223372036854775807) (ha : Rd w 1 intEnc2 A n l) :
    Calls Tryz.prog 21 #[.slice A n cap, .int .i64 t] w fun e w' => e = .returned (.bool (inL l t)) ∧ w = w' := by
  have HA := hide ((idxA_any l (fun x => t == x)).trans (inL_any l t))
  go_enter Tryz.func21, Tryz.ntmps21
  go_wp2_with fail
  refine (index_intG l t _ _ _ _ hl ha).mono ?_
  rintro e w1 ⟨rfl, rfl⟩
  go_wp2_with fail
  go_ret
  exact ⟨ret_bool HA.out, rfl⟩

/-- what a holding is to another one of the same two -/
theorem sameClo (x h : Hold) (g : Nat) (w : World) (g0 : w.cell? ⟨g, 0, none⟩ = some (.int .i64 h.ent)) (g1 : w.cell? ⟨g, 1, none⟩ = some (.int .i64 h.wh)) :
    Calls Tryz.prog 20 #[.agg #[.int .i64 x.ent, .int .i64 x.wh, .int .i64 x.part], .pointer (some ⟨g, 0, none⟩)] w fun e w' => e = .returned (.bool (sameH h x)) ∧ Below w.heap.size w w' := by
  have hg : g < w.heap.size := World.block_lt_of_cell? _ _ g0
  unfold sameH
  cases e1 : x.ent == h.ent with
  | false =>
    go_enter Tryz.func20, Tryz.ntmps20
    go_wp2_with fail
    go_ret
    exact ⟨rfl, (Below.refl _ _).alloc (Nat.le_refl _) _⟩
  | true =>
    go_enter Tryz.func20, Tryz.ntmps20
    go_wp2_with fail
    go_ret
    exact ⟨by simp, (Below.refl _ _).alloc (Nat.le_refl _) _⟩
/-- whether a holding keeps an entity waiting -/
theorem waitClo (x : Hold) (t : Int) (out : List Int) (ge gq : Nat) (A : Option Addr) (n c : Nat) (w : World) (g0 : w.cell? ⟨ge, 0, none⟩ = some (.int .i64 t)) (g1 : w.cell? ⟨gq, 0, none⟩ = some (.slice A n c)) (hl : n ≤ 9223372036854775807) (ha : Rd w 1 intEnc2 A n out) :
    Calls Tryz.prog 22 #[.agg #[.int .i64 x.ent, .int .i64 x.wh, .int .i64 x.part], .pointer (some ⟨ge, 0, none⟩), .pointer (some ⟨gq, 0, none⟩)] w fun e w' => e = .returned (.bool (waits out t x)) ∧ Below w.heap.size w w' := by
  have hg : ge < w.heap.size := World.block_lt_of_cell? _ _ g0
  have hq : gq < w.heap.size := World.block_lt_of_cell? _ _ g1
  have hb : Below w.heap.size w (w.alloc (.cells #[.int .i64 x.ent, .int .i64 x.wh, .int .i64 x.part] 31)) := (Below.refl _ _).alloc (Nat.le_refl _) _
  unfold waits
  cases e1 : x.wh == t with
  | false =>
    go_enter Tryz.func22, Tryz.ntmps22
    go_wp2_with fail
    go_ret
    exact ⟨rfl, hb⟩
  | true =>
    go_enter Tryz.func22, Tryz.ntmps22
    go_wp2_with fail
    refine (contains_intG out x.ent _ _ _ _ hl (ha.below hb)).mono ?_
    rintro e w1 ⟨rfl, rfl⟩
    go_wp2_with fail
    go_ret
    exact ⟨by simp, hb⟩

set_option maxRecDepth 100000 in
theorem index_same (l : List Hold) (h : Hold) (g : Nat) (A : Option Addr) (n cap : Nat) (w : World) (hl : n ≤ 9223372036854775807) (ha : Rd w 3 Hold.enc A n l) (g0 : w.cell? ⟨g, 0, none⟩ = some (.int .i64 h.ent)) (g1 : w.cell? ⟨g, 1, none⟩ = some (.int .i64 h.wh)) :
    Calls Tryz.prog 44 #[.slice A n cap, .func (.func 20) #[] #[.pointer (some ⟨g, 0, none⟩)]] w fun e w' => e = .returned (.int .i64 (idxA l (sameH h))) ∧ Below w.heap.size w w' := by
  have Hn := hide ha.1
  go_enter Tryz.func44, Tryz.ntmps44
  go_wp2_with fail
  go_loopw [8] (fun i wr => ∃ k : Nat, k ≤ n ∧ i = .int .i64 k ∧ Hid (NoTo (sameH h) l k) ∧ Below w.heap.size w wr) (fun i _ => n - (intOf i).toNat)
  case atStart => exact ⟨0, by omega, rfl, NoTo.zero _ _, Below.refl _ _⟩
  case round =>
    obtain ⟨k, hk, rfl, HNo, hb⟩ := hrel
    by_cases hlt : k < n
    · obtain ⟨b, off, rfl, hcs⟩ := (ha.below hb).2 (by omega)
      have hkl : k < l.length := by have := Hn.out; omega
      have h0 := hcs k 0 _ hkl rfl
      have h1 := hcs k 1 _ hkl rfl
      have h2 := hcs k 2 _ hkl rfl
      rw [Nat.add_zero] at h0
      clear hcs
      have k0 : (0 : Int) ≤ (k : Int) := by omega
      have k1 : (k : Int) < (n : Int) := by omega
      have HC := hide (sameClo l[k] h g wr (below_cell hb (World.block_lt_of_cell? _ _ g0) g0) (below_cell hb (World.block_lt_of_cell? _ _ g1) g1))
      cases hp : sameH h l[k] with
      | true =>
        have HP := hide hp
        clear hp
        go_wp2_with (go_at_call 20; refine HC.out.mono ?_; rintro e w1 ⟨rfl, hb1⟩; rw [HP.out])
        go_ret
        exact ⟨ret_int (HNo.out.hitA hkl HP.out).symm, bthen hb (Nat.le_refl _) hb1⟩
      | false =>
        have HP := hide hp
        clear hp
        go_wp2_with (go_at_call 20; refine HC.out.mono ?_; rintro e w1 ⟨rfl, hb1⟩; rw [HP.out])
        go_roundw
        case rel => exact ⟨k + 1, by omega, by go_num, HNo.out.succ hkl HP.out, bthen hb (Nat.le_refl _) hb1⟩
        case measure => simp [intOf]; omega
    · go_wp2_with fail
      go_ret
      exact ⟨ret_int (HNo.out.missA (by have := Hn.out; omega)).symm, hb⟩
theorem contains_same (l : List Hold) (h : Hold) (g : Nat) (A : Option Addr) (n cap : Nat) (w : World) (hl : n ≤ 9223372036854775807) (ha : Rd w 3 Hold.enc A n l) (g0 : w.cell? ⟨g, 0, none⟩ = some (.int .i64 h.ent)) (g1 : w.cell? ⟨g, 1, none⟩ = some (.int .i64 h.wh)) :
    Calls Tryz.prog 19 #[.slice A n cap, .func (.func 20) #[] #[.pointer (some ⟨g, 0, none⟩)]] w fun e w' => e = .returned (.bool (l.any (sameH h))) ∧ Below w.heap.size w w' := by
  have HA := hide (idxA_any l (sameH h))
  go_enter Tryz.func19, Tryz.ntmps19
  go_wp2_with fail
  refine (index_same l h g _ _ _ _ hl ha g0 g1).mono ?_
  rintro e w1 ⟨rfl, hb1⟩
  go_wp2_with fail
  go_ret
  exact ⟨ret_bool HA.out, hb1⟩

set_option maxRecDepth 100000 in
theorem index_wait (l : List Hold) (t : Int) (out : List Int) (ge gq : Nat) (OA : Option Addr) (on oc : Nat) (A : Option Addr) (n cap : Nat) (w : World) (hl : n ≤ 9223372036854775807) (ha : Rd w 3 Hold.enc A n l) (g0 : w.cell? ⟨ge, 0, none⟩ = some (.int .i64 t)) (g1 : w.cell? ⟨gq, 0, none⟩ = some (.slice OA on oc)) (hol : on ≤ 9223372036854775807) (ho : Rd w 1 intEnc2 OA on out) :
    Calls Tryz.prog 44 #[.slice A n cap, .func (.func 22) #[] #[.pointer (some ⟨ge, 0, none⟩), .pointer (some ⟨gq, 0, none⟩)]] w fun e w' => e = .returned (.int .i64 (idxA l (waits out t))) ∧ Below w.heap.size w w' := by
  have Hn := hide ha.1
  go_enter Tryz.func44, Tryz.ntmps44
  go_wp2_with fail
  go_loopw [8] (fun i wr => ∃ k : Nat, k ≤ n ∧ i = .int .i64 k ∧ Hid (NoTo (waits out t) l k) ∧ Below w.heap.size w wr) (fun i _ => n - (intOf i).toNat)
  case atStart => exact ⟨0, by omega, rfl, NoTo.zero _ _, Below.refl _ _⟩
  case round =>
    obtain ⟨k, hk, rfl, HNo, hb⟩ := hrel
    by_cases hlt : k < n
    · obtain ⟨b, off, rfl, hcs⟩ := (ha.below hb).2 (by omega)
      have hkl : k < l.length := by have := Hn.out; omega
      have h0 := hcs k 0 _ hkl rfl
      have h1 := hcs k 1 _ hkl rfl
      have h2 := hcs k 2 _ hkl rfl
      rw [Nat.add_zero] at h0
      clear hcs
      have k0 : (0 : Int) ≤ (k : Int) := by omega
      have k1 : (k : Int) < (n : Int) := by omega
      have HC := hide (waitClo l[k] t out ge gq OA on oc wr (below_cell hb (World.block_lt_of_cell? _ _ g0) g0) (below_cell hb (World.block_lt_of_cell? _ _ g1) g1) hol (ho.below hb))
      cases hp : waits out t l[k] with
      | true =>
        have HP := hide hp
        clear hp
        go_wp2_with (go_at_call 22; refine HC.out.mono ?_; rintro e w1 ⟨rfl, hb1⟩; rw [HP.out])
        go_ret
        exact ⟨ret_int (HNo.out.hitA hkl HP.out).symm, bthen hb (Nat.le_refl _) hb1⟩
      | false =>
        have HP := hide hp
        clear hp
        go_wp2_with (go_at_call 22; refine HC.out.mono ?_; rintro e w1 ⟨rfl, hb1⟩; rw [HP.out])
        go_roundw
        case rel => exact ⟨k + 1, by omega, by go_num, HNo.out.succ hkl HP.out, bthen hb (Nat.le_refl _) hb1⟩
        case measure => simp [intOf]; omega
    · go_wp2_with fail
      go_ret
      exact ⟨ret_int (HNo.out.missA (by have := Hn.out; omega)).symm, hb⟩
theorem contains_wait (l : List Hold) (t : Int) (out : List Int) (ge gq : Nat) (OA : Option Addr) (on oc : Nat) (A : Option Addr) (n cap : Nat) (w : World) (hl : n ≤ 9223372036854775807) (ha : Rd w 3 Hold.enc A n l) (g0 : w.cell? ⟨ge, 0, none⟩ = some (.int .i64 t)) (g1 : w.cell? ⟨gq, 0, none⟩ = some (.slice OA on oc)) (hol : on ≤ 9223372036854775807) (ho : Rd w 1 intEnc2 OA on out) :
    Calls Tryz.prog 19 #[.slice A n cap, .func (.func 22) #[] #[.pointer (some ⟨ge, 0, none⟩), .pointer (some ⟨gq, 0, none⟩)]] w fun e w' => e = .returned (.bool (l.any (waits out t))) ∧ Below w.heap.size w w' := by
  have HA := hide (idxA_any l (waits out t))
  go_enter Tryz.func19, Tryz.ntmps19
  go_wp2_with fail
  refine (index_wait l t out ge gq OA on oc _ _ _ _ hl ha g0 g1 hol ho).mono ?_
  rintro e w1 ⟨rfl, hb1⟩
  go_wp2_with fail
  go_ret
  exact ⟨ret_bool HA.out, hb1⟩
end Go.Proofs.YtggmbjdonlbfkaaGreatDoorBesafter
