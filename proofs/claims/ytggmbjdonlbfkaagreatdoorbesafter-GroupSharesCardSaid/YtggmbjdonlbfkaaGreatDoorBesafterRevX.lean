/- Plain facts of what is of the base: the balances of one currency, and what they are worth. -/
import Derived.Test.YtggmbjdonlbfkaaGreatDoorBesafterBalP
import Derived.Test.YtggmbjdonlbfkaaGreatDoorBesafterBalX
namespace Go.Proofs.YtggmbjdonlbfkaaGreatDoorBesafter
set_option linter.unusedVariables false

def eur : ByteArray := ⟨#[69, 85, 82]⟩
def isEur (x : Bal) : Bool := x.cur.toList == eur.toList
/-- of the first k balances those of the base -/
def eurTo (b : List Bal) (k : Nat) : List Bal := (b.take k).filter isEur
theorem eurTo_yes {b : List Bal} {k : Nat} (hk : k < b.length) (h : isEur b[k] = true) : eurTo b (k + 1) = eurTo b k ++ [b[k]] := by
  unfold eurTo
  rw [List.take_succ_eq_append_getElem hk, List.filter_append, List.filter_cons, if_pos h]
  rfl
theorem eurTo_no {b : List Bal} {k : Nat} (hk : k < b.length) (h : isEur b[k] = false) : eurTo b (k + 1) = eurTo b k := by
  unfold eurTo
  rw [List.take_succ_eq_append_getElem hk, List.filter_append, List.filter_cons, if_neg (by rw [h]; decide)]
  simp
theorem eurTo_len (b : List Bal) (k : Nat) : (eurTo b k).length ≤ k := by
  unfold eurTo
  exact Nat.le_trans (List.length_filter_le _ _) (by rw [List.length_take]; omega)
/-- all are of the base -/
def Eurs (S : List Bal) : Prop := ∀ (k : Nat) (hk : k < S.length), S[k].cur = eur
theorem eurTo_mem {b : List Bal} {k : Nat} {x : Bal} (hx : x ∈ eurTo b k) : x.cur = eur := by
  unfold eurTo at hx
  have h := (List.mem_filter.1 hx).2
  unfold isEur at h
  have h2 := eq_of_beq h
  rw [ByteArray.toList_eq, ByteArray.toList_eq] at h2
  cases hc : x.cur with
  | mk d =>
    rw [hc] at h2
    have : d = eur.data := Array.ext' h2
    rw [this]
theorem eurs_of (b : List Bal) (k : Nat) : Eurs (eurTo b k) := fun _ hj => eurTo_mem (List.getElem_mem hj)
theorem eurTo_ok {b : List Bal} (h : BalsOk b) (k : Nat) : BalsOk (eurTo b k) := by
  intro x hx
  unfold eurTo at hx
  exact h x (List.mem_of_mem_take (List.mem_filter.1 hx).1)
/-- what one is worth to an entity -/
def worthOf (ent : Int) (x : Bal) : Int := if x.ent = ent then x.amt else 0
def worthTo (ent : Int) (S : List Bal) (k : Nat) : List Int := (S.take k).map (worthOf ent)
theorem worthTo_succ {ent : Int} {S : List Bal} {k : Nat} (hk : k < S.length) : worthTo ent S (k + 1) = worthTo ent S k ++ [worthOf ent S[k]] := by
  unfold worthTo
  rw [List.take_succ_eq_append_getElem hk, List.map_append]
  rfl
theorem worthTo_len (ent : Int) (S : List Bal) (k : Nat) (hk : k ≤ S.length) : (worthTo ent S k).length = k := by
  unfold worthTo
  rw [List.length_map, List.length_take]
  omega
theorem worthTo_at {ent : Int} {S : List Bal} {k : Nat} (hk : k < (worthTo ent S S.length).length) (hk2 : k < S.length) : (worthTo ent S S.length)[k] = worthOf ent S[k] := by
  simp [worthTo]
/-- the fault of a valuation at no rates -/
def atE (ent per : Int) : Int := if inB 1 12 ent = true ∧ inB 1 120 per = true then 0 else 1
def worthE (S : List Bal) (ent per : Int) : Int := if balsE S ≠ 0 then balsE S else atE ent per
theorem worthE_1 {S : List Bal} {ent per : Int} (h : balsE S ≠ 0) : worthE S ent per = balsE S := if_pos h
theorem worthE_2 {S : List Bal} {ent per : Int} (h : balsE S = 0) : worthE S ent per = atE ent per := if_neg (by simpa using h)
end Go.Proofs.YtggmbjdonlbfkaaGreatDoorBesafter

namespace Go.Proofs.YtggmbjdonlbfkaaGreatDoorBesafter
open Go Go.RowKit
set_option linter.unusedVariables false

theorem eur_cur : curB eur = true := by decide +kernel
theorem eur_size : eur.size ≤ 9223372036854775807 := by decide

theorem ratecheck_nil (w : World) : Calls Tryz.prog 89 #[.slice none 0 0] w fun e w' => e = .returned .nilIface ∧ Below w.heap.size w w' := by
  have hb : Below w.heap.size w (w.alloc (.map #[] 0)) := (Below.refl _ _).alloc (Nat.le_refl _) _
  have hmm := @run_makeMap Tryz.prog
  go_enter Tryz.func89, Tryz.ntmps89
  go_wp2_with fail
  go_loopw [14] (fun iv wr => iv = .int .i64 0 ∧ wr = w.alloc (.map #[] 0)) (fun _ _ => 0)
  case atStart => exact ⟨rfl, rfl⟩
  case round =>
    obtain ⟨rfl, rfl⟩ := hrel
    go_wp2_with fail
    go_ret
    exact ⟨rfl, hb⟩

theorem direct_same (s : ByteArray) (per : Int) (w : World) : Calls Tryz.prog 92 #[.slice none 0 0, .string s, .string s, .int .i64 per] w fun e w' => e = .returned (.tuple #[.int .i64 1, .int .i64 1, .bool true]) ∧ Below w.heap.size w w' := by
  go_enter Tryz.func92, Tryz.ntmps92
  go_wp2_with fail
  go_ret3
  exact ⟨rfl, Below.refl _ _⟩

theorem find_same (per : Int) (hp : inB 1 120 per = true) (w : World) : Calls Tryz.prog 52 #[.slice none 0 0, .string eur, .string eur, .string eur, .int .i64 per] w fun e w' => e = .returned (.tuple #[.int .i64 1, .int .i64 1, .nilIface]) ∧ Below w.heap.size w w' := by
  have HP := hide hp
  clear hp
  go_enter Tryz.func52, Tryz.ntmps52
  go_wp2_with fail
  refine (ratecheck_nil _).mono ?_
  rintro e w1 ⟨rfl, hb1⟩
  go_wp2_with fail
  refine (cur_any eur _ eur_size).mono ?_
  rintro e w2 ⟨rfl, hb2⟩
  rw [eur_cur]
  have hb2 := bthen hb1 (Nat.le_refl _) hb2
  go_wp2_with fail
  refine (cur_any eur _ eur_size).mono ?_
  rintro e w3 ⟨rfl, hb3⟩
  rw [eur_cur]
  have hb3 := bthen hb2 (Nat.le_refl _) hb3
  go_wp2_with fail
  refine (cur_any eur _ eur_size).mono ?_
  rintro e w4 ⟨rfl, hb4⟩
  rw [eur_cur]
  have hb4 := bthen hb3 (Nat.le_refl _) hb4
  go_wp2_with fail
  refine (period_any per _).mono ?_
  rintro e w5 ⟨rfl, rfl⟩
  rw [HP.out]
  go_wp2_with fail
  refine (direct_same eur per _).mono ?_
  rintro e w6 ⟨rfl, hb6⟩
  have hb6 := bthen hb4 (Nat.le_refl _) hb6
  go_wp2_with fail
  go_ret3
  exact ⟨rfl, hb6⟩

theorem revcheck_any (S : List Bal) (A : Option Addr) (n cap : Nat) (w : World) (hl : n ≤ 9223372036854775807) (ha : Rd w 4 balEnc A n S) :
    Calls Tryz.prog 50 #[.slice none 0 0, .string eur, .slice A n cap] w fun e w' => e = .returned (errV (balsE S)) ∧ Below w.heap.size w w' := by
  by_cases h : balsE S = 0
  · have e0 := errV_0 h
    rw [e0]
    have HB := hide e0
    clear h e0
    go_enter Tryz.func50, Tryz.ntmps50
    go_wp2_with fail
    refine (lcheck_any S _ _ _ _ hl ha).mono ?_
    rintro e w1 ⟨rfl, hb1⟩
    rw [HB.out]
    go_wp2_with fail
    refine (ratecheck_nil _).mono ?_
    rintro e w2 ⟨rfl, hb2⟩
    go_wp2_with fail
    refine (cur_any eur _ eur_size).mono ?_
    rintro e w3 ⟨rfl, hb3⟩
    rw [eur_cur]
    go_wp2_with fail
    go_ret
    exact ⟨rfl, bthen (bthen hb1 (Nat.le_refl _) hb2) (Nat.le_refl _) hb3⟩
  · have e0 := errV_n h
    rw [e0]
    have HB := hide e0
    clear h e0
    go_enter Tryz.func50, Tryz.ntmps50
    go_wp2_with fail
    refine (lcheck_any S _ _ _ _ hl ha).mono ?_
    rintro e w1 ⟨rfl, hb1⟩
    rw [HB.out]
    go_wp2_with fail
    go_ret
    exact ⟨rfl, hb1⟩

theorem at_any (ent per : Int) (w : World) : Calls Tryz.prog 51 #[.int .i64 ent, .int .i64 per] w fun e w' => e = .returned (errV (atE ent per)) ∧ w = w' := by
  by_cases h1 : ent < 1
  · have hf : atE ent per = 1 := if_neg (by simp [inB]; omega)
    rw [hf]; clear hf
    go_enter Tryz.func51, Tryz.ntmps51
    go_wp2_with fail
    go_ret
    exact ⟨rfl, rfl⟩
  · by_cases h2 : 12 < ent
    · have hf : atE ent per = 1 := if_neg (by simp [inB]; omega)
      rw [hf]; clear hf
      go_enter Tryz.func51, Tryz.ntmps51
      go_wp2_with fail
      go_ret
      exact ⟨rfl, rfl⟩
    · have he : inB 1 12 ent = true := by simp [inB]; omega
      cases hp : inB 1 120 per with
      | true =>
        have hf : atE ent per = 0 := if_pos ⟨he, hp⟩
        rw [hf]
        have HP := hide hp
        clear hf he hp
        go_enter Tryz.func51, Tryz.ntmps51
        go_wp2_with fail
        refine (period_any per _).mono ?_
        rintro e w1 ⟨rfl, rfl⟩
        rw [HP.out]
        go_wp2_with fail
        go_ret
        exact ⟨rfl, rfl⟩
      | false =>
        have hf : atE ent per = 1 := if_neg (by rw [hp]; simp)
        rw [hf]
        have HP := hide hp
        clear hf he hp
        go_enter Tryz.func51, Tryz.ntmps51
        go_wp2_with fail
        refine (period_any per _).mono ?_
        rintro e w1 ⟨rfl, rfl⟩
        rw [HP.out]
        go_wp2_with fail
        go_ret
        exact ⟨rfl, rfl⟩
end Go.Proofs.YtggmbjdonlbfkaaGreatDoorBesafter
