/- allot.Steps: what it wants: clones of ints, a test over ints; what comes in. -/
import Derived.Test.YtmpnbkjcpgnifaaGreatDoorEvnX
import Derived.Test.YtmpnbkjcpgnifaaGreatDoorEntX
import Derived.Test.YtmpnbkjcpgnifaaGreatDoorOpenX
namespace Go.Proofs.YtmpnbkjcpgnifaaGreatDoor
open Go Go.RowKit
set_option linter.unusedVariables false

set_option maxRecDepth 100000 in
theorem clone_ints (l : List Int) (A : Option Addr) (n c : Nat) (w : World) (h : Rd w 1 intEnc2 A n l) (hn : n ≤ 20) (hA : A = none → c = 0) :
    Calls Tryz.prog 20 #[.slice A n c] w fun e w' => ∃ v, e = .returned v ∧ Own w' w.heap.size 3 1 intEnc2 v l ∧ Below w.heap.size w w' := by
  obtain ⟨i0, hi0, hz0, hz1, hz2⟩ := info_parts int_infoS
  have Hn := hide h.1
  have q := fun (w : World) (a : Option Addr) (n c n' c' : Nat) => Lib.run_eql_slice_nil (P := Tryz.prog) w 26 _ a n c n' c' Tryz.underlying26
  cases A with
  | none =>
    have hn0 : n = 0 := by
      rcases Nat.eq_zero_or_pos n with h0 | h0
      · exact h0
      · obtain ⟨b, off, h', _⟩ := h.2 h0; cases h'
    subst hn0
    have hl0 : l = [] := List.eq_nil_of_length_eq_zero h.1
    subst hl0
    clear Hn
    go_enter Tryz.func20, Tryz.ntmps20
    go_wp2_with fail
    go_ret
    exact ⟨_, rfl, Own.nil _ _ _ _ _, Below.refl _ _⟩
  | some ad =>
    go_enter Tryz.func20, Tryz.ntmps20
    go_wp2_with (first | (at_builtin; go_loud (refine wpList_push _ rfl _ _ 26 rfl w.heap.size 3 i0 (.int .i64 0) 1 8 Tryz.underlying26 hi0 hz0 hz1 hz2 rfl (by decide) intEnc2_ok _ [] rfl (Own.empty _ _ _ _ _ (Nat.le_refl _)) _ n c l rfl (Rd.below h ((Below.refl _ _).alloc (Nat.le_refl _) _)) (by intro h; cases h) (by simp only [maxLen, List.length_nil]; omega) (by simp only [List.length_nil]; omega) (by simp) ?_); intro v' w2 hown2 hg2 hat2))
    go_ret
    refine ⟨_, rfl, ?_, ((Below.refl _ _).alloc (Nat.le_refl _) _).grown hg2 (by simp) (fun k e => by (have : some w.heap.size = some k := e); (injection this with this); omega)⟩
    simpa using hown2

/-- too far for a weight -/
def farW (x : Int) : Bool := !ratB x
def idxN (l : List Int) (p : Int → Bool) : Int := match l.findIdx? p with | some k => (k : Int) | none => -1
theorem NoTo.hitN {l : List Int} {p : Int → Bool} {k : Nat} (h : NoTo p l k) (hk : k < l.length) (hc : p l[k] = true) : idxN l p = (k : Int) := by
  have : l.findIdx? p = some k := by
    rw [List.findIdx?_eq_some_iff_getElem]
    exact ⟨hk, hc, fun j hj => by rw [h j (by omega) hj]; decide⟩
  unfold idxN; rw [this]
theorem NoTo.missN {l : List Int} {p : Int → Bool} {k : Nat} (h : NoTo p l k) (hk : l.length ≤ k) : idxN l p = -1 := by
  have : l.findIdx? p = none := by
    rw [List.findIdx?_eq_none_iff]
    intro x hx
    obtain ⟨j, hj, rfl⟩ := List.getElem_of_mem hx
    exact h j hj (by omega)
  unfold idxN; rw [this]
theorem idxN_any (l : List Int) (p : Int → Bool) : decide (0 ≤ idxN l p) = l.any p := by
  unfold idxN
  cases h : l.findIdx? p with
  | none =>
    rw [List.findIdx?_eq_none_iff] at h
    have : l.any p = false := List.any_eq_false.2 fun x hx => by rw [h x hx]; decide
    rw [this]; decide
  | some k =>
    obtain ⟨hk, hc, _⟩ := List.findIdx?_eq_some_iff_getElem.1 h
    have : l.any p = true := List.any_eq_true.2 ⟨_, List.getElem_mem hk, hc⟩
    rw [this]; simp
theorem farW_any (x : Int) (w : World) : Calls Tryz.prog 19 #[.int .i64 x] w fun e w' => e = .returned (.bool (farW x)) ∧ w = w' := by
  have hf : farW x = (decide (x < 0) || decide (1000000000 < x)) := by
    unfold farW ratB inB
    by_cases h1 : x < 0
    · simp [h1] <;> omega
    · by_cases h2 : 1000000000 < x
      · simp [h2] <;> omega
      · simp [h1, h2] <;> omega
  rw [hf]
  by_cases h1 : x < 0
  · go_enter Tryz.func19, Tryz.ntmps19
    go_wp2_with fail
    go_ret
    exact ⟨by simp [h1], rfl⟩
  · by_cases h2 : 1000000000 < x
    · go_enter Tryz.func19, Tryz.ntmps19
      go_wp2_with fail
      go_ret
      exact ⟨by simp, rfl⟩
    · go_enter Tryz.func19, Tryz.ntmps19
      go_wp2_with fail
      go_ret
      exact ⟨by simp [h1, h2], rfl⟩
set_option maxRecDepth 100000 in
theorem index_far (l : List Int) (A : Option Addr) (n cap : Nat) (w : World) (hl : n ≤ 9223372036854775807) (ha : Rd w 1 intEnc2 A n l) :
    Calls Tryz.prog 41 #[.slice A n cap, .func (.func 19) #[] #[]] w fun e w' => e = .returned (.int .i64 (idxN l farW)) ∧ w = w' := by
  have Hn := hide ha.1
  go_enter Tryz.func41, Tryz.ntmps41
  go_wp2_with fail
  go_loopw [8] (fun i wr => w = wr ∧ ∃ k : Nat, k ≤ n ∧ i = .int .i64 k ∧ Hid (NoTo farW l k)) (fun i _ => n - (intOf i).toNat)
  case atStart => exact ⟨rfl, 0, by omega, rfl, fun j h hj => absurd hj (by omega)⟩
  case round =>
    obtain ⟨rfl, k, hk, rfl, HNo⟩ := hrel
    by_cases hlt : k < n
    · obtain ⟨b, off, rfl, hcs⟩ := ha.2 (by omega)
      have hkl : k < l.length := by have := Hn.out; omega
      have h0 := hcs k 0 _ hkl rfl
      simp only [Nat.mul_one, Nat.add_zero] at h0
      clear hcs
      have k0 : (0 : Int) ≤ (k : Int) := by omega
      have k1 : (k : Int) < (n : Int) := by omega
      obtain ⟨x, hx⟩ : ∃ x, x = l[k] := ⟨_, rfl⟩
      rw [← hx] at h0
      have HX := hide hx
      clear hx
      go_wp2_with fail
      refine (farW_any x _).mono ?_
      rintro e w1 ⟨rfl, rfl⟩
      cases hp : farW x with
      | true =>
        have HP := hide hp
        clear hp
        go_wp2_with fail
        go_ret
        exact ⟨ret_int (HNo.out.hitN hkl (by rw [← HX.out]; exact HP.out)).symm, rfl⟩
      | false =>
        have HP := hide hp
        clear hp
        go_wp2_with fail
        go_roundw
        case rel => exact ⟨by first | rfl | trivial, k + 1, by omega, by go_num, HNo.out.succ hkl (by rw [← HX.out]; exact HP.out)⟩
        case measure => simp [intOf]; omega
    · go_wp2_with fail
      go_ret
      exact ⟨ret_int (HNo.out.missN (by have := Hn.out; omega)).symm, rfl⟩
theorem contains_far (l : List Int) (A : Option Addr) (n cap : Nat) (w : World) (hl : n ≤ 9223372036854775807) (ha : Rd w 1 intEnc2 A n l) :
    Calls Tryz.prog 18 #[.slice A n cap, .func (.func 19) #[] #[]] w fun e w' => e = .returned (.bool (l.any farW)) ∧ w = w' := by
  have HA := hide (idxN_any l farW)
  go_enter Tryz.func18, Tryz.ntmps18
  go_wp2_with fail
  refine (index_far l _ _ _ _ hl ha).mono ?_
  rintro e w1 ⟨rfl, rfl⟩
  go_wp2_with fail
  go_ret
  exact ⟨ret_bool HA.out, rfl⟩

theorem Rd.dropQ {α : Type} {enc : α → List Value} {w : World} {n i : Nat} {b off : Nat} {l : List α} (h : Rd w 1 enc (some ⟨b, off, none⟩) n l) (hi : i ≤ n) : Rd w 1 enc (some ⟨b, off + i, none⟩) (n - i) (l.drop i) := by
  refine ⟨by rw [List.length_drop, h.1], fun hn => ?_⟩
  obtain ⟨b2, o2, e, hc⟩ := h.2 (by omega)
  injection e with e
  injection e with e1 e2
  subst e1 e2
  refine ⟨b, off + i, rfl, fun k j u hk hu => ?_⟩
  have hk2 : i + k < l.length := by rw [List.length_drop] at hk; omega
  have := hc (i + k) j u hk2 (by rw [← hu]; congr 1; simp)
  rw [show off + i + k * 1 + j = off + (i + k) * 1 + j by omega]
  exact this
end Go.Proofs.YtmpnbkjcpgnifaaGreatDoor
