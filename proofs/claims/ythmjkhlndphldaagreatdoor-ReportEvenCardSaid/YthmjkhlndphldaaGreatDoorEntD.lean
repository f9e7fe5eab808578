/- What an entry is made of: Ref, Cur, Entity, Period, Amount of the program. -/
import Derived.Test.YthmjkhlndphldaaGreatDoorEntAll
import Derived.Test.YthmjkhlndphldaaGreatDoorRefA
namespace Go.Proofs.YthmjkhlndphldaaGreatDoor
open Go Go.RowKit
set_option linter.unusedVariables false

def refSet : ByteArray := ⟨#[97, 98, 99, 100, 101, 102, 103, 104, 105, 106, 107, 108, 109, 110, 111, 112, 113, 114, 115, 116, 117, 118, 119, 120, 121, 122, 48, 49, 50, 51, 52, 53, 54, 55, 56, 57, 45]⟩
/-- does it begin with byte 45? -/
def dashB (s : ByteArray) : Bool := match s.data.toList.head? with | some c => c == 45 | none => false
/-- a text that is a Ref -/
def refB (s : ByteArray) : Bool := !s.toList.isEmpty && decide ((s.size : Int) ≤ 12) && !dashB s && allIn s refSet
/-- a text that is a currency -/
def curB (s : ByteArray) : Bool := decide ((s.size : Int) = 3) && allIn s uppers

theorem dash_get (s : ByteArray) (h : 0 < s.size) : dashB s = (s[0] == 45) := by
  unfold dashB
  have hl : 0 < s.data.toList.length := by simpa using h
  rw [List.head?_eq_getElem?, List.getElem?_eq_getElem hl]
  rfl

theorem ref_any (s : ByteArray) (w : World) (hs : s.size ≤ 9223372036854775807) :
    Calls Tryz.prog 68 #[.string s] w fun e w' => e = .returned (.bool (refB s)) ∧ Below w.heap.size w w' := by
  cases h0 : s.toList.isEmpty with
  | true =>
    have hf : refB s = false := by simp [refB, h0]
    rw [hf]; clear hf
    go_enter Tryz.func68, Tryz.ntmps68
    go_wp2_with fail
    go_ret
    exact ⟨rfl, Below.refl _ _⟩
  | false =>
    have hp : 0 < s.size := by
      rw [ByteArray.toList_eq] at h0
      rcases Nat.eq_zero_or_pos s.size with h | h
      · have : s.data.toList = [] := List.eq_nil_of_length_eq_zero (by simpa using h)
        rw [this] at h0; cases h0
      · exact h
    by_cases h1 : (s.size : Int) ≤ 12
    · have HD := hide (dash_get s hp)
      cases h3 : dashB s with
      | true =>
        have hf : refB s = false := by simp [refB, h3]
        have hq : (s[0].toNat : Int) = 45 := by
          rw [HD.out, beq_iff_eq] at h3
          rw [h3]; rfl
        rw [hf]
        clear hf h3
        go_enter Tryz.func68, Tryz.ntmps68
        go_wp2_with fail
        go_ret
        exact ⟨rfl, Below.refl _ _⟩
      | false =>
        have hq : ¬ (s[0].toNat : Int) = 45 := by
          rw [HD.out, beq_eq_false_iff_ne] at h3
          intro e
          exact h3 (UInt8.toNat_inj.1 (by have h45 : (45 : UInt8).toNat = 45 := rfl; omega))
        cases h2 : allIn s refSet with
        | true =>
          have hf : refB s = true := by simp [refB, h0, h1, h2, h3]
          rw [hf]
          have H2 := hide h2
          clear hf h3 h2
          go_enter Tryz.func68, Tryz.ntmps68
          go_wp2_with (go_at_call 115; refine (trim_yes s _ _ hs (by decide) (by decide) H2.out).mono ?_; rintro e w1 ⟨rfl, hb1⟩)
          go_ret
          exact ⟨by simp [hq], hb1⟩
        | false =>
          have hf : refB s = false := by simp [refB, h2]
          rw [hf]
          have H2 := hide h2
          clear hf h3 h2
          go_enter Tryz.func68, Tryz.ntmps68
          go_wp2_with (go_at_call 115; refine (trim_no s _ _ hs (by decide) (by decide) H2.out).mono ?_; rintro e w1 ⟨⟨t, rfl, ht⟩, hb1⟩)
          go_ret
          exact ⟨rfl, hb1⟩
    · have hf : refB s = false := by simp [refB, h1]
      rw [hf]
      have h1' : (12 : Int) < (s.size : Int) := by omega
      clear hf h1
      go_enter Tryz.func68, Tryz.ntmps68
      go_wp2_with fail
      go_ret
      exact ⟨rfl, Below.refl _ _⟩

theorem cur_any (s : ByteArray) (w : World) (hs : s.size ≤ 9223372036854775807) :
    Calls Tryz.prog 72 #[.string s] w fun e w' => e = .returned (.bool (curB s)) ∧ Below w.heap.size w w' := by
  by_cases h1 : (s.size : Int) = 3
  · have h1' : ((s.size : Int) == 3) = true := by simpa using h1
    have h1d : decide ((s.size : Int) = 3) = true := by simpa using h1
    have H1 := hide h1
    clear h1
    cases h2 : allIn s uppers with
    | true =>
      have hf : curB s = true := by simp only [curB, h1d, h2, Bool.and_self]
      rw [hf]
      have H2 := hide h2
      clear hf h2 h1d
      go_enter Tryz.func72, Tryz.ntmps72
      go_wp2_with (go_at_call 115; refine (trim_yes s _ _ hs (by decide) (by decide) H2.out).mono ?_; rintro e w1 ⟨rfl, hb1⟩)
      go_ret
      exact ⟨rfl, hb1⟩
    | false =>
      have hf : curB s = false := by simp [curB, h2]
      rw [hf]
      have H2 := hide h2
      clear hf h2 h1d
      go_enter Tryz.func72, Tryz.ntmps72
      go_wp2_with (go_at_call 115; refine (trim_no s _ _ hs (by decide) (by decide) H2.out).mono ?_; rintro e w1 ⟨⟨t, rfl, ht⟩, hb1⟩)
      go_ret
      exact ⟨rfl, hb1⟩
  · have hf : curB s = false := by simp [curB, h1]
    have h1' : ((s.size : Int) == 3) = false := by rw [beq_eq_false_iff_ne]; exact h1
    rw [hf]; clear hf h1
    go_enter Tryz.func72, Tryz.ntmps72
    go_wp2_with fail
    go_ret
    exact ⟨rfl, Below.refl _ _⟩

/-- is a number from a to b? -/
def inB (a b n : Int) : Bool := decide (a ≤ n) && decide (n ≤ b)
theorem entity_any (n : Int) (w : World) : Calls Tryz.prog 69 #[.int .i64 n] w fun e w' => e = .returned (.bool (inB 1 12 n)) ∧ w = w' := by
  unfold inB
  by_cases h1 : 1 ≤ n
  · go_enter Tryz.func69, Tryz.ntmps69
    go_wp2_with fail
    go_ret
    exact ⟨by simp [h1], rfl⟩
  · have h1' : n < 1 := by omega
    have h1d : decide (1 ≤ n) = false := by simpa using h1
    clear h1
    go_enter Tryz.func69, Tryz.ntmps69
    go_wp2_with fail
    go_ret
    exact ⟨by simp [h1d], rfl⟩
theorem period_any (n : Int) (w : World) : Calls Tryz.prog 70 #[.int .i64 n] w fun e w' => e = .returned (.bool (inB 1 120 n)) ∧ w = w' := by
  unfold inB
  by_cases h1 : 1 ≤ n
  · go_enter Tryz.func70, Tryz.ntmps70
    go_wp2_with fail
    go_ret
    exact ⟨by simp [h1], rfl⟩
  · have h1' : n < 1 := by omega
    have h1d : decide (1 ≤ n) = false := by simpa using h1
    clear h1
    go_enter Tryz.func70, Tryz.ntmps70
    go_wp2_with fail
    go_ret
    exact ⟨by simp [h1d], rfl⟩
theorem amount_any (n : Int) (w : World) : Calls Tryz.prog 73 #[.int .i64 n] w fun e w' => e = .returned (.bool (inB (-1000000000000000) 1000000000000000 n)) ∧ w = w' := by
  unfold inB
  by_cases h1 : (-1000000000000000) ≤ n
  · go_enter Tryz.func73, Tryz.ntmps73
    go_wp2_with fail
    go_ret
    exact ⟨by simp [h1], rfl⟩
  · have h1' : n < (-1000000000000000) := by omega
    have h1d : decide ((-1000000000000000) ≤ n) = false := by simpa using h1
    clear h1
    go_enter Tryz.func73, Tryz.ntmps73
    go_wp2_with fail
    go_ret
    exact ⟨by simp [h1d], rfl⟩

/-- the place of the first line of which p is so, or -1 -/
def idxP (l : List Line) (p : Line → Bool) : Int := match l.findIdx? p with | some k => k | none => -1
def NoneP (l : List Line) (p : Line → Bool) (k : Nat) : Prop := ∀ (j : Nat) (h : j < l.length), j < k → p l[j] = false
theorem NoneP.zero (l : List Line) (p : Line → Bool) : NoneP l p 0 := fun _ _ h => absurd h (by omega)
theorem NoneP.succ {l : List Line} {p : Line → Bool} {k : Nat} (h : NoneP l p k) (hk : k < l.length) (hc : p l[k] = false) : NoneP l p (k + 1) := by
  intro j hj hjk
  by_cases e : j = k
  · subst e; exact hc
  · exact h j hj (by omega)
theorem NoneP.hit {l : List Line} {p : Line → Bool} {k : Nat} (h : NoneP l p k) (hk : k < l.length) (hc : p l[k] = true) : idxP l p = k := by
  have : l.findIdx? p = some k := by
    rw [List.findIdx?_eq_some_iff_getElem]
    exact ⟨hk, hc, fun j hj => by rw [h j (by omega) hj]; decide⟩
  simp [idxP, this]
theorem NoneP.miss {l : List Line} {p : Line → Bool} {k : Nat} (h : NoneP l p k) (hk : l.length ≤ k) : idxP l p = -1 := by
  have : l.findIdx? p = none := by
    rw [List.findIdx?_eq_none_iff]
    intro x hx
    obtain ⟨j, hj, rfl⟩ := List.getElem_of_mem hx
    exact h j hj (by omega)
  simp [idxP, this]
theorem idxP_any (l : List Line) (p : Line → Bool) : decide (0 ≤ idxP l p) = l.any p := by
  unfold idxP
  cases h : l.findIdx? p with
  | none =>
    rw [List.findIdx?_eq_none_iff] at h
    have : l.any p = false := by rw [List.any_eq_false]; intro x hx; rw [h x hx]; decide
    rw [this]; rfl
  | some k =>
    obtain ⟨hk, hc, _⟩ := List.findIdx?_eq_some_iff_getElem.1 h
    have : l.any p = true := List.any_eq_true.2 ⟨_, List.getElem_mem hk, hc⟩
    rw [this]; simp

/-- what is asked of a function of lines: it says p, and turns nothing -/
def Asks (K : Nat) (p : Line → Bool) : Prop := ∀ (x : Line) (w : World), Calls Tryz.prog K #[.agg #[.string x.acc, .string x.cur, .int .i64 x.amt]] w fun e w' => e = .returned (.bool (p x)) ∧ Below w.heap.size w w'

theorem indexFunc_line (l : List Line) (K : Nat) (p : Line → Bool) (hK : Hid (Asks K p)) (eg : ∀ args w, (callFunc K args).run Tryz.prog w = .ok (.enter K args) w) (A : Option Addr) (n cap : Nat) (w : World) (hl : n ≤ 9223372036854775807) (ha : Rd w 3 lineEnc A n l) :
    Calls Tryz.prog 119 #[.slice A n cap, .func (.func K) #[] #[]] w
      fun e w' => e = .returned (.int .i64 (idxP l p)) ∧ Below w.heap.size w w' := by
  have Hn := hide ha.1
  go_enter Tryz.func119, Tryz.ntmps119
  go_wp2_with fail
  go_loopw [8] (fun i wr => ∃ k : Nat, k ≤ n ∧ i = .int .i64 k ∧ NoneP l p k ∧ Below w.heap.size w wr) (fun i _ => n - (intOf i).toNat)
  case atStart => exact ⟨0, by omega, rfl, NoneP.zero _ _, Below.refl _ _⟩
  case round =>
    obtain ⟨k, hk, rfl, hno, hb⟩ := hrel
    have HNo := hide hno
    clear hno
    by_cases hlt : k < n
    · obtain ⟨b, off, rfl, hcs⟩ := (ha.below hb).2 (by omega)
      have hkl : k < l.length := by have := Hn.out; omega
      have h0 := hcs k 0 _ hkl rfl
      have h1 := hcs k 1 _ hkl rfl
      have h2 := hcs k 2 _ hkl rfl
      rw [Nat.add_zero] at h0
      clear hcs
      cases hp : p l[k] with
      | true =>
        have HP := hide hp
        clear hp
        go_wp2_with fail
        refine (hK.out l[k] _).mono ?_
        rintro e w1 ⟨rfl, hb1⟩
        rw [HP.out]
        go_wp2_with fail
        go_ret
        exact ⟨ret_int (HNo.out.hit hkl HP.out).symm, bthen hb (Nat.le_refl _) hb1⟩
      | false =>
        have HP := hide hp
        clear hp
        go_wp2_with fail
        refine (hK.out l[k] _).mono ?_
        rintro e w1 ⟨rfl, hb1⟩
        rw [HP.out]
        go_wp2_with fail
        go_roundw
        case rel => exact ⟨k + 1, by omega, by go_num, HNo.out.succ hkl HP.out, bthen hb (Nat.le_refl _) hb1⟩
        case measure => simp [intOf]; omega
    · go_wp2_with fail
      go_ret
      exact ⟨ret_int (HNo.out.miss (by have := Hn.out; omega)).symm, hb⟩

theorem containsFunc_line (l : List Line) (K : Nat) (p : Line → Bool) (hK : Hid (Asks K p)) (eg : ∀ args w, (callFunc K args).run Tryz.prog w = .ok (.enter K args) w) (A : Option Addr) (n cap : Nat) (w : World) (hl : n ≤ 9223372036854775807) (ha : Rd w 3 lineEnc A n l) :
    Calls Tryz.prog 74 #[.slice A n cap, .func (.func K) #[] #[]] w
      fun e w' => e = .returned (.bool (l.any p)) ∧ Below w.heap.size w w' := by
  have HA := hide (idxP_any l p)
  go_enter Tryz.func74, Tryz.ntmps74
  go_wp2_with fail
  refine (indexFunc_line l K p hK eg _ _ _ _ hl ha).mono ?_
  rintro e w1 ⟨rfl, hb1⟩
  go_wp2_with fail
  go_ret
  exact ⟨ret_bool HA.out, hb1⟩
end Go.Proofs.YthmjkhlndphldaaGreatDoor
