/- strings.Trim at an ASCII cutset: what it returns. -/
import Derived.Test.YtggmbjdonlbfkaaGreatDoorBesafterMem
import Derived.Test.YtggmbjdonlbfkaaGreatDoorBesafterShelf
import Derived.Outline
namespace Go.Proofs.YtggmbjdonlbfkaaGreatDoorBesafter
open Go Go.RowKit

/-- every byte of s is one of cs -/
def allIn (s cs : ByteArray) : Bool := s.data.toList.all (cs.data.toList.contains ·)

theorem dropWhile_all {α : Type} (p : α → Bool) (l : List α) : l.dropWhile p = [] ↔ l.all p = true := by
  induction l with
  | nil => simp
  | cons a l ih => by_cases h : p a = true <;> simp [h, ih]
theorem trimS_nil (l cs : List UInt8) : Lib.trimS l cs = [] ↔ l.all (cs.contains ·) = true := by
  have hs : l.reverse.all (cs.contains ·) = l.all (cs.contains ·) := by simp
  have hd : l.reverse.all (cs.contains ·) = ((l.reverse.takeWhile (cs.contains ·)).all (cs.contains ·) && (l.reverse.dropWhile (cs.contains ·)).all (cs.contains ·)) := by
    rw [← List.all_append, List.takeWhile_append_dropWhile]
  have ht : (l.reverse.takeWhile (cs.contains ·)).all (cs.contains ·) = true := List.all_takeWhile
  unfold Lib.trimS Lib.trimLeftS Lib.trimRightS
  rw [dropWhile_all, ← hs, hd, ht, List.all_reverse, Bool.true_and]

theorem trim_yes (s cs : ByteArray) (w : World) (hs : s.size ≤ 9223372036854775807) (hcs : cs.size < 4294967281) (hascii : cs.data.toList.all (fun b => decide (b.toNat < 128)) = true) (h : allIn s cs = true) :
    Calls Tryz.prog 47 #[.string s, .string cs] w fun e w' => e = .returned (.string ⟨#[]⟩) ∧ Below w.heap.size w w' :=
  (Any.strings_Trim_laid Tryz.lays160 (by kernel_rfl) s cs w hs hcs (ascii_of_all hascii)).mono fun e w' ⟨he, hb⟩ => ⟨by rw [he, (trimS_nil _ _).2 h], hb⟩
theorem trim_no (s cs : ByteArray) (w : World) (hs : s.size ≤ 9223372036854775807) (hcs : cs.size < 4294967281) (hascii : cs.data.toList.all (fun b => decide (b.toNat < 128)) = true) (h : allIn s cs = false) :
    Calls Tryz.prog 47 #[.string s, .string cs] w fun e w' => (∃ t : ByteArray, e = .returned (.string t) ∧ t.toList.isEmpty = false) ∧ Below w.heap.size w w' :=
  (Any.strings_Trim_laid Tryz.lays160 (by kernel_rfl) s cs w hs hcs (ascii_of_all hascii)).mono fun e w' ⟨he, hb⟩ => ⟨⟨_, he, by
    rw [ByteArray.toList_eq]
    have hne : Lib.trimS s.data.toList cs.data.toList ≠ [] := fun h0 => by
      have := (trimS_nil _ _).1 h0
      rw [allIn] at h
      rw [this] at h; cases h
    simpa using hne⟩, hb⟩

def decs : ByteArray := ⟨#[48, 49, 50, 51, 52, 53, 54, 55, 56, 57]⟩
/-- a text of one to most digits -/
def digitsB (s : ByteArray) (most : Int) : Bool := !s.toList.isEmpty && decide ((s.size : Int) ≤ most) && allIn s decs

theorem digits_any (s : ByteArray) (most : Int) (w : World) (hs : s.size ≤ 9223372036854775807) :
    Calls Tryz.prog 46 #[.string s, .int .i64 most] w fun e w' => e = .returned (.bool (digitsB s most)) ∧ Below w.heap.size w w' := by
  by_cases h0 : s.toList.isEmpty = true
  · have hf : digitsB s most = false := by simp [digitsB, h0]
    rw [hf]; clear hf
    go_enter Tryz.func46, Tryz.ntmps46
    go_wp2_with fail
    go_ret
    exact ⟨rfl, Below.refl _ _⟩
  · have h0' : s.toList.isEmpty = false := by simpa using h0
    clear h0
    by_cases h1 : (s.size : Int) ≤ most
    · cases h2 : allIn s decs with
      | true =>
        have hf : digitsB s most = true := by simp [digitsB, h0', h1, h2]
        rw [hf]; clear hf
        have H2 := hide h2
        clear h2
        go_enter Tryz.func46, Tryz.ntmps46
        go_wp2_with (go_at_call 47; refine (trim_yes s _ _ hs (by decide) (by decide) H2.out).mono ?_; rintro e w1 ⟨rfl, hb1⟩)
        go_ret
        exact ⟨rfl, hb1⟩
      | false =>
        have hf : digitsB s most = false := by simp [digitsB, h0', h1, h2]
        rw [hf]; clear hf
        have H2 := hide h2
        clear h2
        go_enter Tryz.func46, Tryz.ntmps46
        go_wp2_with (go_at_call 47; refine (trim_no s _ _ hs (by decide) (by decide) H2.out).mono ?_; rintro e w1 ⟨⟨t, rfl, ht⟩, hb1⟩)
        go_ret
        exact ⟨rfl, hb1⟩
    · have h1' : most < (s.size : Int) := by omega
      have hf : digitsB s most = false := by simp [digitsB, h1]
      rw [hf]; clear hf h1
      go_enter Tryz.func46, Tryz.ntmps46
      go_wp2_with fail
      go_ret
      exact ⟨rfl, Below.refl _ _⟩
end Go.Proofs.YtggmbjdonlbfkaaGreatDoorBesafter

namespace Go.Proofs.YtggmbjdonlbfkaaGreatDoorBesafter
open Go Go.RowKit

/-- No account ahead of k has code c. -/
def NoneTo (l : List Acc) (c : ByteArray) (k : Nat) : Prop := ∀ (j : Nat) (h : j < l.length), j < k → (l[j].code.toList == c.toList) = false

def idxO (l : List Acc) (c : ByteArray) : Option Nat := l.findIdx? fun a => a.code.toList == c.toList
/-- The place of the account with code c, or -1. -/
def idxI (l : List Acc) (c : ByteArray) : Int := match idxO l c with | some k => k | none => -1

theorem NoneTo.zero (l : List Acc) (c : ByteArray) : NoneTo l c 0 := fun _ _ h => absurd h (by omega)
theorem NoneTo.succ {l : List Acc} {c : ByteArray} {k : Nat} (h : NoneTo l c k) (hk : k < l.length) (hc : (l[k].code.toList == c.toList) = false) : NoneTo l c (k + 1) := by
  intro j hj hjk
  by_cases e : j = k
  · subst e; exact hc
  · exact h j hj (by omega)
theorem NoneTo.hit {l : List Acc} {c : ByteArray} {k : Nat} (h : NoneTo l c k) (hk : k < l.length) (hc : (l[k].code.toList == c.toList) = true) : idxI l c = k := by
  have : idxO l c = some k := by
    unfold idxO
    rw [List.findIdx?_eq_some_iff_getElem]
    exact ⟨hk, hc, fun j hj => by rw [h j (by omega) hj]; decide⟩
  simp [idxI, this]
theorem NoneTo.miss {l : List Acc} {c : ByteArray} {k : Nat} (h : NoneTo l c k) (hk : l.length ≤ k) : idxI l c = -1 := by
  have : idxO l c = none := by
    unfold idxO
    rw [List.findIdx?_eq_none_iff]
    intro x hx
    obtain ⟨j, hj, rfl⟩ := List.getElem_of_mem hx
    exact h j hj (by omega)
  simp [idxI, this]

/-- the closure of chart.index: is an account's code the captured one? -/
theorem idxClo (a : Acc) (c : ByteArray) (g : Nat) (w : World) (hp : w.cell? ⟨g, 0, none⟩ = some (.string c)) :
    Calls Tryz.prog 88 #[.agg #[.string a.code, .string a.name, .int .i64 a.kind, .string a.parent, .bool a.money], .pointer (some ⟨g, 0, none⟩)] w
      fun e w' => e = .returned (.bool (a.code.toList == c.toList)) ∧ Below w.heap.size w w' := by
  have hg : g < w.heap.size := World.block_lt_of_cell? _ _ hp
  go_enter Tryz.func88, Tryz.ntmps88
  go_wp2
  go_ret
  exact ⟨rfl, (Below.refl _ _).alloc (Nat.le_refl _) _⟩

/-- slices.IndexFunc over accounts, at the closure of chart.index. -/
theorem indexFunc_any (l : List Acc) (c : ByteArray) (A : Option Addr) (n cap g : Nat) (w : World) (hl : n ≤ 9223372036854775807) (ha : Accs w A n l) (hp : w.cell? ⟨g, 0, none⟩ = some (.string c)) :
    Calls Tryz.prog 29 #[.slice A n cap, .func (.func 88) #[] #[.pointer (some ⟨g, 0, none⟩)]] w
      fun e w' => e = .returned (.int .i64 (idxI l c)) ∧ Below w.heap.size w w' := by
  have hn : l.length = n := ha.1
  have Hn := hide hn
  clear hn
  go_enter Tryz.func29, Tryz.ntmps29
  go_wp2
  go_loopw [8] (fun i wr => ∃ k : Nat, k ≤ n ∧ i = .int .i64 k ∧ NoneTo l c k ∧ Below w.heap.size w wr) (fun i _ => n - (intOf i).toNat)
  case atStart => exact ⟨0, by omega, rfl, NoneTo.zero _ _, Below.refl _ _⟩
  case round =>
    obtain ⟨k, hk, rfl, hno, hb⟩ := hrel
    by_cases hlt : k < n
    · obtain ⟨b, off, rfl, hcs⟩ := (ha.below hb).at_ (by omega)
      obtain ⟨h0, h1, h2, h3, h4⟩ := hcs k (by have := Hn.out; omega)
      clear hcs
      have hp' := below_cell hb (World.block_lt_of_cell? _ _ hp) hp
      go_wp2_with (go_at_call 88; refine (idxClo _ c g _ hp').mono ?_; rintro e w1 ⟨rfl, hb1⟩)
      · go_ret
        exact ⟨ret_int (hno.hit _ (by assumption)).symm, bthen hb (Nat.le_refl _) hb1⟩
      · go_roundw
        case rel => exact ⟨k + 1, by omega, by go_num, hno.succ _ (by assumption), bthen hb (Nat.le_refl _) hb1⟩
        case measure => simp [intOf]; omega
    · go_wp2
      go_ret
      exact ⟨ret_int (hno.miss (by have := Hn.out; omega)).symm, hb⟩

theorem index_any (l : List Acc) (c : ByteArray) (A : Option Addr) (n cap : Nat) (w : World) (hl : n ≤ 9223372036854775807) (ha : Accs w A n l) :
    Calls Tryz.prog 49 #[.slice A n cap, .string c] w
      fun e w' => e = .returned (.int .i64 (idxI l c)) ∧ Below w.heap.size w w' := by
  go_enter Tryz.func49, Tryz.ntmps49
  go_wp2_with (go_at_call 29; refine (indexFunc_any l c _ _ _ _ _ hl (ha.alloc _) (by simp)).mono ?_; rintro e w1 ⟨rfl, hb1⟩)
  go_ret
  exact ⟨rfl, bof_alloc hb1⟩

theorem index_at (l : List Acc) (c : ByteArray) (k : Int) (A : Option Addr) (n cap : Nat) (w : World) (hl : n ≤ 9223372036854775807) (ha : Accs w A n l) (hk : idxI l c = k) :
    Calls Tryz.prog 49 #[.slice A n cap, .string c] w
      fun e w' => e = .returned (.int .i64 k) ∧ Below w.heap.size w w' := by
  subst hk; exact index_any l c A n cap w hl ha

/-! ### chart.Leaf -/
/-- No account ahead of k has parent c. -/
def NoneParTo (l : List Acc) (c : ByteArray) (k : Nat) : Prop := ∀ (j : Nat) (h : j < l.length), j < k → (l[j].parent.toList == c.toList) = false
def parO (l : List Acc) (c : ByteArray) : Option Nat := l.findIdx? fun a => a.parent.toList == c.toList
/-- The place of the first account with parent c, or -1. -/
def parI (l : List Acc) (c : ByteArray) : Int := match parO l c with | some k => k | none => -1
theorem NoneParTo.zero (l : List Acc) (c : ByteArray) : NoneParTo l c 0 := fun _ _ h => absurd h (by omega)
theorem NoneParTo.succ {l : List Acc} {c : ByteArray} {k : Nat} (h : NoneParTo l c k) (hk : k < l.length) (hc : (l[k].parent.toList == c.toList) = false) : NoneParTo l c (k + 1) := by
  intro j hj hjk
  by_cases e : j = k
  · subst e; exact hc
  · exact h j hj (by omega)
theorem NoneParTo.hit {l : List Acc} {c : ByteArray} {k : Nat} (h : NoneParTo l c k) (hk : k < l.length) (hc : (l[k].parent.toList == c.toList) = true) : parI l c = k := by
  have : parO l c = some k := by
    unfold parO
    rw [List.findIdx?_eq_some_iff_getElem]
    exact ⟨hk, hc, fun j hj => by rw [h j (by omega) hj]; decide⟩
  simp [parI, this]
theorem NoneParTo.miss {l : List Acc} {c : ByteArray} {k : Nat} (h : NoneParTo l c k) (hk : l.length ≤ k) : parI l c = -1 := by
  have : parO l c = none := by
    unfold parO
    rw [List.findIdx?_eq_none_iff]
    intro x hx
    obtain ⟨j, hj, rfl⟩ := List.getElem_of_mem hx
    exact h j hj (by omega)
  simp [parI, this]

/-- what is wrong with a code that should be a leaf's -/
def leafE (l : List Acc) (c : ByteArray) : Int := if idxI l c < 0 then 6 else if 0 ≤ parI l c then 12 else 0

theorem leafE_6 {l : List Acc} {c : ByteArray} (h : idxI l c < 0) : leafE l c = 6 := by rw [leafE, if_pos h]
theorem leafE_12 {l : List Acc} {c : ByteArray} (h : 0 ≤ idxI l c) (h2 : 0 ≤ parI l c) : leafE l c = 12 := by rw [leafE, if_neg (by omega), if_pos h2]
theorem leafE_0 {l : List Acc} {c : ByteArray} (h : 0 ≤ idxI l c) (h2 : parI l c < 0) : leafE l c = 0 := by rw [leafE, if_neg (by omega), if_neg (by omega)]

end Go.Proofs.YtggmbjdonlbfkaaGreatDoorBesafter
