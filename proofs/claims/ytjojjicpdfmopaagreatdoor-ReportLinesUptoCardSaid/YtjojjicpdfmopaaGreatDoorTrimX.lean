/- strings.Trim at an ASCII cutset: what it returns. -/
import Derived.Test.YtjojjicpdfmopaaGreatDoorMem
import Derived.Test.YtjojjicpdfmopaaGreatDoorShelf
import Derived.Outline
import Derived.Deep.RegionHeld3
import Derived.Deep.QuietTactic
import Derived.BigQuiet
import Derived.IntWalk
namespace Go.Proofs.YtjojjicpdfmopaaGreatDoor
open Go Go.RowKit

/-- every byte of s is one of cs -/
def allIn (s cs : ByteArray) : Bool := s.data.toList.all (cs.data.toList.contains ·)

theorem dropWhile_all {α : Type} (p : α → Bool) (l : List α) : l.dropWhile p = [] ↔ l.all p = true := by
  induction l with
  | nil => simp
  | cons a l ih => by_cases h : p a = true <;> simp [h, ih]
theorem trimS_nil (l cs : List UInt8) : Lib.trimS l cs = [] ↔ l.all (cs.contains ·) = true := by
  have hs : l.reverse.all (cs.contains ·) = l.all (cs.contains ·) := by simp
  have hd : l.reverse.all (cs.contains ·) = ((l.reverse.takeWhile (cs.contains ·)).all (cs.contains ·) && (l.reverse.dropWhile (cs.contains ·)).all (cs.contains ·)) := by
    rw [← List.all_append, List.takeWhile_append_dropWhile]
  have ht : (l.reverse.takeWhile (cs.contains ·)).all (cs.contains ·) = true := List.all_takeWhile
  unfold Lib.trimS Lib.trimLeftS Lib.trimRightS
  rw [dropWhile_all, ← hs, hd, ht, List.all_reverse, Bool.true_and]

theorem trim_yes (s cs : ByteArray) (w : World) (hs : s.size ≤ 9223372036854775807) (hcs : cs.size < 4294967281) (hascii : cs.data.toList.all (fun b => decide (b.toNat < 128)) = true) (h : allIn s cs = true) :
    Calls Tryz.prog 65 #[.string s, .string cs] w fun e w' => e = .returned (.string ⟨#[]⟩) ∧ Below w.heap.size w w' :=
  (Any.strings_Trim_laid Tryz.lays160 (by kernel_rfl) s cs w hs hcs (ascii_of_all hascii)).mono fun e w' ⟨he, hb⟩ => ⟨by rw [he, (trimS_nil _ _).2 h], hb⟩
theorem trim_no (s cs : ByteArray) (w : World) (hs : s.size ≤ 9223372036854775807) (hcs : cs.size < 4294967281) (hascii : cs.data.toList.all (fun b => decide (b.toNat < 128)) = true) (h : allIn s cs = false) :
    Calls Tryz.prog 65 #[.string s, .string cs] w fun e w' => (∃ t : ByteArray, e = .returned (.string t) ∧ t.toList.isEmpty = false) ∧ Below w.heap.size w w' :=
  (Any.strings_Trim_laid Tryz.lays160 (by kernel_rfl) s cs w hs hcs (ascii_of_all hascii)).mono fun e w' ⟨he, hb⟩ => ⟨⟨_, he, by
    rw [ByteArray.toList_eq]
    have hne : Lib.trimS s.data.toList cs.data.toList ≠ [] := fun h0 => by
      have := (trimS_nil _ _).1 h0
      rw [allIn] at h
      rw [this] at h; cases h
    simpa using hne⟩, hb⟩

def decs : ByteArray := ⟨#[48, 49, 50, 51, 52, 53, 54, 55, 56, 57]⟩
/-- a text of one to most digits -/
def digitsB (s : ByteArray) (most : Int) : Bool := !s.toList.isEmpty && decide ((s.size : Int) ≤ most) && allIn s decs

theorem digits_any (s : ByteArray) (most : Int) (w : World) (hs : s.size ≤ 9223372036854775807) :
    Calls Tryz.prog 64 #[.string s, .int .i64 most] w fun e w' => e = .returned (.bool (digitsB s most)) ∧ Below w.heap.size w w' := by
  by_cases h0 : s.toList.isEmpty = true
  · have hf : digitsB s most = false := by simp [digitsB, h0]
    rw [hf]; clear hf
    go_enter Tryz.func64, Tryz.ntmps64
    go_wp2_with fail
    go_ret
    exact ⟨rfl, Below.refl _ _⟩
  · have h0' : s.toList.isEmpty = false := by simpa using h0
    clear h0
    by_cases h1 : (s.size : Int) ≤ most
    · cases h2 : allIn s decs with
      | true =>
        have hf : digitsB s most = true := by simp [digitsB, h0', h1, h2]
        rw [hf]; clear hf
        have H2 := hide h2
        clear h2
        go_enter Tryz.func64, Tryz.ntmps64
        go_wp2_with (go_at_call 65; refine (trim_yes s _ _ hs (by decide) (by decide) H2.out).mono ?_; rintro e w1 ⟨rfl, hb1⟩)
        go_ret
        exact ⟨rfl, hb1⟩
      | false =>
        have hf : digitsB s most = false := by simp [digitsB, h0', h1, h2]
        rw [hf]; clear hf
        have H2 := hide h2
        clear h2
        go_enter Tryz.func64, Tryz.ntmps64
        go_wp2_with (go_at_call 65; refine (trim_no s _ _ hs (by decide) (by decide) H2.out).mono ?_; rintro e w1 ⟨⟨t, rfl, ht⟩, hb1⟩)
        go_ret
        exact ⟨rfl, hb1⟩
    · have h1' : most < (s.size : Int) := by omega
      have hf : digitsB s most = false := by simp [digitsB, h1]
      rw [hf]; clear hf h1
      go_enter Tryz.func64, Tryz.ntmps64
      go_wp2_with fail
      go_ret
      exact ⟨rfl, Below.refl _ _⟩
end Go.Proofs.YtjojjicpdfmopaaGreatDoor

namespace Go.Proofs.YtjojjicpdfmopaaGreatDoor
open Go Go.RowKit

/-- No account ahead of k has code c. -/
def NoneTo (l : List Acc) (c : ByteArray) (k : Nat) : Prop := ∀ (j : Nat) (h : j < l.length), j < k → (l[j].code.toList == c.toList) = false

def idxO (l : List Acc) (c : ByteArray) : Option Nat := l.findIdx? fun a => a.code.toList == c.toList
/-- The place of the account with code c, or -1. -/
def idxI (l : List Acc) (c : ByteArray) : Int := match idxO l c with | some k => k | none => -1

theorem NoneTo.zero (l : List Acc) (c : ByteArray) : NoneTo l c 0 := fun _ _ h => absurd h (by omega)
theorem NoneTo.succ {l : List Acc} {c : ByteArray} {k : Nat} (h : NoneTo l c k) (hk : k < l.length) (hc : (l[k].code.toList == c.toList) = false) : NoneTo l c (k + 1) := by
  intro j hj hjk
  by_cases e : j = k
  · subst e; exact hc
  · exact h j hj (by omega)
theorem NoneTo.hit {l : List Acc} {c : ByteArray} {k : Nat} (h : NoneTo l c k) (hk : k < l.length) (hc : (l[k].code.toList == c.toList) = true) : idxI l c = k := by
  have : idxO l c = some k := by
    unfold idxO
    rw [List.findIdx?_eq_some_iff_getElem]
    exact ⟨hk, hc, fun j hj => by rw [h j (by omega) hj]; decide⟩
  simp [idxI, this]
theorem NoneTo.miss {l : List Acc} {c : ByteArray} {k : Nat} (h : NoneTo l c k) (hk : l.length ≤ k) : idxI l c = -1 := by
  have : idxO l c = none := by
    unfold idxO
    rw [List.findIdx?_eq_none_iff]
    intro x hx
    obtain ⟨j, hj, rfl⟩ := List.getElem_of_mem hx
    exact h j hj (by omega)
  simp [idxI, this]

/-- the closure of chart.index: is an account's code the captured one? -/
theorem idxClo (a : Acc) (c : ByteArray) (g : Nat) (w : World) (hp : w.cell? ⟨g, 0, none⟩ = some (.string c)) :
    Calls Tryz.prog 102 #[.agg #[.string a.code, .string a.name, .int .i64 a.kind, .string a.parent, .bool a.money], .pointer (some ⟨g, 0, none⟩)] w
      fun e w' => e = .returned (.bool (a.code.toList == c.toList)) ∧ Below w.heap.size w w' := by
  have hg : g < w.heap.size := World.block_lt_of_cell? _ _ hp
  go_enter Tryz.func102, Tryz.ntmps102
  go_wp2
  go_ret
  exact ⟨rfl, (Below.refl _ _).alloc (Nat.le_refl _) _⟩

/-- slices.IndexFunc over accounts, at the closure of chart.index. -/
theorem indexFunc_any (l : List Acc) (c : ByteArray) (A : Option Addr) (n cap g : Nat) (w : World) (hl : n ≤ 9223372036854775807) (ha : Accs w A n l) (hp : w.cell? ⟨g, 0, none⟩ = some (.string c)) :
    Calls Tryz.prog 12 #[.slice A n cap, .func (.func 102) #[] #[.pointer (some ⟨g, 0, none⟩)]] w
      fun e w' => e = .returned (.int .i64 (idxI l c)) ∧ Below w.heap.size w w' := by
  have hn : l.length = n := ha.1
  have Hn := hide hn
  clear hn
  go_enter Tryz.func12, Tryz.ntmps12
  go_wp2
  go_loopw [8] (fun i wr => ∃ k : Nat, k ≤ n ∧ i = .int .i64 k ∧ NoneTo l c k ∧ Below w.heap.size w wr) (fun i _ => n - (intOf i).toNat)
  case atStart => exact ⟨0, by omega, rfl, NoneTo.zero _ _, Below.refl _ _⟩
  case round =>
    obtain ⟨k, hk, rfl, hno, hb⟩ := hrel
    by_cases hlt : k < n
    · obtain ⟨b, off, rfl, hcs⟩ := (ha.below hb).at_ (by omega)
      obtain ⟨h0, h1, h2, h3, h4⟩ := hcs k (by have := Hn.out; omega)
      clear hcs
      have hp' := below_cell hb (World.block_lt_of_cell? _ _ hp) hp
      go_wp2_with (go_at_call 102; refine (idxClo _ c g _ hp').mono ?_; rintro e w1 ⟨rfl, hb1⟩)
      · go_ret
        exact ⟨ret_int (hno.hit _ (by assumption)).symm, bthen hb (Nat.le_refl _) hb1⟩
      · go_roundw
        case rel => exact ⟨k + 1, by omega, by go_num, hno.succ _ (by assumption), bthen hb (Nat.le_refl _) hb1⟩
        case measure => simp [intOf]; omega
    · go_wp2
      go_ret
      exact ⟨ret_int (hno.miss (by have := Hn.out; omega)).symm, hb⟩

theorem index_any (l : List Acc) (c : ByteArray) (A : Option Addr) (n cap : Nat) (w : World) (hl : n ≤ 9223372036854775807) (ha : Accs w A n l) :
    Calls Tryz.prog 67 #[.slice A n cap, .string c] w
      fun e w' => e = .returned (.int .i64 (idxI l c)) ∧ Below w.heap.size w w' := by
  go_enter Tryz.func67, Tryz.ntmps67
  go_wp2_with (go_at_call 12; refine (indexFunc_any l c _ _ _ _ _ hl (ha.alloc _) (by simp)).mono ?_; rintro e w1 ⟨rfl, hb1⟩)
  go_ret
  exact ⟨rfl, bof_alloc hb1⟩

theorem index_at (l : List Acc) (c : ByteArray) (k : Int) (A : Option Addr) (n cap : Nat) (w : World) (hl : n ≤ 9223372036854775807) (ha : Accs w A n l) (hk : idxI l c = k) :
    Calls Tryz.prog 67 #[.slice A n cap, .string c] w
      fun e w' => e = .returned (.int .i64 k) ∧ Below w.heap.size w w' := by
  subst hk; exact index_any l c A n cap w hl ha

/-! ### chart.Leaf -/
/-- No account ahead of k has parent c. -/
def NoneParTo (l : List Acc) (c : ByteArray) (k : Nat) : Prop := ∀ (j : Nat) (h : j < l.length), j < k → (l[j].parent.toList == c.toList) = false
def parO (l : List Acc) (c : ByteArray) : Option Nat := l.findIdx? fun a => a.parent.toList == c.toList
/-- The place of the first account with parent c, or -1. -/
def parI (l : List Acc) (c : ByteArray) : Int := match parO l c with | some k => k | none => -1
theorem NoneParTo.zero (l : List Acc) (c : ByteArray) : NoneParTo l c 0 := fun _ _ h => absurd h (by omega)
theorem NoneParTo.succ {l : List Acc} {c : ByteArray} {k : Nat} (h : NoneParTo l c k) (hk : k < l.length) (hc : (l[k].parent.toList == c.toList) = false) : NoneParTo l c (k + 1) := by
  intro j hj hjk
  by_cases e : j = k
  · subst e; exact hc
  · exact h j hj (by omega)
theorem NoneParTo.hit {l : List Acc} {c : ByteArray} {k : Nat} (h : NoneParTo l c k) (hk : k < l.length) (hc : (l[k].parent.toList == c.toList) = true) : parI l c = k := by
  have : parO l c = some k := by
    unfold parO
    rw [List.findIdx?_eq_some_iff_getElem]
    exact ⟨hk, hc, fun j hj => by rw [h j (by omega) hj]; decide⟩
  simp [parI, this]
theorem NoneParTo.miss {l : List Acc} {c : ByteArray} {k : Nat} (h : NoneParTo l c k) (hk : l.length ≤ k) : parI l c = -1 := by
  have : parO l c = none := by
    unfold parO
    rw [List.findIdx?_eq_none_iff]
    intro x hx
    obtain ⟨j, hj, rfl⟩ := List.getElem_of_mem hx
    exact h j hj (by omega)
  simp [parI, this]

/-- what is wrong with a code that should be a leaf's -/
def leafE (l : List Acc) (c : ByteArray) : Int := if idxI l c < 0 then 6 else if 0 ≤ parI l c then 12 else 0

theorem leafE_6 {l : List Acc} {c : ByteArray} (h : idxI l c < 0) : leafE l c = 6 := by rw [leafE, if_pos h]
theorem leafE_12 {l : List Acc} {c : ByteArray} (h : 0 ≤ idxI l c) (h2 : 0 ≤ parI l c) : leafE l c = 12 := by rw [leafE, if_neg (by omega), if_pos h2]
theorem leafE_0 {l : List Acc} {c : ByteArray} (h : 0 ≤ idxI l c) (h2 : parI l c < 0) : leafE l c = 0 := by rw [leafE, if_neg (by omega), if_neg (by omega)]

end Go.Proofs.YtjojjicpdfmopaaGreatDoor

namespace Go.Proofs.YtjojjicpdfmopaaGreatDoor
open Go Go.RowKit
set_option linter.unusedVariables false

def uppers : ByteArray := ⟨#[65, 66, 67, 68, 69, 70, 71, 72, 73, 74, 75, 76, 77, 78, 79, 80, 81, 82, 83, 84, 85, 86, 87, 88, 89, 90]⟩
def nameSet : ByteArray := ⟨#[97, 98, 99, 100, 101, 102, 103, 104, 105, 106, 107, 108, 109, 110, 111, 112, 113, 114, 115, 116, 117, 118, 119, 120, 121, 122, 65, 66, 67, 68, 69, 70, 71, 72, 73, 74, 75, 76, 77, 78, 79, 80, 81, 82, 83, 84, 85, 86, 87, 88, 89, 90, 48, 49, 50, 51, 52, 53, 54, 55, 56, 57, 45]⟩

theorem upper_any (w : World) :
    Calls Tryz.prog 66 #[.string ⟨#[97, 98, 99, 100, 101, 102, 103, 104, 105, 106, 107, 108, 109, 110, 111, 112, 113, 114, 115, 116, 117, 118, 119, 120, 121, 122]⟩] w
      fun e w' => e = .returned (.string ⟨#[65, 66, 67, 68, 69, 70, 71, 72, 73, 74, 75, 76, 77, 78, 79, 80, 81, 82, 83, 84, 85, 86, 87, 88, 89, 90]⟩) ∧ Below w.heap.size w w' := 
  (Tryz.strings_ToUpper_ascii ⟨#[97, 98, 99, 100, 101, 102, 103, 104, 105, 106, 107, 108, 109, 110, 111, 112, 113, 114, 115, 116, 117, 118, 119, 120, 121, 122]⟩ w (by decide) (ascii_of_all (by decide))).mono
    fun e w' ⟨he, hb⟩ => ⟨he.trans (congrArg (fun l : List UInt8 => Ending.returned (.string ⟨l.toArray⟩)) (by decide +kernel : Lib.toUpperA _ = [65, 66, 67, 68, 69, 70, 71, 72, 73, 74, 75, 76, 77, 78, 79, 80, 81, 82, 83, 84, 85, 86, 87, 88, 89, 90])), hb⟩

theorem acc_c1 (l : List Acc) (A : Option Addr) (n cap i : Nat) (w : World) (hl : n ≤ 9223372036854775807) (hcap : n ≤ cap) (ha : Accs w A n l) (hil : i < l.length)
    (hs1 : l[i].code.size ≤ 9223372036854775807) (hs2 : l[i].name.size ≤ 9223372036854775807) (hd : digitsB l[i].code 6 = false) :
    Calls Tryz.prog 31 #[.slice A n cap, .int .i64 i] w fun e w' => e = .returned (.iface 49 (.int .i64 2)) ∧ Below w.heap.size w w' := by
  have hn : l.length = n := ha.1
  have hi : i < n := by omega
  have Hn := hide hn
  clear hn
  obtain ⟨b, off, rfl, hcs⟩ := ha.at_ (by omega)
  obtain ⟨h0, h1, h2, h3, h4⟩ := hcs i hil
  have hbl : b < w.heap.size := World.block_lt_of_cell? _ _ h0
  have hble : b ≤ w.heap.size := by omega
  clear hcs
  go_enter Tryz.func31, Tryz.ntmps31
  go_wp2_with (first | (go_at_call 64; refine (digits_any _ _ _ hs1).mono ?_; rintro e w1 ⟨rfl, hb1⟩; have hS1 : w1.cell? ⟨w.heap.size, 1, none⟩ = some (.string l[i].name) := below_cell hb1 (by simp) (by simp); have hc1 := (bcell hb1).1; have hz1 : w.heap.size < w1.heap.size := (by have := hb1.size; simp at this; omega); have hbz1 : b < w1.heap.size := (by omega)) | (go_at_call 66; refine (upper_any _).mono ?_; rintro e w2 ⟨rfl, hb2⟩; have hc2 := (bcell hb2).1; have hz2 : w.heap.size < w2.heap.size := (by have := hb2.size; omega); have hbz2 : b < w2.heap.size := (by omega)) | (go_at_call 65; refine (trim_yes l[i].name _ _ hs2 (by decide) (by decide) H.out).mono ?_; rintro e w3 ⟨rfl, hb3⟩; have hc3 := (bcell hb3).1; have hz3 : w.heap.size < w3.heap.size := (by have := hb3.size; omega); have hbz3 : b < w3.heap.size := (by omega)))
  go_ret
  exact ⟨rfl, bof_alloc hb1⟩

theorem acc_c2 (l : List Acc) (A : Option Addr) (n cap i : Nat) (w : World) (hl : n ≤ 9223372036854775807) (hcap : n ≤ cap) (ha : Accs w A n l) (hil : i < l.length)
    (hs1 : l[i].code.size ≤ 9223372036854775807) (hs2 : l[i].name.size ≤ 9223372036854775807) (hd : digitsB l[i].code 6 = true) (hn1 : l[i].name.toList.isEmpty = true) :
    Calls Tryz.prog 31 #[.slice A n cap, .int .i64 i] w fun e w' => e = .returned (.iface 49 (.int .i64 2)) ∧ Below w.heap.size w w' := by
  have hn : l.length = n := ha.1
  have hi : i < n := by omega
  have Hn := hide hn
  clear hn
  obtain ⟨b, off, rfl, hcs⟩ := ha.at_ (by omega)
  obtain ⟨h0, h1, h2, h3, h4⟩ := hcs i hil
  have hbl : b < w.heap.size := World.block_lt_of_cell? _ _ h0
  have hble : b ≤ w.heap.size := by omega
  clear hcs
  go_enter Tryz.func31, Tryz.ntmps31
  go_wp2_with (first | (go_at_call 64; refine (digits_any _ _ _ hs1).mono ?_; rintro e w1 ⟨rfl, hb1⟩; have hS1 : w1.cell? ⟨w.heap.size, 1, none⟩ = some (.string l[i].name) := below_cell hb1 (by simp) (by simp); have hc1 := (bcell hb1).1; have hz1 : w.heap.size < w1.heap.size := (by have := hb1.size; simp at this; omega); have hbz1 : b < w1.heap.size := (by omega)) | (go_at_call 66; refine (upper_any _).mono ?_; rintro e w2 ⟨rfl, hb2⟩; have hc2 := (bcell hb2).1; have hz2 : w.heap.size < w2.heap.size := (by have := hb2.size; omega); have hbz2 : b < w2.heap.size := (by omega)) | (go_at_call 65; refine (trim_yes l[i].name _ _ hs2 (by decide) (by decide) H.out).mono ?_; rintro e w3 ⟨rfl, hb3⟩; have hc3 := (bcell hb3).1; have hz3 : w.heap.size < w3.heap.size := (by have := hb3.size; omega); have hbz3 : b < w3.heap.size := (by omega)))
  go_ret
  exact ⟨rfl, bof_alloc hb1⟩

theorem acc_c3 (l : List Acc) (A : Option Addr) (n cap i : Nat) (w : World) (hl : n ≤ 9223372036854775807) (hcap : n ≤ cap) (ha : Accs w A n l) (hil : i < l.length)
    (hs1 : l[i].code.size ≤ 9223372036854775807) (hs2 : l[i].name.size ≤ 9223372036854775807) (hd : digitsB l[i].code 6 = true) (hn1 : l[i].name.toList.isEmpty = false) (hn2 : 24 < (l[i].name.size : Int)) :
    Calls Tryz.prog 31 #[.slice A n cap, .int .i64 i] w fun e w' => e = .returned (.iface 49 (.int .i64 2)) ∧ Below w.heap.size w w' := by
  have hn : l.length = n := ha.1
  have hi : i < n := by omega
  have Hn := hide hn
  clear hn
  obtain ⟨b, off, rfl, hcs⟩ := ha.at_ (by omega)
  obtain ⟨h0, h1, h2, h3, h4⟩ := hcs i hil
  have hbl : b < w.heap.size := World.block_lt_of_cell? _ _ h0
  have hble : b ≤ w.heap.size := by omega
  clear hcs
  go_enter Tryz.func31, Tryz.ntmps31
  go_wp2_with (first | (go_at_call 64; refine (digits_any _ _ _ hs1).mono ?_; rintro e w1 ⟨rfl, hb1⟩; have hS1 : w1.cell? ⟨w.heap.size, 1, none⟩ = some (.string l[i].name) := below_cell hb1 (by simp) (by simp); have hc1 := (bcell hb1).1; have hz1 : w.heap.size < w1.heap.size := (by have := hb1.size; simp at this; omega); have hbz1 : b < w1.heap.size := (by omega)) | (go_at_call 66; refine (upper_any _).mono ?_; rintro e w2 ⟨rfl, hb2⟩; have hc2 := (bcell hb2).1; have hz2 : w.heap.size < w2.heap.size := (by have := hb2.size; omega); have hbz2 : b < w2.heap.size := (by omega)) | (go_at_call 65; refine (trim_yes l[i].name _ _ hs2 (by decide) (by decide) H.out).mono ?_; rintro e w3 ⟨rfl, hb3⟩; have hc3 := (bcell hb3).1; have hz3 : w.heap.size < w3.heap.size := (by have := hb3.size; omega); have hbz3 : b < w3.heap.size := (by omega)))
  go_ret
  exact ⟨rfl, bof_alloc hb1⟩

theorem acc_c4 (l : List Acc) (A : Option Addr) (n cap i : Nat) (w : World) (hl : n ≤ 9223372036854775807) (hcap : n ≤ cap) (ha : Accs w A n l) (hil : i < l.length)
    (hs1 : l[i].code.size ≤ 9223372036854775807) (hs2 : l[i].name.size ≤ 9223372036854775807) (hd : digitsB l[i].code 6 = true) (hn1 : l[i].name.toList.isEmpty = false) (hn2 : (l[i].name.size : Int) ≤ 24) (H : Hid (allIn l[i].name nameSet = false)) :
    Calls Tryz.prog 31 #[.slice A n cap, .int .i64 i] w fun e w' => e = .returned (.iface 49 (.int .i64 2)) ∧ Below w.heap.size w w' := by
  have hn : l.length = n := ha.1
  have hi : i < n := by omega
  have Hn := hide hn
  clear hn
  obtain ⟨b, off, rfl, hcs⟩ := ha.at_ (by omega)
  obtain ⟨h0, h1, h2, h3, h4⟩ := hcs i hil
  have hbl : b < w.heap.size := World.block_lt_of_cell? _ _ h0
  have hble : b ≤ w.heap.size := by omega
  clear hcs
  go_enter Tryz.func31, Tryz.ntmps31
  go_wp2_with (first | (go_at_call 64; refine (digits_any _ _ _ hs1).mono ?_; rintro e w1 ⟨rfl, hb1⟩; have hS1 : w1.cell? ⟨w.heap.size, 1, none⟩ = some (.string l[i].name) := below_cell hb1 (by simp) (by simp); have hc1 := (bcell hb1).1; have hz1 : w.heap.size < w1.heap.size := (by have := hb1.size; simp at this; omega); have hbz1 : b < w1.heap.size := (by omega)) | (go_at_call 66; refine (upper_any _).mono ?_; rintro e w2 ⟨rfl, hb2⟩; have hc2 := (bcell hb2).1; have hz2 : w.heap.size < w2.heap.size := (by have := hb2.size; omega); have hbz2 : b < w2.heap.size := (by omega)) | (go_at_call 65; refine (trim_no l[i].name _ _ hs2 (by decide) (by decide) H.out).mono ?_; rintro e w3 ⟨⟨t3, rfl, ht3⟩, hb3⟩; have hc3 := (bcell hb3).1; have hz3 : w.heap.size < w3.heap.size := (by have := hb3.size; omega); have hbz3 : b < w3.heap.size := (by omega)))
  go_region_held3 (fun w' => w'.cell? ⟨w.heap.size, 1, none⟩ = some (.string l[i].name)) (first | exact hS1 | exact hS2 | exact hS3)
    (first | (go_at_call 66; refine (upper_any _).mono ?_; rintro e w2 ⟨rfl, hb2⟩; have hS2 : w2.cell? ⟨w.heap.size, 1, none⟩ = some (.string l[i].name) := below_cell hb2 (by simp; omega) hS1; have hz2 : w.heap.size < w2.heap.size := (by have := hb2.size; simp at this; omega)) | (go_at_call 65; refine (trim_no l[i].name nameSet _ hs2 (by decide) (by decide) H.out).mono ?_; rintro e w3 ⟨⟨t3, rfl, ht3⟩, hb3⟩; have hS3 : w3.cell? ⟨w.heap.size, 1, none⟩ = some (.string l[i].name) := below_cell hb3 (by omega) hS2))
  have hB := bthen (bthen hb1.drew (Nat.le_refl _) hb2) (Nat.le_refl _) hb3
  have hcB := (bcell hB).1
  have hzB : w.heap.size < w3.heap.size := by have := hB.size; simp at this; omega
  have hbB : b < w3.heap.size := by omega
  go_wp2_with fail
  go_ret
  exact ⟨rfl, bthen (bthen (bof_alloc hb1).drew (Nat.le_refl _) hb2) (Nat.le_refl _) hb3⟩

theorem acc_c5 (l : List Acc) (A : Option Addr) (n cap i : Nat) (w : World) (hl : n ≤ 9223372036854775807) (hcap : n ≤ cap) (ha : Accs w A n l) (hil : i < l.length)
    (hs1 : l[i].code.size ≤ 9223372036854775807) (hs2 : l[i].name.size ≤ 9223372036854775807) (hd : digitsB l[i].code 6 = true) (hn1 : l[i].name.toList.isEmpty = false) (hn2 : (l[i].name.size : Int) ≤ 24) (H : Hid (allIn l[i].name nameSet = true)) (hk : l[i].kind < 1) :
    Calls Tryz.prog 31 #[.slice A n cap, .int .i64 i] w fun e w' => e = .returned (.iface 49 (.int .i64 1)) ∧ Below w.heap.size w w' := by
  have hn : l.length = n := ha.1
  have hi : i < n := by omega
  have Hn := hide hn
  clear hn
  obtain ⟨b, off, rfl, hcs⟩ := ha.at_ (by omega)
  obtain ⟨h0, h1, h2, h3, h4⟩ := hcs i hil
  have hbl : b < w.heap.size := World.block_lt_of_cell? _ _ h0
  have hble : b ≤ w.heap.size := by omega
  clear hcs
  go_enter Tryz.func31, Tryz.ntmps31
  go_wp2_with (first | (go_at_call 64; refine (digits_any _ _ _ hs1).mono ?_; rintro e w1 ⟨rfl, hb1⟩; have hS1 : w1.cell? ⟨w.heap.size, 1, none⟩ = some (.string l[i].name) := below_cell hb1 (by simp) (by simp); have hc1 := (bcell hb1).1; have hz1 : w.heap.size < w1.heap.size := (by have := hb1.size; simp at this; omega); have hbz1 : b < w1.heap.size := (by omega)) | (go_at_call 66; refine (upper_any _).mono ?_; rintro e w2 ⟨rfl, hb2⟩; have hc2 := (bcell hb2).1; have hz2 : w.heap.size < w2.heap.size := (by have := hb2.size; omega); have hbz2 : b < w2.heap.size := (by omega)) | (go_at_call 65; refine (trim_yes l[i].name _ _ hs2 (by decide) (by decide) H.out).mono ?_; rintro e w3 ⟨rfl, hb3⟩; have hc3 := (bcell hb3).1; have hz3 : w.heap.size < w3.heap.size := (by have := hb3.size; omega); have hbz3 : b < w3.heap.size := (by omega)))
  go_region_held3 (fun w' => w'.cell? ⟨w.heap.size, 1, none⟩ = some (.string l[i].name)) (first | exact hS1 | exact hS2 | exact hS3)
    (first | (go_at_call 66; refine (upper_any _).mono ?_; rintro e w2 ⟨rfl, hb2⟩; have hS2 : w2.cell? ⟨w.heap.size, 1, none⟩ = some (.string l[i].name) := below_cell hb2 (by simp; omega) hS1; have hz2 : w.heap.size < w2.heap.size := (by have := hb2.size; simp at this; omega)) | (go_at_call 65; refine (trim_yes l[i].name nameSet _ hs2 (by decide) (by decide) H.out).mono ?_; rintro e w3 ⟨rfl, hb3⟩; have hS3 : w3.cell? ⟨w.heap.size, 1, none⟩ = some (.string l[i].name) := below_cell hb3 (by omega) hS2))
  have hB := bthen (bthen hb1.drew (Nat.le_refl _) hb2) (Nat.le_refl _) hb3
  have hcB := (bcell hB).1
  have hzB : w.heap.size < w3.heap.size := by have := hB.size; simp at this; omega
  have hbB : b < w3.heap.size := by omega
  go_wp2_with fail
  go_ret
  exact ⟨rfl, bthen (bthen (bof_alloc hb1).drew (Nat.le_refl _) hb2) (Nat.le_refl _) hb3⟩

theorem acc_c6 (l : List Acc) (A : Option Addr) (n cap i : Nat) (w : World) (hl : n ≤ 9223372036854775807) (hcap : n ≤ cap) (ha : Accs w A n l) (hil : i < l.length)
    (hs1 : l[i].code.size ≤ 9223372036854775807) (hs2 : l[i].name.size ≤ 9223372036854775807) (hd : digitsB l[i].code 6 = true) (hn1 : l[i].name.toList.isEmpty = false) (hn2 : (l[i].name.size : Int) ≤ 24) (H : Hid (allIn l[i].name nameSet = true)) (hk1 : 1 ≤ l[i].kind) (hk : 5 < l[i].kind) :
    Calls Tryz.prog 31 #[.slice A n cap, .int .i64 i] w fun e w' => e = .returned (.iface 49 (.int .i64 1)) ∧ Below w.heap.size w w' := by
  have hn : l.length = n := ha.1
  have hi : i < n := by omega
  have Hn := hide hn
  clear hn
  obtain ⟨b, off, rfl, hcs⟩ := ha.at_ (by omega)
  obtain ⟨h0, h1, h2, h3, h4⟩ := hcs i hil
  have hbl : b < w.heap.size := World.block_lt_of_cell? _ _ h0
  have hble : b ≤ w.heap.size := by omega
  clear hcs
  go_enter Tryz.func31, Tryz.ntmps31
  go_wp2_with (first | (go_at_call 64; refine (digits_any _ _ _ hs1).mono ?_; rintro e w1 ⟨rfl, hb1⟩; have hS1 : w1.cell? ⟨w.heap.size, 1, none⟩ = some (.string l[i].name) := below_cell hb1 (by simp) (by simp); have hc1 := (bcell hb1).1; have hz1 : w.heap.size < w1.heap.size := (by have := hb1.size; simp at this; omega); have hbz1 : b < w1.heap.size := (by omega)) | (go_at_call 66; refine (upper_any _).mono ?_; rintro e w2 ⟨rfl, hb2⟩; have hc2 := (bcell hb2).1; have hz2 : w.heap.size < w2.heap.size := (by have := hb2.size; omega); have hbz2 : b < w2.heap.size := (by omega)) | (go_at_call 65; refine (trim_yes l[i].name _ _ hs2 (by decide) (by decide) H.out).mono ?_; rintro e w3 ⟨rfl, hb3⟩; have hc3 := (bcell hb3).1; have hz3 : w.heap.size < w3.heap.size := (by have := hb3.size; omega); have hbz3 : b < w3.heap.size := (by omega)))
  go_region_held3 (fun w' => w'.cell? ⟨w.heap.size, 1, none⟩ = some (.string l[i].name)) (first | exact hS1 | exact hS2 | exact hS3)
    (first | (go_at_call 66; refine (upper_any _).mono ?_; rintro e w2 ⟨rfl, hb2⟩; have hS2 : w2.cell? ⟨w.heap.size, 1, none⟩ = some (.string l[i].name) := below_cell hb2 (by simp; omega) hS1; have hz2 : w.heap.size < w2.heap.size := (by have := hb2.size; simp at this; omega)) | (go_at_call 65; refine (trim_yes l[i].name nameSet _ hs2 (by decide) (by decide) H.out).mono ?_; rintro e w3 ⟨rfl, hb3⟩; have hS3 : w3.cell? ⟨w.heap.size, 1, none⟩ = some (.string l[i].name) := below_cell hb3 (by omega) hS2))
  have hB := bthen (bthen hb1.drew (Nat.le_refl _) hb2) (Nat.le_refl _) hb3
  have hcB := (bcell hB).1
  have hzB : w.heap.size < w3.heap.size := by have := hB.size; simp at this; omega
  have hbB : b < w3.heap.size := by omega
  go_wp2_with fail
  go_ret
  exact ⟨rfl, bthen (bthen (bof_alloc hb1).drew (Nat.le_refl _) hb2) (Nat.le_refl _) hb3⟩

theorem acc_c7 (l : List Acc) (A : Option Addr) (n cap i : Nat) (w : World) (hl : n ≤ 9223372036854775807) (hcap : n ≤ cap) (ha : Accs w A n l) (hil : i < l.length)
    (hs1 : l[i].code.size ≤ 9223372036854775807) (hs2 : l[i].name.size ≤ 9223372036854775807) (hd : digitsB l[i].code 6 = true) (hn1 : l[i].name.toList.isEmpty = false) (hn2 : (l[i].name.size : Int) ≤ 24) (H : Hid (allIn l[i].name nameSet = true)) (hk1 : 1 ≤ l[i].kind) (hk2 : l[i].kind ≤ 5) (hi0 : 0 < i) (hlt : Op.bytesLess (l[i-1]'(by omega)).code.toList l[i].code.toList = false) :
    Calls Tryz.prog 31 #[.slice A n cap, .int .i64 i] w fun e w' => e = .returned (.iface 49 (.int .i64 5)) ∧ Below w.heap.size w w' := by
  have hn : l.length = n := ha.1
  have hi : i < n := by omega
  have Hn := hide hn
  clear hn
  obtain ⟨b, off, rfl, hcs⟩ := ha.at_ (by omega)
  obtain ⟨h0, h1, h2, h3, h4⟩ := hcs i hil
  have hbl : b < w.heap.size := World.block_lt_of_cell? _ _ h0
  have hble : b ≤ w.heap.size := by omega
  have hp := (hcs (i - 1) (by omega)).1
  clear hcs
  go_enter Tryz.func31, Tryz.ntmps31
  go_wp2_with (first | (go_at_call 64; refine (digits_any _ _ _ hs1).mono ?_; rintro e w1 ⟨rfl, hb1⟩; have hS1 : w1.cell? ⟨w.heap.size, 1, none⟩ = some (.string l[i].name) := below_cell hb1 (by simp) (by simp); have hc1 := (bcell hb1).1; have hz1 : w.heap.size < w1.heap.size := (by have := hb1.size; simp at this; omega); have hbz1 : b < w1.heap.size := (by omega)) | (go_at_call 66; refine (upper_any _).mono ?_; rintro e w2 ⟨rfl, hb2⟩; have hc2 := (bcell hb2).1; have hz2 : w.heap.size < w2.heap.size := (by have := hb2.size; omega); have hbz2 : b < w2.heap.size := (by omega)) | (go_at_call 65; refine (trim_yes l[i].name _ _ hs2 (by decide) (by decide) H.out).mono ?_; rintro e w3 ⟨rfl, hb3⟩; have hc3 := (bcell hb3).1; have hz3 : w.heap.size < w3.heap.size := (by have := hb3.size; omega); have hbz3 : b < w3.heap.size := (by omega)))
  go_region_held3 (fun w' => w'.cell? ⟨w.heap.size, 1, none⟩ = some (.string l[i].name)) (first | exact hS1 | exact hS2 | exact hS3)
    (first | (go_at_call 66; refine (upper_any _).mono ?_; rintro e w2 ⟨rfl, hb2⟩; have hS2 : w2.cell? ⟨w.heap.size, 1, none⟩ = some (.string l[i].name) := below_cell hb2 (by simp; omega) hS1; have hz2 : w.heap.size < w2.heap.size := (by have := hb2.size; simp at this; omega)) | (go_at_call 65; refine (trim_yes l[i].name nameSet _ hs2 (by decide) (by decide) H.out).mono ?_; rintro e w3 ⟨rfl, hb3⟩; have hS3 : w3.cell? ⟨w.heap.size, 1, none⟩ = some (.string l[i].name) := below_cell hb3 (by omega) hS2))
  have hB := bthen (bthen hb1.drew (Nat.le_refl _) hb2) (Nat.le_refl _) hb3
  have hcB := (bcell hB).1
  have hzB : w.heap.size < w3.heap.size := by have := hB.size; simp at this; omega
  have hbB : b < w3.heap.size := by omega
  go_wp2_with fail
  have iw : IntKind.i64.wrap ((i : Int) - 1) = (i : Int) - 1 := IntWalk.i64_in _ (by omega)
  have i0 : 0 ≤ (i : Int) - 1 := by omega
  have i1 : 1 ≤ (i : Int) := by omega
  have it : ((i : Int) - 1).toNat = i - 1 := by omega
  have il : (i : Int) - 1 < (n : Int) := by omega
  go_quiet (fail)
  clear iw it
  go_wp2_with fail
  go_ret
  exact ⟨rfl, bdrewN (bthen (bthen (bof_alloc hb1).drew (Nat.le_refl _) hb2) (Nat.le_refl _) hb3) _⟩

theorem acc_c8p (l : List Acc) (A : Option Addr) (n cap i : Nat) (w : World) (hl : n ≤ 9223372036854775807) (hcap : n ≤ cap) (ha : Accs w A n l) (hil : i < l.length)
    (hs1 : l[i].code.size ≤ 9223372036854775807) (hs2 : l[i].name.size ≤ 9223372036854775807) (hd : digitsB l[i].code 6 = true) (hn1 : l[i].name.toList.isEmpty = false) (hn2 : (l[i].name.size : Int) ≤ 24) (H : Hid (allIn l[i].name nameSet = true)) (hk1 : 1 ≤ l[i].kind) (hk2 : l[i].kind ≤ 5) (hi0 : 0 < i) (hlt : Op.bytesLess (l[i-1]'(by omega)).code.toList l[i].code.toList = true) (hpar : l[i].parent.toList.isEmpty = true) :
    Calls Tryz.prog 31 #[.slice A n cap, .int .i64 i] w fun e w' => e = .returned (.nilIface) ∧ Below w.heap.size w w' := by
  have hn : l.length = n := ha.1
  have hi : i < n := by omega
  have Hn := hide hn
  clear hn
  obtain ⟨b, off, rfl, hcs⟩ := ha.at_ (by omega)
  obtain ⟨h0, h1, h2, h3, h4⟩ := hcs i hil
  have hbl : b < w.heap.size := World.block_lt_of_cell? _ _ h0
  have hble : b ≤ w.heap.size := by omega
  have hp := (hcs (i - 1) (by omega)).1
  clear hcs
  go_enter Tryz.func31, Tryz.ntmps31
  go_wp2_with (first | (go_at_call 64; refine (digits_any _ _ _ hs1).mono ?_; rintro e w1 ⟨rfl, hb1⟩; have hS1 : w1.cell? ⟨w.heap.size, 1, none⟩ = some (.string l[i].name) := below_cell hb1 (by simp) (by simp); have hc1 := (bcell hb1).1; have hz1 : w.heap.size < w1.heap.size := (by have := hb1.size; simp at this; omega); have hbz1 : b < w1.heap.size := (by omega)) | (go_at_call 66; refine (upper_any _).mono ?_; rintro e w2 ⟨rfl, hb2⟩; have hc2 := (bcell hb2).1; have hz2 : w.heap.size < w2.heap.size := (by have := hb2.size; omega); have hbz2 : b < w2.heap.size := (by omega)) | (go_at_call 65; refine (trim_yes l[i].name _ _ hs2 (by decide) (by decide) H.out).mono ?_; rintro e w3 ⟨rfl, hb3⟩; have hc3 := (bcell hb3).1; have hz3 : w.heap.size < w3.heap.size := (by have := hb3.size; omega); have hbz3 : b < w3.heap.size := (by omega)))
  go_region_held3 (fun w' => w'.cell? ⟨w.heap.size, 1, none⟩ = some (.string l[i].name)) (first | exact hS1 | exact hS2 | exact hS3)
    (first | (go_at_call 66; refine (upper_any _).mono ?_; rintro e w2 ⟨rfl, hb2⟩; have hS2 : w2.cell? ⟨w.heap.size, 1, none⟩ = some (.string l[i].name) := below_cell hb2 (by simp; omega) hS1; have hz2 : w.heap.size < w2.heap.size := (by have := hb2.size; simp at this; omega)) | (go_at_call 65; refine (trim_yes l[i].name nameSet _ hs2 (by decide) (by decide) H.out).mono ?_; rintro e w3 ⟨rfl, hb3⟩; have hS3 : w3.cell? ⟨w.heap.size, 1, none⟩ = some (.string l[i].name) := below_cell hb3 (by omega) hS2))
  have hB := bthen (bthen hb1.drew (Nat.le_refl _) hb2) (Nat.le_refl _) hb3
  have hcB := (bcell hB).1
  have hzB : w.heap.size < w3.heap.size := by have := hB.size; simp at this; omega
  have hbB : b < w3.heap.size := by omega
  go_wp2_with fail
  have iw : IntKind.i64.wrap ((i : Int) - 1) = (i : Int) - 1 := IntWalk.i64_in _ (by omega)
  have i0 : 0 ≤ (i : Int) - 1 := by omega
  have i1 : 1 ≤ (i : Int) := by omega
  have it : ((i : Int) - 1).toNat = i - 1 := by omega
  have il : (i : Int) - 1 < (n : Int) := by omega
  go_quiet (fail)
  clear iw it
  go_wp2_with fail
  go_ret
  exact ⟨rfl, bdrewN (bthen (bthen (bof_alloc hb1).drew (Nat.le_refl _) hb2) (Nat.le_refl _) hb3) _⟩

theorem acc_c9p (l : List Acc) (A : Option Addr) (n cap i : Nat) (w : World) (hl : n ≤ 9223372036854775807) (hcap : n ≤ cap) (ha : Accs w A n l) (hil : i < l.length)
    (hs1 : l[i].code.size ≤ 9223372036854775807) (hs2 : l[i].name.size ≤ 9223372036854775807) (hd : digitsB l[i].code 6 = true) (hn1 : l[i].name.toList.isEmpty = false) (hn2 : (l[i].name.size : Int) ≤ 24) (H : Hid (allIn l[i].name nameSet = true)) (hk1 : 1 ≤ l[i].kind) (hk2 : l[i].kind ≤ 5) (hi0 : 0 < i) (hlt : Op.bytesLess (l[i-1]'(by omega)).code.toList l[i].code.toList = true) (hpar : l[i].parent.toList.isEmpty = false) (hk : idxI (l.take i) l[i].parent < 0) :
    Calls Tryz.prog 31 #[.slice A n cap, .int .i64 i] w fun e w' => e = .returned (.iface 49 (.int .i64 6)) ∧ Below w.heap.size w w' := by
  have hn : l.length = n := ha.1
  have hi : i < n := by omega
  have Hn := hide hn
  clear hn
  obtain ⟨b, off, rfl, hcs⟩ := ha.at_ (by omega)
  obtain ⟨h0, h1, h2, h3, h4⟩ := hcs i hil
  have hbl : b < w.heap.size := World.block_lt_of_cell? _ _ h0
  have hble : b ≤ w.heap.size := by omega
  have hp := (hcs (i - 1) (by omega)).1
  clear hcs
  go_enter Tryz.func31, Tryz.ntmps31
  go_wp2_with (first | (go_at_call 64; refine (digits_any _ _ _ hs1).mono ?_; rintro e w1 ⟨rfl, hb1⟩; have hS1 : w1.cell? ⟨w.heap.size, 1, none⟩ = some (.string l[i].name) := below_cell hb1 (by simp) (by simp); have hc1 := (bcell hb1).1; have hz1 : w.heap.size < w1.heap.size := (by have := hb1.size; simp at this; omega); have hbz1 : b < w1.heap.size := (by omega)) | (go_at_call 66; refine (upper_any _).mono ?_; rintro e w2 ⟨rfl, hb2⟩; have hc2 := (bcell hb2).1; have hz2 : w.heap.size < w2.heap.size := (by have := hb2.size; omega); have hbz2 : b < w2.heap.size := (by omega)) | (go_at_call 65; refine (trim_yes l[i].name _ _ hs2 (by decide) (by decide) H.out).mono ?_; rintro e w3 ⟨rfl, hb3⟩; have hc3 := (bcell hb3).1; have hz3 : w.heap.size < w3.heap.size := (by have := hb3.size; omega); have hbz3 : b < w3.heap.size := (by omega)))
  go_region_held3 (fun w' => w'.cell? ⟨w.heap.size, 1, none⟩ = some (.string l[i].name)) (first | exact hS1 | exact hS2 | exact hS3)
    (first | (go_at_call 66; refine (upper_any _).mono ?_; rintro e w2 ⟨rfl, hb2⟩; have hS2 : w2.cell? ⟨w.heap.size, 1, none⟩ = some (.string l[i].name) := below_cell hb2 (by simp; omega) hS1; have hz2 : w.heap.size < w2.heap.size := (by have := hb2.size; simp at this; omega)) | (go_at_call 65; refine (trim_yes l[i].name nameSet _ hs2 (by decide) (by decide) H.out).mono ?_; rintro e w3 ⟨rfl, hb3⟩; have hS3 : w3.cell? ⟨w.heap.size, 1, none⟩ = some (.string l[i].name) := below_cell hb3 (by omega) hS2))
  have hB := bthen (bthen hb1.drew (Nat.le_refl _) hb2) (Nat.le_refl _) hb3
  have hcB := (bcell hB).1
  have hzB : w.heap.size < w3.heap.size := by have := hB.size; simp at this; omega
  have hbB : b < w3.heap.size := by omega
  go_wp2_with fail
  have iw : IntKind.i64.wrap ((i : Int) - 1) = (i : Int) - 1 := IntWalk.i64_in _ (by omega)
  have i0 : 0 ≤ (i : Int) - 1 := by omega
  have i1 : 1 ≤ (i : Int) := by omega
  have it : ((i : Int) - 1).toNat = i - 1 := by omega
  have il : (i : Int) - 1 < (n : Int) := by omega
  go_quiet (fail)
  clear iw it
  go_wp2_with fail
  have hBw : Below w.heap.size w w3 := bthen (bthen (bof_alloc hb1).drew (Nat.le_refl _) hb2) (Nat.le_refl _) hb3
  have hP3 : w3.cell? ⟨w.heap.size, 3, none⟩ = some (.string l[i].parent) := below_cell hB (by simp) (by simp)
  have j0 : (0 : Int) ≤ (i : Int) := by omega
  have j1 : (i : Int) ≤ (cap : Int) := by omega
  go_region_held3 (fun w' => w'.cell? ⟨w.heap.size, 3, none⟩ = some (.string l[i].parent)) (first | exact hP3 | exact hP4)
    (first | (go_at_call 67; refine (index_any (l.take i) _ _ _ _ _ (by omega) (Rd.take (ha.below (by first | exact hBw | exact hBw.drew | exact bdrewN hBw _ | exact (bdrewN hBw _).drew)) (by omega))).mono ?_; rintro e w4 ⟨rfl, hb4⟩; have hP4 : w4.cell? ⟨w.heap.size, 3, none⟩ = some (.string l[i].parent) := below_cell hb4 (by simp; omega) hP3))
  go_wp2_with fail
  go_ret
  exact ⟨rfl, bthen (bdrewN (bthen (bthen (bof_alloc hb1).drew (Nat.le_refl _) hb2) (Nat.le_refl _) hb3) _) (Nat.le_refl _) hb4⟩

theorem acc_c8z (l : List Acc) (A : Option Addr) (n cap i : Nat) (w : World) (hl : n ≤ 9223372036854775807) (hcap : n ≤ cap) (ha : Accs w A n l) (hil : i < l.length)
    (hs1 : l[i].code.size ≤ 9223372036854775807) (hs2 : l[i].name.size ≤ 9223372036854775807) (hd : digitsB l[i].code 6 = true) (hn1 : l[i].name.toList.isEmpty = false) (hn2 : (l[i].name.size : Int) ≤ 24) (H : Hid (allIn l[i].name nameSet = true)) (hk1 : 1 ≤ l[i].kind) (hk2 : l[i].kind ≤ 5) (hi0 : decide (0 < i) = false) (hpar : l[i].parent.toList.isEmpty = true) :
    Calls Tryz.prog 31 #[.slice A n cap, .int .i64 i] w fun e w' => e = .returned (.nilIface) ∧ Below w.heap.size w w' := by
  have hn : l.length = n := ha.1
  have hi : i < n := by omega
  have Hn := hide hn
  clear hn
  obtain ⟨b, off, rfl, hcs⟩ := ha.at_ (by omega)
  obtain ⟨h0, h1, h2, h3, h4⟩ := hcs i hil
  have hbl : b < w.heap.size := World.block_lt_of_cell? _ _ h0
  have hble : b ≤ w.heap.size := by omega
  clear hcs
  go_enter Tryz.func31, Tryz.ntmps31
  go_wp2_with (first | (go_at_call 64; refine (digits_any _ _ _ hs1).mono ?_; rintro e w1 ⟨rfl, hb1⟩; have hS1 : w1.cell? ⟨w.heap.size, 1, none⟩ = some (.string l[i].name) := below_cell hb1 (by simp) (by simp); have hc1 := (bcell hb1).1; have hz1 : w.heap.size < w1.heap.size := (by have := hb1.size; simp at this; omega); have hbz1 : b < w1.heap.size := (by omega)) | (go_at_call 66; refine (upper_any _).mono ?_; rintro e w2 ⟨rfl, hb2⟩; have hc2 := (bcell hb2).1; have hz2 : w.heap.size < w2.heap.size := (by have := hb2.size; omega); have hbz2 : b < w2.heap.size := (by omega)) | (go_at_call 65; refine (trim_yes l[i].name _ _ hs2 (by decide) (by decide) H.out).mono ?_; rintro e w3 ⟨rfl, hb3⟩; have hc3 := (bcell hb3).1; have hz3 : w.heap.size < w3.heap.size := (by have := hb3.size; omega); have hbz3 : b < w3.heap.size := (by omega)))
  go_region_held3 (fun w' => w'.cell? ⟨w.heap.size, 1, none⟩ = some (.string l[i].name)) (first | exact hS1 | exact hS2 | exact hS3)
    (first | (go_at_call 66; refine (upper_any _).mono ?_; rintro e w2 ⟨rfl, hb2⟩; have hS2 : w2.cell? ⟨w.heap.size, 1, none⟩ = some (.string l[i].name) := below_cell hb2 (by simp; omega) hS1; have hz2 : w.heap.size < w2.heap.size := (by have := hb2.size; simp at this; omega)) | (go_at_call 65; refine (trim_yes l[i].name nameSet _ hs2 (by decide) (by decide) H.out).mono ?_; rintro e w3 ⟨rfl, hb3⟩; have hS3 : w3.cell? ⟨w.heap.size, 1, none⟩ = some (.string l[i].name) := below_cell hb3 (by omega) hS2))
  have hB := bthen (bthen hb1.drew (Nat.le_refl _) hb2) (Nat.le_refl _) hb3
  have hcB := (bcell hB).1
  have hzB : w.heap.size < w3.heap.size := by have := hB.size; simp at this; omega
  have hbB : b < w3.heap.size := by omega
  go_wp2_with fail
  go_quiet (fail)
  go_wp2_with fail
  go_ret
  exact ⟨rfl, bdrewN (bthen (bthen (bof_alloc hb1).drew (Nat.le_refl _) hb2) (Nat.le_refl _) hb3) _⟩

theorem acc_c9z (l : List Acc) (A : Option Addr) (n cap i : Nat) (w : World) (hl : n ≤ 9223372036854775807) (hcap : n ≤ cap) (ha : Accs w A n l) (hil : i < l.length)
    (hs1 : l[i].code.size ≤ 9223372036854775807) (hs2 : l[i].name.size ≤ 9223372036854775807) (hd : digitsB l[i].code 6 = true) (hn1 : l[i].name.toList.isEmpty = false) (hn2 : (l[i].name.size : Int) ≤ 24) (H : Hid (allIn l[i].name nameSet = true)) (hk1 : 1 ≤ l[i].kind) (hk2 : l[i].kind ≤ 5) (hi0 : decide (0 < i) = false) (hpar : l[i].parent.toList.isEmpty = false) (hk : idxI (l.take i) l[i].parent < 0) :
    Calls Tryz.prog 31 #[.slice A n cap, .int .i64 i] w fun e w' => e = .returned (.iface 49 (.int .i64 6)) ∧ Below w.heap.size w w' := by
  have hn : l.length = n := ha.1
  have hi : i < n := by omega
  have Hn := hide hn
  clear hn
  obtain ⟨b, off, rfl, hcs⟩ := ha.at_ (by omega)
  obtain ⟨h0, h1, h2, h3, h4⟩ := hcs i hil
  have hbl : b < w.heap.size := World.block_lt_of_cell? _ _ h0
  have hble : b ≤ w.heap.size := by omega
  clear hcs
  go_enter Tryz.func31, Tryz.ntmps31
  go_wp2_with (first | (go_at_call 64; refine (digits_any _ _ _ hs1).mono ?_; rintro e w1 ⟨rfl, hb1⟩; have hS1 : w1.cell? ⟨w.heap.size, 1, none⟩ = some (.string l[i].name) := below_cell hb1 (by simp) (by simp); have hc1 := (bcell hb1).1; have hz1 : w.heap.size < w1.heap.size := (by have := hb1.size; simp at this; omega); have hbz1 : b < w1.heap.size := (by omega)) | (go_at_call 66; refine (upper_any _).mono ?_; rintro e w2 ⟨rfl, hb2⟩; have hc2 := (bcell hb2).1; have hz2 : w.heap.size < w2.heap.size := (by have := hb2.size; omega); have hbz2 : b < w2.heap.size := (by omega)) | (go_at_call 65; refine (trim_yes l[i].name _ _ hs2 (by decide) (by decide) H.out).mono ?_; rintro e w3 ⟨rfl, hb3⟩; have hc3 := (bcell hb3).1; have hz3 : w.heap.size < w3.heap.size := (by have := hb3.size; omega); have hbz3 : b < w3.heap.size := (by omega)))
  go_region_held3 (fun w' => w'.cell? ⟨w.heap.size, 1, none⟩ = some (.string l[i].name)) (first | exact hS1 | exact hS2 | exact hS3)
    (first | (go_at_call 66; refine (upper_any _).mono ?_; rintro e w2 ⟨rfl, hb2⟩; have hS2 : w2.cell? ⟨w.heap.size, 1, none⟩ = some (.string l[i].name) := below_cell hb2 (by simp; omega) hS1; have hz2 : w.heap.size < w2.heap.size := (by have := hb2.size; simp at this; omega)) | (go_at_call 65; refine (trim_yes l[i].name nameSet _ hs2 (by decide) (by decide) H.out).mono ?_; rintro e w3 ⟨rfl, hb3⟩; have hS3 : w3.cell? ⟨w.heap.size, 1, none⟩ = some (.string l[i].name) := below_cell hb3 (by omega) hS2))
  have hB := bthen (bthen hb1.drew (Nat.le_refl _) hb2) (Nat.le_refl _) hb3
  have hcB := (bcell hB).1
  have hzB : w.heap.size < w3.heap.size := by have := hB.size; simp at this; omega
  have hbB : b < w3.heap.size := by omega
  go_wp2_with fail
  go_quiet (fail)
  go_wp2_with fail
  have hBw : Below w.heap.size w w3 := bthen (bthen (bof_alloc hb1).drew (Nat.le_refl _) hb2) (Nat.le_refl _) hb3
  have hP3 : w3.cell? ⟨w.heap.size, 3, none⟩ = some (.string l[i].parent) := below_cell hB (by simp) (by simp)
  have j0 : (0 : Int) ≤ (i : Int) := by omega
  have j1 : (i : Int) ≤ (cap : Int) := by omega
  go_region_held3 (fun w' => w'.cell? ⟨w.heap.size, 3, none⟩ = some (.string l[i].parent)) (first | exact hP3 | exact hP4)
    (first | (go_at_call 67; refine (index_any (l.take i) _ _ _ _ _ (by omega) (Rd.take (ha.below (by first | exact hBw | exact hBw.drew | exact bdrewN hBw _ | exact (bdrewN hBw _).drew)) (by omega))).mono ?_; rintro e w4 ⟨rfl, hb4⟩; have hP4 : w4.cell? ⟨w.heap.size, 3, none⟩ = some (.string l[i].parent) := below_cell hb4 (by simp; omega) hP3))
  go_wp2_with fail
  go_ret
  exact ⟨rfl, bthen (bdrewN (bthen (bthen (bof_alloc hb1).drew (Nat.le_refl _) hb2) (Nat.le_refl _) hb3) _) (Nat.le_refl _) hb4⟩

theorem acc_c10p (l : List Acc) (A : Option Addr) (n cap i : Nat) (w : World) (hl : n ≤ 9223372036854775807) (hcap : n ≤ cap) (ha : Accs w A n l) (hil : i < l.length)
    (hs1 : l[i].code.size ≤ 9223372036854775807) (hs2 : l[i].name.size ≤ 9223372036854775807) (hd : digitsB l[i].code 6 = true) (hn1 : l[i].name.toList.isEmpty = false) (hn2 : (l[i].name.size : Int) ≤ 24) (H : Hid (allIn l[i].name nameSet = true)) (hk1 : 1 ≤ l[i].kind) (hk2 : l[i].kind ≤ 5) (hi0 : 0 < i) (hlt : Op.bytesLess (l[i-1]'(by omega)).code.toList l[i].code.toList = true) (kk : Nat) (hkk : kk < i) (hpar : l[i].parent.toList.isEmpty = false) (HK : Hid (idxI (l.take i) l[i].parent = kk)) (hkd : (l[kk]'(by omega)).kind ≠ l[i].kind) :
    Calls Tryz.prog 31 #[.slice A n cap, .int .i64 i] w fun e w' => e = .returned (.iface 49 (.int .i64 12)) ∧ Below w.heap.size w w' := by
  have hn : l.length = n := ha.1
  have hi : i < n := by omega
  have Hn := hide hn
  clear hn
  obtain ⟨b, off, rfl, hcs⟩ := ha.at_ (by omega)
  obtain ⟨h0, h1, h2, h3, h4⟩ := hcs i hil
  have hbl : b < w.heap.size := World.block_lt_of_cell? _ _ h0
  have hble : b ≤ w.heap.size := by omega
  have hp := (hcs (i - 1) (by omega)).1
  have hq := (hcs kk (by omega)).2.2.1
  have hqi : (kk : Int) < (n : Int) := by omega
  have kd1 : ((l[kk]'(by omega)).kind == l[i].kind) = false := by simp [hkd]
  have kd2 : ((l[kk]'(by omega)).kind != l[i].kind) = true := by simp [hkd]
  clear hkd
  clear hcs
  go_enter Tryz.func31, Tryz.ntmps31
  go_wp2_with (first | (go_at_call 64; refine (digits_any _ _ _ hs1).mono ?_; rintro e w1 ⟨rfl, hb1⟩; have hS1 : w1.cell? ⟨w.heap.size, 1, none⟩ = some (.string l[i].name) := below_cell hb1 (by simp) (by simp); have hc1 := (bcell hb1).1; have hz1 : w.heap.size < w1.heap.size := (by have := hb1.size; simp at this; omega); have hbz1 : b < w1.heap.size := (by omega)) | (go_at_call 66; refine (upper_any _).mono ?_; rintro e w2 ⟨rfl, hb2⟩; have hc2 := (bcell hb2).1; have hz2 : w.heap.size < w2.heap.size := (by have := hb2.size; omega); have hbz2 : b < w2.heap.size := (by omega)) | (go_at_call 65; refine (trim_yes l[i].name _ _ hs2 (by decide) (by decide) H.out).mono ?_; rintro e w3 ⟨rfl, hb3⟩; have hc3 := (bcell hb3).1; have hz3 : w.heap.size < w3.heap.size := (by have := hb3.size; omega); have hbz3 : b < w3.heap.size := (by omega)))
  go_region_held3 (fun w' => w'.cell? ⟨w.heap.size, 1, none⟩ = some (.string l[i].name)) (first | exact hS1 | exact hS2 | exact hS3)
    (first | (go_at_call 66; refine (upper_any _).mono ?_; rintro e w2 ⟨rfl, hb2⟩; have hS2 : w2.cell? ⟨w.heap.size, 1, none⟩ = some (.string l[i].name) := below_cell hb2 (by simp; omega) hS1; have hz2 : w.heap.size < w2.heap.size := (by have := hb2.size; simp at this; omega)) | (go_at_call 65; refine (trim_yes l[i].name nameSet _ hs2 (by decide) (by decide) H.out).mono ?_; rintro e w3 ⟨rfl, hb3⟩; have hS3 : w3.cell? ⟨w.heap.size, 1, none⟩ = some (.string l[i].name) := below_cell hb3 (by omega) hS2))
  have hB := bthen (bthen hb1.drew (Nat.le_refl _) hb2) (Nat.le_refl _) hb3
  have hcB := (bcell hB).1
  have hzB : w.heap.size < w3.heap.size := by have := hB.size; simp at this; omega
  have hbB : b < w3.heap.size := by omega
  go_wp2_with fail
  have iw : IntKind.i64.wrap ((i : Int) - 1) = (i : Int) - 1 := IntWalk.i64_in _ (by omega)
  have i0 : 0 ≤ (i : Int) - 1 := by omega
  have i1 : 1 ≤ (i : Int) := by omega
  have it : ((i : Int) - 1).toNat = i - 1 := by omega
  have il : (i : Int) - 1 < (n : Int) := by omega
  go_quiet (fail)
  clear iw it
  go_wp2_with fail
  have hBw : Below w.heap.size w w3 := bthen (bthen (bof_alloc hb1).drew (Nat.le_refl _) hb2) (Nat.le_refl _) hb3
  have hP3 : w3.cell? ⟨w.heap.size, 3, none⟩ = some (.string l[i].parent) := below_cell hB (by simp) (by simp)
  have j0 : (0 : Int) ≤ (i : Int) := by omega
  have j1 : (i : Int) ≤ (cap : Int) := by omega
  go_region_held3 (fun w' => w'.cell? ⟨w.heap.size, 3, none⟩ = some (.string l[i].parent)) (first | exact hP3 | exact hP4)
    (first | (go_at_call 67; refine (index_at (l.take i) _ kk _ _ _ _ (by omega) (Rd.take (ha.below (by first | exact hBw | exact hBw.drew | exact bdrewN hBw _ | exact (bdrewN hBw _).drew)) (by omega)) HK.out).mono ?_; rintro e w4 ⟨rfl, hb4⟩; have hP4 : w4.cell? ⟨w.heap.size, 3, none⟩ = some (.string l[i].parent) := below_cell hb4 (by simp; omega) hP3))
  have hB4 := bthen (bdrewN hB _) (Nat.le_refl _) hb4
  have hc4 := (bcell hB4).1
  have hz4 : w.heap.size < w4.heap.size := by have := hB4.size; simp at this; omega
  have hb4l : b < w4.heap.size := by omega
  clear hcB
  go_wp2_with fail
  have hq0 : 0 ≤ (kk : Int) := by omega
  go_quiet (fail)
  go_wp2_with fail
  go_ret
  exact ⟨rfl, bdrewN (bof_alloc hB4) _⟩

theorem acc_c11p (l : List Acc) (A : Option Addr) (n cap i : Nat) (w : World) (hl : n ≤ 9223372036854775807) (hcap : n ≤ cap) (ha : Accs w A n l) (hil : i < l.length)
    (hs1 : l[i].code.size ≤ 9223372036854775807) (hs2 : l[i].name.size ≤ 9223372036854775807) (hd : digitsB l[i].code 6 = true) (hn1 : l[i].name.toList.isEmpty = false) (hn2 : (l[i].name.size : Int) ≤ 24) (H : Hid (allIn l[i].name nameSet = true)) (hk1 : 1 ≤ l[i].kind) (hk2 : l[i].kind ≤ 5) (hi0 : 0 < i) (hlt : Op.bytesLess (l[i-1]'(by omega)).code.toList l[i].code.toList = true) (kk : Nat) (hkk : kk < i) (hpar : l[i].parent.toList.isEmpty = false) (HK : Hid (idxI (l.take i) l[i].parent = kk)) (hkd : (l[kk]'(by omega)).kind = l[i].kind) :
    Calls Tryz.prog 31 #[.slice A n cap, .int .i64 i] w fun e w' => e = .returned (.nilIface) ∧ Below w.heap.size w w' := by
  have hn : l.length = n := ha.1
  have hi : i < n := by omega
  have Hn := hide hn
  clear hn
  obtain ⟨b, off, rfl, hcs⟩ := ha.at_ (by omega)
  obtain ⟨h0, h1, h2, h3, h4⟩ := hcs i hil
  have hbl : b < w.heap.size := World.block_lt_of_cell? _ _ h0
  have hble : b ≤ w.heap.size := by omega
  have hp := (hcs (i - 1) (by omega)).1
  have hq := (hcs kk (by omega)).2.2.1
  have hqi : (kk : Int) < (n : Int) := by omega
  have kd1 : ((l[kk]'(by omega)).kind == l[i].kind) = true := by simp [hkd]
  have kd2 : ((l[kk]'(by omega)).kind != l[i].kind) = false := by simp [hkd]
  clear hkd
  clear hcs
  go_enter Tryz.func31, Tryz.ntmps31
  go_wp2_with (first | (go_at_call 64; refine (digits_any _ _ _ hs1).mono ?_; rintro e w1 ⟨rfl, hb1⟩; have hS1 : w1.cell? ⟨w.heap.size, 1, none⟩ = some (.string l[i].name) := below_cell hb1 (by simp) (by simp); have hc1 := (bcell hb1).1; have hz1 : w.heap.size < w1.heap.size := (by have := hb1.size; simp at this; omega); have hbz1 : b < w1.heap.size := (by omega)) | (go_at_call 66; refine (upper_any _).mono ?_; rintro e w2 ⟨rfl, hb2⟩; have hc2 := (bcell hb2).1; have hz2 : w.heap.size < w2.heap.size := (by have := hb2.size; omega); have hbz2 : b < w2.heap.size := (by omega)) | (go_at_call 65; refine (trim_yes l[i].name _ _ hs2 (by decide) (by decide) H.out).mono ?_; rintro e w3 ⟨rfl, hb3⟩; have hc3 := (bcell hb3).1; have hz3 : w.heap.size < w3.heap.size := (by have := hb3.size; omega); have hbz3 : b < w3.heap.size := (by omega)))
  go_region_held3 (fun w' => w'.cell? ⟨w.heap.size, 1, none⟩ = some (.string l[i].name)) (first | exact hS1 | exact hS2 | exact hS3)
    (first | (go_at_call 66; refine (upper_any _).mono ?_; rintro e w2 ⟨rfl, hb2⟩; have hS2 : w2.cell? ⟨w.heap.size, 1, none⟩ = some (.string l[i].name) := below_cell hb2 (by simp; omega) hS1; have hz2 : w.heap.size < w2.heap.size := (by have := hb2.size; simp at this; omega)) | (go_at_call 65; refine (trim_yes l[i].name nameSet _ hs2 (by decide) (by decide) H.out).mono ?_; rintro e w3 ⟨rfl, hb3⟩; have hS3 : w3.cell? ⟨w.heap.size, 1, none⟩ = some (.string l[i].name) := below_cell hb3 (by omega) hS2))
  have hB := bthen (bthen hb1.drew (Nat.le_refl _) hb2) (Nat.le_refl _) hb3
  have hcB := (bcell hB).1
  have hzB : w.heap.size < w3.heap.size := by have := hB.size; simp at this; omega
  have hbB : b < w3.heap.size := by omega
  go_wp2_with fail
  have iw : IntKind.i64.wrap ((i : Int) - 1) = (i : Int) - 1 := IntWalk.i64_in _ (by omega)
  have i0 : 0 ≤ (i : Int) - 1 := by omega
  have i1 : 1 ≤ (i : Int) := by omega
  have it : ((i : Int) - 1).toNat = i - 1 := by omega
  have il : (i : Int) - 1 < (n : Int) := by omega
  go_quiet (fail)
  clear iw it
  go_wp2_with fail
  have hBw : Below w.heap.size w w3 := bthen (bthen (bof_alloc hb1).drew (Nat.le_refl _) hb2) (Nat.le_refl _) hb3
  have hP3 : w3.cell? ⟨w.heap.size, 3, none⟩ = some (.string l[i].parent) := below_cell hB (by simp) (by simp)
  have j0 : (0 : Int) ≤ (i : Int) := by omega
  have j1 : (i : Int) ≤ (cap : Int) := by omega
  go_region_held3 (fun w' => w'.cell? ⟨w.heap.size, 3, none⟩ = some (.string l[i].parent)) (first | exact hP3 | exact hP4)
    (first | (go_at_call 67; refine (index_at (l.take i) _ kk _ _ _ _ (by omega) (Rd.take (ha.below (by first | exact hBw | exact hBw.drew | exact bdrewN hBw _ | exact (bdrewN hBw _).drew)) (by omega)) HK.out).mono ?_; rintro e w4 ⟨rfl, hb4⟩; have hP4 : w4.cell? ⟨w.heap.size, 3, none⟩ = some (.string l[i].parent) := below_cell hb4 (by simp; omega) hP3))
  have hB4 := bthen (bdrewN hB _) (Nat.le_refl _) hb4
  have hc4 := (bcell hB4).1
  have hz4 : w.heap.size < w4.heap.size := by have := hB4.size; simp at this; omega
  have hb4l : b < w4.heap.size := by omega
  clear hcB
  go_wp2_with fail
  have hq0 : 0 ≤ (kk : Int) := by omega
  go_quiet (fail)
  go_wp2_with fail
  go_ret
  exact ⟨rfl, bdrewN (bof_alloc hB4) _⟩

theorem acc_c10z (l : List Acc) (A : Option Addr) (n cap i : Nat) (w : World) (hl : n ≤ 9223372036854775807) (hcap : n ≤ cap) (ha : Accs w A n l) (hil : i < l.length)
    (hs1 : l[i].code.size ≤ 9223372036854775807) (hs2 : l[i].name.size ≤ 9223372036854775807) (hd : digitsB l[i].code 6 = true) (hn1 : l[i].name.toList.isEmpty = false) (hn2 : (l[i].name.size : Int) ≤ 24) (H : Hid (allIn l[i].name nameSet = true)) (hk1 : 1 ≤ l[i].kind) (hk2 : l[i].kind ≤ 5) (hi0 : decide (0 < i) = false) (kk : Nat) (hkk : kk < i) (hpar : l[i].parent.toList.isEmpty = false) (HK : Hid (idxI (l.take i) l[i].parent = kk)) (hkd : (l[kk]'(by omega)).kind ≠ l[i].kind) :
    Calls Tryz.prog 31 #[.slice A n cap, .int .i64 i] w fun e w' => e = .returned (.iface 49 (.int .i64 12)) ∧ Below w.heap.size w w' := by
  have hn : l.length = n := ha.1
  have hi : i < n := by omega
  have Hn := hide hn
  clear hn
  obtain ⟨b, off, rfl, hcs⟩ := ha.at_ (by omega)
  obtain ⟨h0, h1, h2, h3, h4⟩ := hcs i hil
  have hbl : b < w.heap.size := World.block_lt_of_cell? _ _ h0
  have hble : b ≤ w.heap.size := by omega
  have hq := (hcs kk (by omega)).2.2.1
  have hqi : (kk : Int) < (n : Int) := by omega
  have kd1 : ((l[kk]'(by omega)).kind == l[i].kind) = false := by simp [hkd]
  have kd2 : ((l[kk]'(by omega)).kind != l[i].kind) = true := by simp [hkd]
  clear hkd
  clear hcs
  go_enter Tryz.func31, Tryz.ntmps31
  go_wp2_with (first | (go_at_call 64; refine (digits_any _ _ _ hs1).mono ?_; rintro e w1 ⟨rfl, hb1⟩; have hS1 : w1.cell? ⟨w.heap.size, 1, none⟩ = some (.string l[i].name) := below_cell hb1 (by simp) (by simp); have hc1 := (bcell hb1).1; have hz1 : w.heap.size < w1.heap.size := (by have := hb1.size; simp at this; omega); have hbz1 : b < w1.heap.size := (by omega)) | (go_at_call 66; refine (upper_any _).mono ?_; rintro e w2 ⟨rfl, hb2⟩; have hc2 := (bcell hb2).1; have hz2 : w.heap.size < w2.heap.size := (by have := hb2.size; omega); have hbz2 : b < w2.heap.size := (by omega)) | (go_at_call 65; refine (trim_yes l[i].name _ _ hs2 (by decide) (by decide) H.out).mono ?_; rintro e w3 ⟨rfl, hb3⟩; have hc3 := (bcell hb3).1; have hz3 : w.heap.size < w3.heap.size := (by have := hb3.size; omega); have hbz3 : b < w3.heap.size := (by omega)))
  go_region_held3 (fun w' => w'.cell? ⟨w.heap.size, 1, none⟩ = some (.string l[i].name)) (first | exact hS1 | exact hS2 | exact hS3)
    (first | (go_at_call 66; refine (upper_any _).mono ?_; rintro e w2 ⟨rfl, hb2⟩; have hS2 : w2.cell? ⟨w.heap.size, 1, none⟩ = some (.string l[i].name) := below_cell hb2 (by simp; omega) hS1; have hz2 : w.heap.size < w2.heap.size := (by have := hb2.size; simp at this; omega)) | (go_at_call 65; refine (trim_yes l[i].name nameSet _ hs2 (by decide) (by decide) H.out).mono ?_; rintro e w3 ⟨rfl, hb3⟩; have hS3 : w3.cell? ⟨w.heap.size, 1, none⟩ = some (.string l[i].name) := below_cell hb3 (by omega) hS2))
  have hB := bthen (bthen hb1.drew (Nat.le_refl _) hb2) (Nat.le_refl _) hb3
  have hcB := (bcell hB).1
  have hzB : w.heap.size < w3.heap.size := by have := hB.size; simp at this; omega
  have hbB : b < w3.heap.size := by omega
  go_wp2_with fail
  go_quiet (fail)
  go_wp2_with fail
  have hBw : Below w.heap.size w w3 := bthen (bthen (bof_alloc hb1).drew (Nat.le_refl _) hb2) (Nat.le_refl _) hb3
  have hP3 : w3.cell? ⟨w.heap.size, 3, none⟩ = some (.string l[i].parent) := below_cell hB (by simp) (by simp)
  have j0 : (0 : Int) ≤ (i : Int) := by omega
  have j1 : (i : Int) ≤ (cap : Int) := by omega
  go_region_held3 (fun w' => w'.cell? ⟨w.heap.size, 3, none⟩ = some (.string l[i].parent)) (first | exact hP3 | exact hP4)
    (first | (go_at_call 67; refine (index_at (l.take i) _ kk _ _ _ _ (by omega) (Rd.take (ha.below (by first | exact hBw | exact hBw.drew | exact bdrewN hBw _ | exact (bdrewN hBw _).drew)) (by omega)) HK.out).mono ?_; rintro e w4 ⟨rfl, hb4⟩; have hP4 : w4.cell? ⟨w.heap.size, 3, none⟩ = some (.string l[i].parent) := below_cell hb4 (by simp; omega) hP3))
  have hB4 := bthen (bdrewN hB _) (Nat.le_refl _) hb4
  have hc4 := (bcell hB4).1
  have hz4 : w.heap.size < w4.heap.size := by have := hB4.size; simp at this; omega
  have hb4l : b < w4.heap.size := by omega
  clear hcB
  go_wp2_with fail
  have hq0 : 0 ≤ (kk : Int) := by omega
  go_quiet (fail)
  go_wp2_with fail
  go_ret
  exact ⟨rfl, bdrewN (bof_alloc hB4) _⟩

theorem acc_c11z (l : List Acc) (A : Option Addr) (n cap i : Nat) (w : World) (hl : n ≤ 9223372036854775807) (hcap : n ≤ cap) (ha : Accs w A n l) (hil : i < l.length)
    (hs1 : l[i].code.size ≤ 9223372036854775807) (hs2 : l[i].name.size ≤ 9223372036854775807) (hd : digitsB l[i].code 6 = true) (hn1 : l[i].name.toList.isEmpty = false) (hn2 : (l[i].name.size : Int) ≤ 24) (H : Hid (allIn l[i].name nameSet = true)) (hk1 : 1 ≤ l[i].kind) (hk2 : l[i].kind ≤ 5) (hi0 : decide (0 < i) = false) (kk : Nat) (hkk : kk < i) (hpar : l[i].parent.toList.isEmpty = false) (HK : Hid (idxI (l.take i) l[i].parent = kk)) (hkd : (l[kk]'(by omega)).kind = l[i].kind) :
    Calls Tryz.prog 31 #[.slice A n cap, .int .i64 i] w fun e w' => e = .returned (.nilIface) ∧ Below w.heap.size w w' := by
  have hn : l.length = n := ha.1
  have hi : i < n := by omega
  have Hn := hide hn
  clear hn
  obtain ⟨b, off, rfl, hcs⟩ := ha.at_ (by omega)
  obtain ⟨h0, h1, h2, h3, h4⟩ := hcs i hil
  have hbl : b < w.heap.size := World.block_lt_of_cell? _ _ h0
  have hble : b ≤ w.heap.size := by omega
  have hq := (hcs kk (by omega)).2.2.1
  have hqi : (kk : Int) < (n : Int) := by omega
  have kd1 : ((l[kk]'(by omega)).kind == l[i].kind) = true := by simp [hkd]
  have kd2 : ((l[kk]'(by omega)).kind != l[i].kind) = false := by simp [hkd]
  clear hkd
  clear hcs
  go_enter Tryz.func31, Tryz.ntmps31
  go_wp2_with (first | (go_at_call 64; refine (digits_any _ _ _ hs1).mono ?_; rintro e w1 ⟨rfl, hb1⟩; have hS1 : w1.cell? ⟨w.heap.size, 1, none⟩ = some (.string l[i].name) := below_cell hb1 (by simp) (by simp); have hc1 := (bcell hb1).1; have hz1 : w.heap.size < w1.heap.size := (by have := hb1.size; simp at this; omega); have hbz1 : b < w1.heap.size := (by omega)) | (go_at_call 66; refine (upper_any _).mono ?_; rintro e w2 ⟨rfl, hb2⟩; have hc2 := (bcell hb2).1; have hz2 : w.heap.size < w2.heap.size := (by have := hb2.size; omega); have hbz2 : b < w2.heap.size := (by omega)) | (go_at_call 65; refine (trim_yes l[i].name _ _ hs2 (by decide) (by decide) H.out).mono ?_; rintro e w3 ⟨rfl, hb3⟩; have hc3 := (bcell hb3).1; have hz3 : w.heap.size < w3.heap.size := (by have := hb3.size; omega); have hbz3 : b < w3.heap.size := (by omega)))
  go_region_held3 (fun w' => w'.cell? ⟨w.heap.size, 1, none⟩ = some (.string l[i].name)) (first | exact hS1 | exact hS2 | exact hS3)
    (first | (go_at_call 66; refine (upper_any _).mono ?_; rintro e w2 ⟨rfl, hb2⟩; have hS2 : w2.cell? ⟨w.heap.size, 1, none⟩ = some (.string l[i].name) := below_cell hb2 (by simp; omega) hS1; have hz2 : w.heap.size < w2.heap.size := (by have := hb2.size; simp at this; omega)) | (go_at_call 65; refine (trim_yes l[i].name nameSet _ hs2 (by decide) (by decide) H.out).mono ?_; rintro e w3 ⟨rfl, hb3⟩; have hS3 : w3.cell? ⟨w.heap.size, 1, none⟩ = some (.string l[i].name) := below_cell hb3 (by omega) hS2))
  have hB := bthen (bthen hb1.drew (Nat.le_refl _) hb2) (Nat.le_refl _) hb3
  have hcB := (bcell hB).1
  have hzB : w.heap.size < w3.heap.size := by have := hB.size; simp at this; omega
  have hbB : b < w3.heap.size := by omega
  go_wp2_with fail
  go_quiet (fail)
  go_wp2_with fail
  have hBw : Below w.heap.size w w3 := bthen (bthen (bof_alloc hb1).drew (Nat.le_refl _) hb2) (Nat.le_refl _) hb3
  have hP3 : w3.cell? ⟨w.heap.size, 3, none⟩ = some (.string l[i].parent) := below_cell hB (by simp) (by simp)
  have j0 : (0 : Int) ≤ (i : Int) := by omega
  have j1 : (i : Int) ≤ (cap : Int) := by omega
  go_region_held3 (fun w' => w'.cell? ⟨w.heap.size, 3, none⟩ = some (.string l[i].parent)) (first | exact hP3 | exact hP4)
    (first | (go_at_call 67; refine (index_at (l.take i) _ kk _ _ _ _ (by omega) (Rd.take (ha.below (by first | exact hBw | exact hBw.drew | exact bdrewN hBw _ | exact (bdrewN hBw _).drew)) (by omega)) HK.out).mono ?_; rintro e w4 ⟨rfl, hb4⟩; have hP4 : w4.cell? ⟨w.heap.size, 3, none⟩ = some (.string l[i].parent) := below_cell hb4 (by simp; omega) hP3))
  have hB4 := bthen (bdrewN hB _) (Nat.le_refl _) hb4
  have hc4 := (bcell hB4).1
  have hz4 : w.heap.size < w4.heap.size := by have := hB4.size; simp at this; omega
  have hb4l : b < w4.heap.size := by omega
  clear hcB
  go_wp2_with fail
  have hq0 : 0 ≤ (kk : Int) := by omega
  go_quiet (fail)
  go_wp2_with fail
  go_ret
  exact ⟨rfl, bdrewN (bof_alloc hB4) _⟩

end Go.Proofs.YtjojjicpdfmopaaGreatDoor

namespace Go.Proofs.YtjojjicpdfmopaaGreatDoor
open Go Go.RowKit
set_option linter.unusedVariables false

/-- Each text and number of accounts fits. -/
def AccOk (l : List Acc) : Prop := ∀ (i : Nat) (h : i < l.length), l[i].code.size ≤ 9223372036854775807 ∧ l[i].name.size ≤ 9223372036854775807

def nameB (s : ByteArray) : Bool := !s.toList.isEmpty && decide ((s.size : Int) ≤ 24) && allIn s nameSet

/-- Does account a stand behind the last of f? -/
def ordOk (f : List Acc) (a : Acc) : Bool := match f.getLast? with | some p => Op.bytesLess p.code.toList a.code.toList | none => true
/-- What is wrong with account a behind the accounts f. -/
def accF (f : List Acc) (a : Acc) : Int :=
  if digitsB a.code 6 = false then 2 else
  if nameB a.name = false then 2 else
  if a.kind < 1 then 1 else
  if 5 < a.kind then 1 else
  if ordOk f a = false then 5 else
  if a.parent.toList.isEmpty = true then 0 else
  match idxO f a.parent with
  | none => 6
  | some k => if (f[k]?.map (·.kind)) = some a.kind then 0 else 12
def accE (l : List Acc) (i : Nat) : Int := match l[i]? with | some a => accF (l.take i) a | none => 0

theorem accE_at {l : List Acc} {i : Nat} (h : i < l.length) : accE l i = accF (l.take i) l[i] := by simp [accE, h]

theorem idxO_lt {l : List Acc} {c : ByteArray} {k : Nat} (h : idxO l c = some k) : k < l.length := by
  unfold idxO at h
  exact (List.findIdx?_eq_some_iff_getElem.1 h).1

theorem take_last {l : List Acc} {i : Nat} (h0 : 0 < i) (h : i < l.length) : (l.take i).getLast? = some (l[i-1]'(by omega)) := by
  rw [List.getLast?_eq_getElem?, List.getElem?_take, List.length_take]
  rw [if_pos (by omega), show min i l.length - 1 = i - 1 from by omega, List.getElem?_eq_getElem]

theorem account_any (l : List Acc) (A : Option Addr) (n cap i : Nat) (w : World) (hl : n ≤ 9223372036854775807) (hcap : n ≤ cap) (ha : Accs w A n l) (hok : AccOk l) (hil : i < l.length) :
    Calls Tryz.prog 31 #[.slice A n cap, .int .i64 i] w fun e w' => e = .returned (errV (accE l i)) ∧ Below w.heap.size w w' := by
  obtain ⟨hs1, hs2⟩ := hok i hil
  rw [accE_at hil]
  unfold accF
  cases h1 : digitsB l[i].code 6 with
  | false => exact acc_c1 l A n cap i w hl hcap ha hil hs1 hs2 h1
  | true =>
    rw [if_neg (by simp)]
    cases h2 : l[i].name.toList.isEmpty with
    | true =>
      rw [if_pos (by simp [nameB, h2])]
      exact acc_c2 l A n cap i w hl hcap ha hil hs1 hs2 h1 h2
    | false =>
      by_cases h3 : (l[i].name.size : Int) ≤ 24
      · cases h4 : allIn l[i].name nameSet with
        | false =>
          rw [if_pos (by simp [nameB, h4])]
          exact acc_c4 l A n cap i w hl hcap ha hil hs1 hs2 h1 h2 h3 (hide h4)
        | true =>
          rw [if_neg (by simp [nameB, h2, h3, h4])]
          by_cases h5 : l[i].kind < 1
          · rw [if_pos h5]
            exact acc_c5 l A n cap i w hl hcap ha hil hs1 hs2 h1 h2 h3 (hide h4) h5
          · rw [if_neg h5]
            by_cases h6 : 5 < l[i].kind
            · rw [if_pos h6]
              exact acc_c6 l A n cap i w hl hcap ha hil hs1 hs2 h1 h2 h3 (hide h4) (by omega) h6
            · rw [if_neg h6]
              by_cases hi0 : 0 < i
              · have ho : ordOk (l.take i) l[i] = Op.bytesLess (l[i-1]'(by omega)).code.toList l[i].code.toList := by unfold ordOk; rw [take_last hi0 hil]
                rw [ho]
                cases h7 : Op.bytesLess (l[i-1]'(by omega)).code.toList l[i].code.toList with
                | false =>
                  rw [if_pos rfl]
                  exact acc_c7 l A n cap i w hl hcap ha hil hs1 hs2 h1 h2 h3 (hide h4) (by omega) (by omega) hi0 h7
                | true =>
                  rw [if_neg (by simp)]
                  cases h8 : l[i].parent.toList.isEmpty with
                  | true =>
                    rw [if_pos rfl]
                    exact acc_c8p l A n cap i w hl hcap ha hil hs1 hs2 h1 h2 h3 (hide h4) (by omega) (by omega) hi0 h7 h8
                  | false =>
                    rw [if_neg (by simp)]
                    cases h9 : idxO (l.take i) l[i].parent with
                    | none => exact acc_c9p l A n cap i w hl hcap ha hil hs1 hs2 h1 h2 h3 (hide h4) (by omega) (by omega) hi0 h7 h8 (by simp [idxI, h9])
                    | some k =>
                      have hk := idxO_lt h9
                      rw [List.length_take] at hk
                      have hki : k < i := by omega
                      have hkk : (l.take i)[k]? = some (l[k]'(by omega)) := by rw [List.getElem?_take, if_pos hki, List.getElem?_eq_getElem]
                      simp only [hkk, Option.map_some, Option.some.injEq]
                      by_cases h10 : (l[k]'(by omega)).kind = l[i].kind
                      · rw [if_pos h10]
                        exact acc_c11p l A n cap i w hl hcap ha hil hs1 hs2 h1 h2 h3 (hide h4) (by omega) (by omega) hi0 h7 k hki h8 (hide (by simp [idxI, h9])) h10
                      · rw [if_neg h10]
                        exact acc_c10p l A n cap i w hl hcap ha hil hs1 hs2 h1 h2 h3 (hide h4) (by omega) (by omega) hi0 h7 k hki h8 (hide (by simp [idxI, h9])) h10
              · have hz : decide (0 < i) = false := by simpa using hi0
                have hi : i = 0 := by omega
                have ho : ordOk (l.take i) l[i] = true := by unfold ordOk; rw [show (l.take i).getLast? = none from by rw [hi]; rfl]
                rw [ho, if_neg (by simp)]
                cases h8 : l[i].parent.toList.isEmpty with
                | true =>
                  rw [if_pos rfl]
                  exact acc_c8z l A n cap i w hl hcap ha hil hs1 hs2 h1 h2 h3 (hide h4) (by omega) (by omega) hz h8
                | false =>
                  rw [if_neg (by simp)]
                  cases h9 : idxO (l.take i) l[i].parent with
                  | none => exact acc_c9z l A n cap i w hl hcap ha hil hs1 hs2 h1 h2 h3 (hide h4) (by omega) (by omega) hz h8 (by simp [idxI, h9])
                  | some k =>
                    have hk := idxO_lt h9
                    rw [List.length_take] at hk
                    omega
      · rw [if_pos (by simp [nameB, h3])]
        exact acc_c3 l A n cap i w hl hcap ha hil hs1 hs2 h1 h2 (by omega)

/-- no account ahead of k is wrong -/
def OkTo (l : List Acc) (k : Nat) : Prop := ∀ j, j < k → accE l j = 0
/-- What is wrong with the accounts from i on, n of them. -/
def scanE (l : List Acc) : Nat → Nat → Int
  | _, 0 => 0
  | i, n + 1 => if accE l i = 0 then scanE l (i + 1) n else accE l i
def chartE (l : List Acc) : Int := if 60 < l.length then 4 else scanE l 0 l.length

theorem scanE_hit {l : List Acc} {k : Nat} (h : OkTo l k) (he : accE l k ≠ 0) : ∀ n i, i ≤ k → k < i + n → scanE l i n = accE l k := by
  intro n
  induction n with
  | zero => intro i h1 h2; omega
  | succ n ih =>
    intro i h1 h2
    unfold scanE
    by_cases e : i = k
    · subst e; rw [if_neg he]
    · rw [if_pos (h i (by omega))]
      exact ih (i + 1) (by omega) (by omega)
theorem scanE_none {l : List Acc} {m : Nat} (h : OkTo l m) : ∀ n i, i + n ≤ m → scanE l i n = 0 := by
  intro n
  induction n with
  | zero => intro i _; rfl
  | succ n ih =>
    intro i h1
    unfold scanE
    rw [if_pos (h i (by omega))]
    exact ih (i + 1) (by omega)
end Go.Proofs.YtjojjicpdfmopaaGreatDoor
