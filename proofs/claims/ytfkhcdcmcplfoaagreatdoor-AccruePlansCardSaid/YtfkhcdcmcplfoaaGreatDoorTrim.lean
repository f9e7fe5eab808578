/- strings.Trim at an ASCII cutset: what it returns. -/
import Derived.Test.YtfkhcdcmcplfoaaGreatDoorMem
import Derived.Test.YtfkhcdcmcplfoaaGreatDoorShelf
import Derived.Outline
namespace Go.Proofs.YtfkhcdcmcplfoaaGreatDoor
open Go Go.RowKit

/-- every byte of s is one of cs -/
def allIn (s cs : ByteArray) : Bool := s.data.toList.all (cs.data.toList.contains ·)

theorem dropWhile_all {α : Type} (p : α → Bool) (l : List α) : l.dropWhile p = [] ↔ l.all p = true := by
  induction l with
  | nil => simp
  | cons a l ih => by_cases h : p a = true <;> simp [h, ih]
theorem trimS_nil (l cs : List UInt8) : Lib.trimS l cs = [] ↔ l.all (cs.contains ·) = true := by
  have hs : l.reverse.all (cs.contains ·) = l.all (cs.contains ·) := by simp
  have hd : l.reverse.all (cs.contains ·) = ((l.reverse.takeWhile (cs.contains ·)).all (cs.contains ·) && (l.reverse.dropWhile (cs.contains ·)).all (cs.contains ·)) := by
    rw [← List.all_append, List.takeWhile_append_dropWhile]
  have ht : (l.reverse.takeWhile (cs.contains ·)).all (cs.contains ·) = true := List.all_takeWhile
  unfold Lib.trimS Lib.trimLeftS Lib.trimRightS
  rw [dropWhile_all, ← hs, hd, ht, List.all_reverse, Bool.true_and]

theorem trim_yes (s cs : ByteArray) (w : World) (hs : s.size ≤ 9223372036854775807) (hcs : cs.size < 4294967281) (hascii : cs.data.toList.all (fun b => decide (b.toNat < 128)) = true) (h : allIn s cs = true) :
    Calls Tryz.prog 37 #[.string s, .string cs] w fun e w' => e = .returned (.string ⟨#[]⟩) ∧ Below w.heap.size w w' :=
  (Any.strings_Trim_laid Tryz.lays160 (by kernel_rfl) s cs w hs hcs (ascii_of_all hascii)).mono fun e w' ⟨he, hb⟩ => ⟨by rw [he, (trimS_nil _ _).2 h], hb⟩
theorem trim_no (s cs : ByteArray) (w : World) (hs : s.size ≤ 9223372036854775807) (hcs : cs.size < 4294967281) (hascii : cs.data.toList.all (fun b => decide (b.toNat < 128)) = true) (h : allIn s cs = false) :
    Calls Tryz.prog 37 #[.string s, .string cs] w fun e w' => (∃ t : ByteArray, e = .returned (.string t) ∧ t.toList.isEmpty = false) ∧ Below w.heap.size w w' :=
  (Any.strings_Trim_laid Tryz.lays160 (by kernel_rfl) s cs w hs hcs (ascii_of_all hascii)).mono fun e w' ⟨he, hb⟩ => ⟨⟨_, he, by
    rw [ByteArray.toList_eq]
    have hne : Lib.trimS s.data.toList cs.data.toList ≠ [] := fun h0 => by
      have := (trimS_nil _ _).1 h0
      rw [allIn] at h
      rw [this] at h; cases h
    simpa using hne⟩, hb⟩

def decs : ByteArray := ⟨#[48, 49, 50, 51, 52, 53, 54, 55, 56, 57]⟩
/-- a text of one to most digits -/
def digitsB (s : ByteArray) (most : Int) : Bool := !s.toList.isEmpty && decide ((s.size : Int) ≤ most) && allIn s decs

theorem digits_any (s : ByteArray) (most : Int) (w : World) (hs : s.size ≤ 9223372036854775807) :
    Calls Tryz.prog 60 #[.string s, .int .i64 most] w fun e w' => e = .returned (.bool (digitsB s most)) ∧ Below w.heap.size w w' := by
  by_cases h0 : s.toList.isEmpty = true
  · have hf : digitsB s most = false := by simp [digitsB, h0]
    rw [hf]; clear hf
    go_enter Tryz.func60, Tryz.ntmps60
    go_wp2_with fail
    go_ret
    exact ⟨rfl, Below.refl _ _⟩
  · have h0' : s.toList.isEmpty = false := by simpa using h0
    clear h0
    by_cases h1 : (s.size : Int) ≤ most
    · cases h2 : allIn s decs with
      | true =>
        have hf : digitsB s most = true := by simp [digitsB, h0', h1, h2]
        rw [hf]; clear hf
        have H2 := hide h2
        clear h2
        go_enter Tryz.func60, Tryz.ntmps60
        go_wp2_with (go_at_call 37; refine (trim_yes s _ _ hs (by decide) (by decide) H2.out).mono ?_; rintro e w1 ⟨rfl, hb1⟩)
        go_ret
        exact ⟨rfl, hb1⟩
      | false =>
        have hf : digitsB s most = false := by simp [digitsB, h0', h1, h2]
        rw [hf]; clear hf
        have H2 := hide h2
        clear h2
        go_enter Tryz.func60, Tryz.ntmps60
        go_wp2_with (go_at_call 37; refine (trim_no s _ _ hs (by decide) (by decide) H2.out).mono ?_; rintro e w1 ⟨⟨t, rfl, ht⟩, hb1⟩)
        go_ret
        exact ⟨rfl, hb1⟩
    · have h1' : most < (s.size : Int) := by omega
      have hf : digitsB s most = false := by simp [digitsB, h1]
      rw [hf]; clear hf h1
      go_enter Tryz.func60, Tryz.ntmps60
      go_wp2_with fail
      go_ret
      exact ⟨rfl, Below.refl _ _⟩
end Go.Proofs.YtfkhcdcmcplfoaaGreatDoor
