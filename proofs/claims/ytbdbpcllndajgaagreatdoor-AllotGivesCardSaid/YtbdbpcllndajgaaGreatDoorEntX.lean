/- slices.Clone over lines; entry.grouped: what is alike together, in order. -/
import Derived.Test.YtbdbpcllndajgaaGreatDoorSortA
import Derived.Maps.AppendAt
import Derived.WalkSpells
import Derived.Test.YtbdbpcllndajgaaGreatDoorLine
import Derived.Test.YtbdbpcllndajgaaGreatDoorChartX
namespace Go.Proofs.YtbdbpcllndajgaaGreatDoor
open Go Go.RowKit
set_option linter.unusedVariables false

def zeroLine : Value := .agg #[.string ⟨#[]⟩, .string ⟨#[]⟩, .int .i64 0]
theorem line_info : (Tryz.prog.info? 59).map (fun i => (i.zero, i.size, i.bytes)) = some (some zeroLine, 3, 40) := by kernel_rfl

theorem Own.empty (w : World) (B e sz : Nat) {α : Type} (enc : α → List Value) (hB : B ≤ w.heap.size) : Own (w.alloc (.cells #[] e)) B e sz enc (.slice (some ⟨w.heap.size, 0, none⟩) 0 0) ([] : List α) := by
  refine ⟨by simp, .inr ⟨w.heap.size, 0, #[], rfl, hB, by rw [heap_alloc_new], by simp, by unfold maxLen; omega, by simp, by simp⟩⟩

end Go.Proofs.YtbdbpcllndajgaaGreatDoor

namespace Go.Proofs.YtbdbpcllndajgaaGreatDoor
open Go Go.RowKit
set_option linter.unusedVariables false

section
variable {α : Type} {w : World} {B e sz : Nat} {enc : α → List Value} {l : List α}
theorem flatMap_set (he : Enc sz enc) (l : List α) (k j : Nat) (a : α) (u : Value) (hk : k < l.length) (hj : j < sz) (ha : enc a = (enc l[k]).set j u) : (l.set k a).flatMap enc = (l.flatMap enc).set (k * sz + j) u := by
  induction l generalizing k with
  | nil => simp at hk
  | cons x l ih =>
    cases k with
    | zero =>
      simp only [List.getElem_cons_zero] at ha
      rw [List.set_cons_zero, List.flatMap_cons, List.flatMap_cons, ha, Nat.zero_mul, Nat.zero_add, List.set_append_left _ _ (by rw [he.len]; exact hj)]
    | succ k =>
      simp only [List.getElem_cons_succ] at ha
      rw [List.set_cons_succ, List.flatMap_cons, List.flatMap_cons, ih k (by simpa using hk) ha, List.set_append_right _ _ (by rw [he.len, Nat.add_mul]; omega), he.len]
      congr 2
      rw [Nat.add_mul]; omega
theorem Own.store (he : Enc sz enc) {g n c : Nat} (h : Own w B e sz enc (.slice (some ⟨g, 0, none⟩) n c) l) (k j : Nat) (a : α) (u : Value) (hk : k < l.length) (hj : j < sz) (ha : enc a = (enc l[k]).set j u) :
    Own (w.setCell ⟨g, k * sz + j, none⟩ u) B e sz enc (.slice (some ⟨g, 0, none⟩) n c) (l.set k a) := by
  obtain ⟨h1, h2⟩ := h
  refine ⟨by rw [flatMap_len he], ?_⟩
  rcases h2 with ⟨hv, h0⟩ | ⟨g', cap, cur, hv, hB, hg, hc, hm, hs, ht⟩
  · cases hv
  · injection hv with e1 e2 e3
    injection e1 with e1
    injection e1 with e1
    subst e1 e2 e3
    refine .inr ⟨g, c, cur.setIfInBounds (k * sz + j) u, by rw [List.length_set], hB, heap_setCell_same w g _ cur e u hg, by rw [List.length_set]; exact hc, hm, by simpa using hs, ?_⟩
    rw [flatMap_set he l k j a u hk hj ha, List.length_set, ← ht, Array.toList_setIfInBounds, List.take_set]
theorem Own.cells {g n c : Nat} (he : Enc sz enc) (h : Own w B e sz enc (.slice (some ⟨g, 0, none⟩) n c) l) (k j : Nat) (u : Value) (hk : k < l.length) (hu : (enc l[k])[j]? = some u) : w.cell? ⟨g, k * sz + j, none⟩ = some u ∧ w.frozen? ⟨g, k * sz + j, none⟩ = false := by
  have hn : l.length = n := (h.rd he).1
  obtain ⟨b, off, e1, hc⟩ := (h.rd he).2 (by omega)
  rcases h.2 with ⟨hv, h0⟩ | ⟨g', cap, cur, hv, hB, hg, _⟩
  · cases hv
  · injection hv with e2
    injection e2 with e2
    injection e2 with e2
    subst e2
    injection e1 with e1
    injection e1 with e1 e3
    subst e1 e3
    have := hc k j u hk hu
    rw [Nat.zero_add] at this
    exact ⟨this, frozen_of_row w g _ _ _ hg⟩
end

/-- no amount of these is beyond m -/
def Bnd (m : Int) (o : List Line) : Prop := ∀ x, x ∈ o → -m ≤ x.amt ∧ x.amt ≤ m
theorem Bnd.step {m a : Int} {o : List Line} {x : Line} (h : Bnd m o) (ha : 0 ≤ a) (hm : 0 ≤ m) (hx : -a ≤ x.amt ∧ x.amt ≤ a) : Bnd (m + a) (grpStep o x) := by
  intro z hz
  unfold grpStep at hz
  cases hg : o.getLast? with
  | none =>
    rw [hg] at hz
    have : z = x := by simpa using hz
    subst this
    omega
  | some y =>
    rw [hg] at hz
    have hy : y ∈ o := List.mem_of_getLast? hg
    dsimp only at hz
    split at hz
    · rcases List.mem_append.1 hz with hz | hz
      · have := h z (List.dropLast_subset _ hz); omega
      · have e : z = { y with amt := y.amt + x.amt } := by simpa using hz
        have e' : z.amt = y.amt + x.amt := by rw [e]
        have := h y hy; omega
    · rcases List.mem_append.1 hz with hz | hz
      · have := h z hz; omega
      · have : z = x := by simpa using hz
        subst this; omega
theorem grp_len (o : List Line) (x : Line) : (grpStep o x).length ≤ o.length + 1 := by
  unfold grpStep
  cases hg : o.getLast? with
  | none => simp
  | some y =>
    dsimp only
    split
    · rw [List.length_append, List.length_dropLast]
      simp only [List.length_singleton]
      omega
    · simp
/-- the round's word -/
def grpTo (s : List Line) (k : Nat) : List Line := (s.take k).foldl grpStep []
theorem grpTo_succ (s : List Line) (k : Nat) (h : k < s.length) : grpTo s (k + 1) = grpStep (grpTo s k) s[k] := by
  unfold grpTo
  rw [List.take_succ_eq_append_getElem h, List.foldl_append]
  rfl
theorem grpTo_len (s : List Line) (k : Nat) (h : k ≤ s.length) : (grpTo s k).length ≤ k := by
  induction k with
  | zero => simp [grpTo]
  | succ k ih => rw [grpTo_succ s k (by omega)]; have := ih (by omega); have := grp_len (grpTo s k) (s[k]'(by omega)); omega
theorem grpTo_bnd (s : List Line) (m : Int) (hm : 0 ≤ m) (hb : Bnd m s) (k : Nat) (h : k ≤ s.length) : Bnd (k * m) (grpTo s k) := by
  induction k with
  | zero => intro x hx; simp [grpTo] at hx
  | succ k ih =>
    rw [grpTo_succ s k (by omega)]
    have := Bnd.step (ih (by omega)) hm (Int.mul_nonneg (by omega) hm) (hb (s[k]'(by omega)) (List.getElem_mem _))
    rwa [show ((k + 1 : Nat) : Int) * m = k * m + m from by rw [Int.natCast_add, Int.add_mul]; simp]
end Go.Proofs.YtbdbpcllndajgaaGreatDoor

namespace Go.Proofs.YtbdbpcllndajgaaGreatDoor
open Go Go.RowKit
set_option linter.unusedVariables false

def refSet : ByteArray := ⟨#[97, 98, 99, 100, 101, 102, 103, 104, 105, 106, 107, 108, 109, 110, 111, 112, 113, 114, 115, 116, 117, 118, 119, 120, 121, 122, 48, 49, 50, 51, 52, 53, 54, 55, 56, 57, 45]⟩
/-- does it begin with byte 45? -/
def dashB (s : ByteArray) : Bool := match s.data.toList.head? with | some c => c == 45 | none => false
/-- a text that is a Ref -/
def refB (s : ByteArray) : Bool := !s.toList.isEmpty && decide ((s.size : Int) ≤ 12) && !dashB s && allIn s refSet
/-- a text that is a currency -/
def curB (s : ByteArray) : Bool := decide ((s.size : Int) = 3) && allIn s uppers

theorem dash_get (s : ByteArray) (h : 0 < s.size) : dashB s = (s[0] == 45) := by
  unfold dashB
  have hl : 0 < s.data.toList.length := by simpa using h
  rw [List.head?_eq_getElem?, List.getElem?_eq_getElem hl]
  rfl

theorem cur_any (s : ByteArray) (w : World) (hs : s.size ≤ 9223372036854775807) :
    Calls Tryz.prog 32 #[.string s] w fun e w' => e = .returned (.bool (curB s)) ∧ Below w.heap.size w w' := by
  by_cases h1 : (s.size : Int) = 3
  · have h1' : ((s.size : Int) == 3) = true := by simpa using h1
    have h1d : decide ((s.size : Int) = 3) = true := by simpa using h1
    have H1 := hide h1
    clear h1
    cases h2 : allIn s uppers with
    | true =>
      have hf : curB s = true := by simp only [curB, h1d, h2, Bool.and_self]
      rw [hf]
      have H2 := hide h2
      clear hf h2 h1d
      go_enter Tryz.func32, Tryz.ntmps32
      go_wp2_with (go_at_call 69; refine (trim_yes s _ _ hs (by decide) (by decide) H2.out).mono ?_; rintro e w1 ⟨rfl, hb1⟩)
      go_ret
      exact ⟨rfl, hb1⟩
    | false =>
      have hf : curB s = false := by simp [curB, h2]
      rw [hf]
      have H2 := hide h2
      clear hf h2 h1d
      go_enter Tryz.func32, Tryz.ntmps32
      go_wp2_with (go_at_call 69; refine (trim_no s _ _ hs (by decide) (by decide) H2.out).mono ?_; rintro e w1 ⟨⟨t, rfl, ht⟩, hb1⟩)
      go_ret
      exact ⟨rfl, hb1⟩
  · have hf : curB s = false := by simp [curB, h1]
    have h1' : ((s.size : Int) == 3) = false := by rw [beq_eq_false_iff_ne]; exact h1
    rw [hf]; clear hf h1
    go_enter Tryz.func32, Tryz.ntmps32
    go_wp2_with fail
    go_ret
    exact ⟨rfl, Below.refl _ _⟩

/-- is a number from a to b? -/
def inB (a b n : Int) : Bool := decide (a ≤ n) && decide (n ≤ b)
theorem period_any (n : Int) (w : World) : Calls Tryz.prog 50 #[.int .i64 n] w fun e w' => e = .returned (.bool (inB 1 120 n)) ∧ w = w' := by
  unfold inB
  by_cases h1 : 1 ≤ n
  · go_enter Tryz.func50, Tryz.ntmps50
    go_wp2_with fail
    go_ret
    exact ⟨by simp [h1], rfl⟩
  · have h1' : n < 1 := by omega
    have h1d : decide (1 ≤ n) = false := by simpa using h1
    clear h1
    go_enter Tryz.func50, Tryz.ntmps50
    go_wp2_with fail
    go_ret
    exact ⟨by simp [h1d], rfl⟩
theorem amount_any (n : Int) (w : World) : Calls Tryz.prog 25 #[.int .i64 n] w fun e w' => e = .returned (.bool (inB (-1000000000000000) 1000000000000000 n)) ∧ w = w' := by
  unfold inB
  by_cases h1 : (-1000000000000000) ≤ n
  · go_enter Tryz.func25, Tryz.ntmps25
    go_wp2_with fail
    go_ret
    exact ⟨by simp [h1], rfl⟩
  · have h1' : n < (-1000000000000000) := by omega
    have h1d : decide ((-1000000000000000) ≤ n) = false := by simpa using h1
    clear h1
    go_enter Tryz.func25, Tryz.ntmps25
    go_wp2_with fail
    go_ret
    exact ⟨by simp [h1d], rfl⟩

/-- the place of the first line of which p is so, or -1 -/
def idxP (l : List Line) (p : Line → Bool) : Int := match l.findIdx? p with | some k => k | none => -1
def NoneP (l : List Line) (p : Line → Bool) (k : Nat) : Prop := ∀ (j : Nat) (h : j < l.length), j < k → p l[j] = false
theorem NoneP.zero (l : List Line) (p : Line → Bool) : NoneP l p 0 := fun _ _ h => absurd h (by omega)
theorem NoneP.succ {l : List Line} {p : Line → Bool} {k : Nat} (h : NoneP l p k) (hk : k < l.length) (hc : p l[k] = false) : NoneP l p (k + 1) := by
  intro j hj hjk
  by_cases e : j = k
  · subst e; exact hc
  · exact h j hj (by omega)
theorem NoneP.hit {l : List Line} {p : Line → Bool} {k : Nat} (h : NoneP l p k) (hk : k < l.length) (hc : p l[k] = true) : idxP l p = k := by
  have : l.findIdx? p = some k := by
    rw [List.findIdx?_eq_some_iff_getElem]
    exact ⟨hk, hc, fun j hj => by rw [h j (by omega) hj]; decide⟩
  simp [idxP, this]
theorem NoneP.miss {l : List Line} {p : Line → Bool} {k : Nat} (h : NoneP l p k) (hk : l.length ≤ k) : idxP l p = -1 := by
  have : l.findIdx? p = none := by
    rw [List.findIdx?_eq_none_iff]
    intro x hx
    obtain ⟨j, hj, rfl⟩ := List.getElem_of_mem hx
    exact h j hj (by omega)
  simp [idxP, this]
theorem idxP_any (l : List Line) (p : Line → Bool) : decide (0 ≤ idxP l p) = l.any p := by
  unfold idxP
  cases h : l.findIdx? p with
  | none =>
    rw [List.findIdx?_eq_none_iff] at h
    have : l.any p = false := by rw [List.any_eq_false]; intro x hx; rw [h x hx]; decide
    rw [this]; rfl
  | some k =>
    obtain ⟨hk, hc, _⟩ := List.findIdx?_eq_some_iff_getElem.1 h
    have : l.any p = true := List.any_eq_true.2 ⟨_, List.getElem_mem hk, hc⟩
    rw [this]; simp

/-- what is asked of a function of lines: it says p, and turns nothing -/
def Asks (K : Nat) (p : Line → Bool) : Prop := ∀ (x : Line) (w : World), Calls Tryz.prog K #[.agg #[.string x.acc, .string x.cur, .int .i64 x.amt]] w fun e w' => e = .returned (.bool (p x)) ∧ Below w.heap.size w w'

end Go.Proofs.YtbdbpcllndajgaaGreatDoor

namespace Go.Proofs.YtbdbpcllndajgaaGreatDoor
open Go Go.RowKit
set_option linter.unusedVariables false

def farB (x : Line) : Bool := !inB (-1000000000000000) 1000000000000000 x.amt
def notZ (x : Line) : Bool := x.amt != 0

/-- what is wrong with lines that are added up -/
def smallE (l : List Line) : Int := if 20 < l.length then 4 else if l.any farB = true then 1 else 0
theorem smallE_ok {l : List Line} (h : smallE l = 0) : l.length ≤ 20 ∧ Bnd 1000000000000000 l := by
  unfold smallE at h
  by_cases h20 : 20 < l.length
  · rw [if_pos h20] at h; cases h
  · rw [if_neg h20] at h
    refine ⟨by omega, fun x hx => ?_⟩
    cases h2 : l.any farB with
    | true => rw [if_pos h2] at h; cases h
    | false =>
      rw [List.any_eq_false] at h2
      have := h2 x hx
      simp only [farB, inB, Bool.not_eq_true, Bool.not_eq_false', Bool.and_eq_true, decide_eq_true_eq] at this
      exact this
theorem smallE_of {l : List Line} (h : l.length ≤ 20) (hb : Bnd 1000000000000000 l) : smallE l = 0 := by
  rw [smallE, if_neg (by omega), if_neg ?_]
  rw [Bool.not_eq_true, List.any_eq_false]
  intro x hx
  have := hb x hx
  simp [farB, inB, this]

/-- a line without its account -/
def blank (x : Line) : Line := ⟨⟨#[]⟩, x.cur, x.amt⟩
def blankTo (l : List Line) (k : Nat) : List Line := (l.take k).map blank ++ l.drop k
theorem blankTo_len (l : List Line) (k : Nat) : (blankTo l k).length = l.length := by
  unfold blankTo
  rw [List.length_append, List.length_map, List.length_take, List.length_drop]; omega
theorem blankTo_get (l : List Line) (k : Nat) (h : k < l.length) : (blankTo l k)[k]'(by rw [blankTo_len]; exact h) = l[k] := by
  unfold blankTo
  rw [List.getElem_append_right (by simp; omega)]
  simp [Nat.min_eq_left (Nat.le_of_lt h)]
theorem blankTo_succ (l : List Line) (k : Nat) (h : k < l.length) : blankTo l (k + 1) = (blankTo l k).set k (blank l[k]) := by
  unfold blankTo
  have hk : ((l.take k).map blank).length = k := by simp; omega
  rw [List.set_append_right _ _ (by omega), hk, Nat.sub_self, List.drop_eq_getElem_cons h, List.set_cons_zero, List.take_succ_eq_append_getElem h, List.map_append, List.append_assoc]
  rfl
theorem blankTo_all (l : List Line) : blankTo l l.length = l.map blank := by simp [blankTo]

def entV (ref : ByteArray) (ent per : Int) (A : Option Addr) (n c : Nat) : Value := .agg #[.string ref, .int .i64 ent, .int .i64 per, .slice A n c]
/-- handed back: a slice of the call's own, and no error -/
def GivesOwn (B : Nat) (l : List Line) (w : World) (e : Ending) (w' : World) : Prop :=
  ∃ v, e = .returned (.tuple #[v, .nilIface]) ∧ Own w' B 59 3 lineEnc v l ∧ Below B w w'

theorem Own.addr {α : Type} {w : World} {B e sz : Nat} {enc : α → List Value} {A : Option Addr} {n c : Nat} {l : List α} (h : Own w B e sz enc (.slice A n c) l) (hl : 0 < l.length) : ∃ g, A = some ⟨g, 0, none⟩ := by
  rcases h.2 with ⟨hv, h0⟩ | ⟨g', cap, cur, hv, _⟩
  · omega
  · injection hv with e1; exact ⟨g', e1⟩

theorem blank_bnd {l : List Line} {m : Int} (h : Bnd m l) : Bnd m (l.map blank) := by
  intro x hx
  obtain ⟨y, hy, rfl⟩ := List.mem_map.1 hx
  exact h y hy

end Go.Proofs.YtbdbpcllndajgaaGreatDoor

namespace Go.Proofs.YtbdbpcllndajgaaGreatDoor
open Go Go.RowKit
set_option linter.unusedVariables false

/-- what is wrong with a line -/
def lineE (c : List Acc) (x : Line) : Int := if leafE c x.acc ≠ 0 then leafE c x.acc else if curB x.cur = false then 2 else if x.amt = 0 then 1 else if farB x = true then 1 else 0
/-- what is wrong with the first line that is -/
def linesE (c : List Acc) (l : List Line) : Int := match l.find? (fun x => lineE c x != 0) with | some x => lineE c x | none => 0
def LinesTo (c : List Acc) (l : List Line) (k : Nat) : Prop := ∀ (j : Nat) (h : j < l.length), j < k → lineE c l[j] = 0
theorem LinesTo.zero (c : List Acc) (l : List Line) : LinesTo c l 0 := fun _ _ h => absurd h (by omega)
theorem LinesTo.succ {c : List Acc} {l : List Line} {k : Nat} (h : LinesTo c l k) (hk : k < l.length) (hc : lineE c l[k] = 0) : LinesTo c l (k + 1) := by
  intro j hj hjk
  by_cases e : j = k
  · subst e; exact hc
  · exact h j hj (by omega)
theorem LinesTo.hit {c : List Acc} {l : List Line} {k : Nat} (h : LinesTo c l k) (hk : k < l.length) (hc : lineE c l[k] ≠ 0) : linesE c l = lineE c l[k] := by
  have : l.find? (fun x => lineE c x != 0) = some l[k] := by
    rw [List.find?_eq_some_iff_getElem]
    exact ⟨by simpa using hc, k, hk, rfl, fun j hj => by simpa using h j (by omega) hj⟩
  rw [linesE, this]
theorem LinesTo.all {c : List Acc} {l : List Line} {k : Nat} (h : LinesTo c l k) (hk : l.length ≤ k) : linesE c l = 0 := by
  have : l.find? (fun x => lineE c x != 0) = none := by
    rw [List.find?_eq_none]
    intro x hx
    obtain ⟨j, hj, rfl⟩ := List.getElem_of_mem hx
    simpa using h j hj (by omega)
  rw [linesE, this]
theorem linesE_0 {c : List Acc} {l : List Line} (h : linesE c l = 0) (x : Line) (hx : x ∈ l) : lineE c x = 0 := by
  unfold linesE at h
  cases hf : l.find? (fun x => lineE c x != 0) with
  | none =>
    rw [List.find?_eq_none] at hf
    simpa using hf x hx
  | some y =>
    rw [hf] at h
    have := List.find?_some hf
    simp [h] at this
theorem lineE_ok {c : List Acc} {x : Line} (h : lineE c x = 0) : leafE c x.acc = 0 ∧ curB x.cur = true ∧ x.amt ≠ 0 ∧ farB x = false := by
  unfold lineE at h
  by_cases h1 : leafE c x.acc = 0
  · rw [if_neg (by simpa using h1)] at h
    cases h2 : curB x.cur with
    | false => rw [if_pos h2] at h; cases h
    | true =>
      rw [if_neg (by rw [h2]; decide)] at h
      by_cases h3 : x.amt = 0
      · rw [if_pos h3] at h; cases h
      · rw [if_neg h3] at h
        cases h4 : farB x with
        | true => rw [if_pos h4] at h; cases h
        | false => exact ⟨h1, rfl, h3, rfl⟩
  · rw [if_pos h1] at h; exact absurd h h1

/-- what is wrong with an entry -/
def entE (c : List Acc) (ref : ByteArray) (ent per : Int) (l : List Line) : Int :=
  if chartE c ≠ 0 then chartE c else if refB ref = false then 2 else if inB 1 12 ent = false then 1 else if inB 1 120 per = false then 1 else if l.length < 2 then 3 else if 20 < l.length then 4 else
  if linesE c l ≠ 0 then linesE c l else if (canon (l.map blank)).any notZ = true then 11 else 0

section
variable {c : List Acc} {ref : ByteArray} {ent per : Int} {l : List Line}
theorem entE_1 (h : chartE c ≠ 0) : entE c ref ent per l = chartE c := by rw [entE, if_pos h]
theorem entE_2 (h : chartE c = 0) (h2 : refB ref = false) : entE c ref ent per l = 2 := by rw [entE, if_neg (by simpa using h), if_pos h2]
theorem entE_3 (h : chartE c = 0) (h2 : refB ref = true) (h3 : inB 1 12 ent = false) : entE c ref ent per l = 1 := by rw [entE, if_neg (by simpa using h), if_neg (by rw [h2]; decide), if_pos h3]
theorem entE_4 (h : chartE c = 0) (h2 : refB ref = true) (h3 : inB 1 12 ent = true) (h4 : inB 1 120 per = false) : entE c ref ent per l = 1 := by
  rw [entE, if_neg (by simpa using h), if_neg (by rw [h2]; decide), if_neg (by rw [h3]; decide), if_pos h4]
theorem entE_5 (h : chartE c = 0) (h2 : refB ref = true) (h3 : inB 1 12 ent = true) (h4 : inB 1 120 per = true) : entE c ref ent per l = if l.length < 2 then 3 else if 20 < l.length then 4 else
  if linesE c l ≠ 0 then linesE c l else if (canon (l.map blank)).any notZ = true then 11 else 0 := by
  rw [entE, if_neg (by simpa using h), if_neg (by rw [h2]; decide), if_neg (by rw [h3]; decide), if_neg (by rw [h4]; decide)]
end

/-- the texts of lines fit -/
def LinesOk (l : List Line) : Prop := ∀ x, x ∈ l → x.acc.size ≤ 9223372036854775807 ∧ x.cur.size ≤ 9223372036854775807

/-- an entry lies at a block's head -/
def EntAt (w : World) (g : Nat) (ref : ByteArray) (ent per : Int) (v : Value) : Prop :=
  w.cell? ⟨g, 0, none⟩ = some (.string ref) ∧ w.cell? ⟨g, 1, none⟩ = some (.int .i64 ent) ∧ w.cell? ⟨g, 2, none⟩ = some (.int .i64 per) ∧ w.cell? ⟨g, 3, none⟩ = some v
theorem EntAt.below {w w' : World} {g : Nat} {ref : ByteArray} {ent per : Int} {v : Value} (h : EntAt w g ref ent per v) (hb : Below w.heap.size w w') : EntAt w' g ref ent per v := by
  obtain ⟨h0, h1, h2, h3⟩ := h
  have hg := World.block_lt_of_cell? _ _ h0
  exact ⟨below_cell hb hg h0, below_cell hb hg h1, below_cell hb hg h2, below_cell hb hg h3⟩

end Go.Proofs.YtbdbpcllndajgaaGreatDoor

namespace Go.Proofs.YtbdbpcllndajgaaGreatDoor
open Go Go.RowKit
set_option linter.unusedVariables false

theorem Rd.boxedAt {α : Type} {enc : α → List Value} (w : World) {sz : Nat} (he : Enc sz enc) (x : α) (cs : Array Value) (e : TypeId) (hcs : cs.toList = enc x) (g : Nat) (hg : g = w.heap.size) : Rd (w.alloc (.cells cs e)) sz enc (some ⟨g, 0, none⟩) 1 [x] := by
  subst hg; exact Rd.boxed w he x cs e hcs

theorem grpStep_same {o : List Line} {y x : Line} {p : Nat} (hg : o.getLast? = some y) (hp : o.length = p + 1) (hk : y.key = x.key) : grpStep o x = o.set p { y with amt := y.amt + x.amt } := by
  unfold grpStep
  rw [hg]
  dsimp only
  rw [if_pos hk]
  have hd : o.dropLast.length = p := by rw [List.length_dropLast, hp]; rfl
  conv => rhs; rw [getLast_split hg, List.set_append_right _ _ (by omega), hd, Nat.sub_self]
  rfl
theorem grpStep_new {o : List Line} {y x : Line} (hg : o.getLast? = some y) (hk : ¬ y.key = x.key) : grpStep o x = o ++ [x] := by
  unfold grpStep
  rw [hg]
  dsimp only
  rw [if_neg hk]

theorem Own.wider {α : Type} {w : World} {B C e sz : Nat} {enc : α → List Value} {v : Value} {l : List α} (h : Own w C e sz enc v l) (hB : B ≤ C) : Own w B e sz enc v l := by
  refine ⟨h.1, ?_⟩
  rcases h.2 with h2 | ⟨g, cap, cur, h1, h2, h3⟩
  · exact .inl h2
  · exact .inr ⟨g, cap, cur, h1, Nat.le_trans hB h2, h3⟩

theorem grp_canon_to {l s : List Line} (hp : s.Perm l) (hw : WSort s) : grpTo s s.length = canon l := by
  unfold grpTo
  rw [List.take_length]
  exact grp_canon hp hw

end Go.Proofs.YtbdbpcllndajgaaGreatDoor
