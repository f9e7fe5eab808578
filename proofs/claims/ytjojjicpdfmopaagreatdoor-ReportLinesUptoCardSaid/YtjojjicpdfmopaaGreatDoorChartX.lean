/- chart.Check and the functions that begin with it: what each returns. -/
import Derived.Test.YtjojjicpdfmopaaGreatDoorTrimX
import Derived.Test.YtjojjicpdfmopaaGreatDoorOwn
namespace Go.Proofs.YtjojjicpdfmopaaGreatDoor
open Go Go.RowKit
set_option linter.unusedVariables false

theorem errV_0 {e : Int} (h : e = 0) : errV e = .nilIface := by rw [errV, if_pos h]
theorem errV_n {e : Int} (h : e ≠ 0) : errV e = .iface 49 (.int .i64 e) := by rw [errV, if_neg h]

theorem account_ok (l : List Acc) (A : Option Addr) (n cap i : Nat) (w : World) (hl : n ≤ 9223372036854775807) (hcap : n ≤ cap) (ha : Accs w A n l) (hok : AccOk l) (hil : i < l.length) (he : accE l i = 0) :
    Calls Tryz.prog 31 #[.slice A n cap, .int .i64 i] w fun e w' => e = .returned .nilIface ∧ Below w.heap.size w w' := by
  rw [← errV_0 he]; exact account_any l A n cap i w hl hcap ha hok hil
theorem account_bad (l : List Acc) (A : Option Addr) (n cap i : Nat) (w : World) (hl : n ≤ 9223372036854775807) (hcap : n ≤ cap) (ha : Accs w A n l) (hok : AccOk l) (hil : i < l.length) (he : accE l i ≠ 0) :
    Calls Tryz.prog 31 #[.slice A n cap, .int .i64 i] w fun e w' => e = .returned (.iface 49 (.int .i64 (accE l i))) ∧ Below w.heap.size w w' := by
  rw [← errV_n he]; exact account_any l A n cap i w hl hcap ha hok hil

theorem check_any (l : List Acc) (A : Option Addr) (n cap : Nat) (w : World) (hl : n ≤ 9223372036854775807) (hcap : n ≤ cap) (ha : Accs w A n l) (hok : AccOk l) :
    Calls Tryz.prog 17 #[.slice A n cap] w fun e w' => e = .returned (errV (chartE l)) ∧ Below w.heap.size w w' := by
  have hn : l.length = n := ha.1
  by_cases h60 : 60 < n
  · have hf : chartE l = 4 := by rw [chartE, if_pos (by omega)]
    rw [hf]
    have h60' : (60 : Int) < (n : Int) := by omega
    clear hf h60 hn
    go_enter Tryz.func17, Tryz.ntmps17
    go_wp2_with fail
    go_ret
    exact ⟨rfl, Below.refl _ _⟩
  · have hf : chartE l = scanE l 0 l.length := by rw [chartE, if_neg (by omega)]
    rw [hf]
    have h60' : (n : Int) ≤ 60 := by omega
    have h60d : decide ((60 : Int) < (n : Int)) = false := by simp; omega
    have Hn := hide hn
    clear hf h60 hn
    go_enter Tryz.func17, Tryz.ntmps17
    go_wp2_with fail
    go_loopw [11] (fun i wr => ∃ k : Nat, k ≤ n ∧ i = .int .i64 k ∧ OkTo l k ∧ Below w.heap.size w wr) (fun i _ => n - (intOf i).toNat)
    case atStart => exact ⟨0, by omega, rfl, fun j hj => absurd hj (by omega), Below.refl _ _⟩
    case round =>
      obtain ⟨k, hk, rfl, hno, hb⟩ := hrel
      by_cases hlt : k < n
      · have hkl : k < l.length := by have := Hn.out; omega
        by_cases he : accE l k = 0
        · have HE := hide he
          clear he
          go_wp2_with (go_at_call 31; refine (account_ok l _ _ _ _ _ hl hcap (ha.below hb) hok hkl HE.out).mono ?_; rintro e w1 ⟨rfl, hb1⟩)
          go_roundw
          case rel => exact ⟨k + 1, by omega, by go_num, fun j hj => (by by_cases e : j = k; (· subst e; exact HE.out); (· exact hno j (by omega))), bthen hb (Nat.le_refl _) hb1⟩
          case measure => simp [intOf]; omega
        · have HE := hide he
          clear he
          go_wp2_with (go_at_call 31; refine (account_bad l _ _ _ _ _ hl hcap (ha.below hb) hok hkl HE.out).mono ?_; rintro e w1 ⟨rfl, hb1⟩)
          go_ret
          exact ⟨by rw [scanE_hit hno HE.out _ 0 (by omega) (by omega), errV_n HE.out]; rfl, bthen hb (Nat.le_refl _) hb1⟩
      · go_wp2
        go_ret
        exact ⟨by rw [scanE_none (m := k) hno _ 0 (by have := Hn.out; omega)]; rfl, hb⟩

theorem check_ok (l : List Acc) (A : Option Addr) (n cap : Nat) (w : World) (hl : n ≤ 9223372036854775807) (hcap : n ≤ cap) (ha : Accs w A n l) (hok : AccOk l) (he : chartE l = 0) :
    Calls Tryz.prog 17 #[.slice A n cap] w fun e w' => e = .returned .nilIface ∧ Below w.heap.size w w' := by
  rw [← errV_0 he]; exact check_any l A n cap w hl hcap ha hok
theorem check_bad (l : List Acc) (A : Option Addr) (n cap : Nat) (w : World) (hl : n ≤ 9223372036854775807) (hcap : n ≤ cap) (ha : Accs w A n l) (hok : AccOk l) (he : chartE l ≠ 0) :
    Calls Tryz.prog 17 #[.slice A n cap] w fun e w' => e = .returned (.iface 49 (.int .i64 (chartE l))) ∧ Below w.heap.size w w' := by
  rw [← errV_n he]; exact check_any l A n cap w hl hcap ha hok

/-- strings as a slice's cells -/
def strEnc (s : ByteArray) : List Value := [.string s]
def Strs (w : World) (A : Option Addr) (n : Nat) (l : List ByteArray) : Prop := Rd w 1 strEnc A n l
theorem Strs.below {w w' : World} {A : Option Addr} {n : Nat} {l : List ByteArray} (h : Strs w A n l) (hb : Below w.heap.size w w') : Strs w' A n l := Rd.below h hb

/-- the codes of the leaves ahead of k -/
def leavesTo (l : List Acc) (k : Nat) : List ByteArray := ((l.take k).filter fun a => leafE l a.code == 0).map (·.code)
theorem leavesTo_yes {l : List Acc} {k : Nat} (h : k < l.length) (he : leafE l l[k].code = 0) : leavesTo l (k + 1) = leavesTo l k ++ [l[k].code] := by
  unfold leavesTo
  rw [List.take_succ_eq_append_getElem h, List.filter_append, List.map_append]
  simp [he]
theorem leavesTo_no {l : List Acc} {k : Nat} (h : k < l.length) (he : leafE l l[k].code ≠ 0) : leavesTo l (k + 1) = leavesTo l k := by
  unfold leavesTo
  rw [List.take_succ_eq_append_getElem h, List.filter_append, List.map_append]
  simp [he]
theorem leavesTo_len (l : List Acc) (k : Nat) : (leavesTo l k).length ≤ k := by
  unfold leavesTo
  rw [List.length_map]
  exact Nat.le_trans (List.length_filter_le _ _) (List.length_take_le _ _)

theorem strEnc_ok : Enc 1 strEnc := ⟨fun _ => rfl, fun _ u hu => by simp [strEnc] at hu; subst hu; rfl⟩
theorem str_info : (Tryz.prog.info? 9).map (fun i => (i.zero, i.size, i.bytes)) = some (some (.string ⟨#[]⟩), 1, 16) := by kernel_rfl

/-- handed back: a new slice of the records l, and no error -/
def GivesRow {α : Type} (B sz : Nat) (enc : α → List Value) (l : List α) (w : World) (e : Ending) (w' : World) : Prop :=
  ∃ A c, e = .returned (.tuple #[.slice A l.length c, .nilIface]) ∧ l.length ≤ c ∧ c ≤ maxLen ∧ Rd w' sz enc A l.length l ∧ Below B w w'
theorem GivesRow.of {α : Type} {B sz e0 : Nat} {enc : α → List Value} {l : List α} {w w' : World} {v : Value} {C : Nat} (he : Enc sz enc) (h : Own w' C e0 sz enc v l) (hb : Below B w w') :
    GivesRow B sz enc l w (.returned (.tuple #[v, .nilIface])) w' := by
  obtain ⟨A, c, rfl, hc, hm⟩ := h.form
  exact ⟨A, c, rfl, hc, hm, h.rd he, hb⟩

end Go.Proofs.YtjojjicpdfmopaaGreatDoor

namespace Go.Proofs.YtjojjicpdfmopaaGreatDoor
open Go Go.RowKit
set_option linter.unusedVariables false

/-- block g is n booleans, the function f's -/
def BRow (w : World) (g n : Nat) (f : Nat → Bool) : Prop := w.heap[g]? = some (.cells ((List.range n).map fun j => Value.bool (f j)).toArray 4 (0, 0))

section
variable {w w' : World} {g n : Nat} {f : Nat → Bool}
theorem BRow.lt (h : BRow w g n f) : g < w.heap.size := by
  rcases Nat.lt_or_ge g w.heap.size with hlt | hge
  · exact hlt
  · unfold BRow at h; rw [Array.getElem?_eq_none hge] at h; cases h
theorem BRow.cell (h : BRow w g n f) (j : Nat) (hj : j < n) : w.cell? ⟨g, j, none⟩ = some (.bool (f j)) := by
  rw [cell_of_row w g j _ _ (0, 0) h]
  simp [hj]
theorem BRow.frozen (h : BRow w g n f) (j : Nat) : w.frozen? ⟨g, j, none⟩ = false := frozen_of_row w g j _ _ h
theorem BRow.below (h : BRow w g n f) (hb : Below w.heap.size w w') : BRow w' g n f := (hb.block g h.lt).trans h
theorem BRow.drew (h : BRow w g n f) : BRow w.drew g n f := h
theorem BRow.drewN (h : BRow w g n f) (k : Nat) : BRow (w.drewN k) g n f := h
theorem BRow.set_ (h : BRow w g n f) (k : Nat) (b : Bool) : BRow (w.setCell ⟨g, k, none⟩ (.bool b)) g n (fun j => if j = k then b else f j) := by
  unfold BRow at h ⊢
  rw [heap_setCell_same w g k _ _ _ h]
  congr 2
  apply Array.ext
  · simp
  · intro j h1 h2
    by_cases e : k = j
    · subst e; simp
    · have e' : ¬ j = k := fun h => e h.symm
      simp [e, e']
end

theorem madeCells_one (z : Value) (n : Nat) : madeCells #[z] n = Array.replicate n z := by
  apply Array.toList_inj.1
  rw [toList_madeCells_one, Array.toList_replicate]
/-- behind m rounds of chart.below: which accounts are known to be under i -/
def belTo (l : List Acc) (i : Nat) : Nat → Nat → Bool
  | 0, j => j == i
  | m + 1, j => if j = i + 1 + m then (match l[i + 1 + m]? with
      | some a => (match idxO (l.take (i + 1 + m)) a.parent with | some p => belTo l i m p | none => false)
      | none => false) else belTo l i m j

theorem bel_step {l : List Acc} {i k : Nat} (h : i + 1 ≤ k) (hk : k < l.length) : belTo l i (k + 1 - i - 1) = fun j => if j = k then (match idxO (l.take k) l[k].parent with | some p => belTo l i (k - i - 1) p | none => false) else belTo l i (k - i - 1) j := by
  obtain ⟨m, rfl⟩ : ∃ m, k = i + 1 + m := ⟨k - i - 1, by omega⟩
  rw [show i + 1 + m + 1 - i - 1 = m + 1 from by omega, show i + 1 + m - i - 1 = m from by omega]
  funext j
  rw [belTo, List.getElem?_eq_getElem hk]
theorem init_row (n i : Nat) : (Array.replicate n (Value.bool false)).setIfInBounds i (.bool true) = ((List.range n).map fun j => Value.bool (j == i)).toArray := by
  apply Array.toList_inj.1
  rw [Array.toList_setIfInBounds, Array.toList_replicate]
  apply List.ext_getElem?
  intro j
  rw [List.getElem?_set, List.getElem?_map]
  by_cases e : i = j
  · subst e
    by_cases h : i < n <;> simp [h]
  · have e' : ¬ j = i := fun h => e h.symm
    by_cases h : j < n
    · simp [e, h, e']
    · simp [e, h]
theorem bool_info : (Tryz.prog.info? 4).map (fun i => (i.zero, i.size, i.bytes)) = some (some (.bool false), 1, 1) := by kernel_rfl

theorem run_mk (t e : TypeId) (i : TypeInfo) (z : Value) (ht : Tryz.prog.underlying t = some (.slice e)) (hi : Tryz.prog.info? e = some i) (hz : i.zero = some z) (n : Nat) (hb : i.bytes * n ≤ 281474976710656) (h63 : n ≤ 9223372036854775807) (w : World) :
    (Instr.makeSlice t (.int .i64 (n : Int)) (.int .i64 (n : Int))).run Tryz.prog w = .ok (.slice (some ⟨w.heap.size, 0, none⟩) n n) (w.alloc (.cells (madeCells z.cells (n * i.size)) e)) := by
  have hr := run_make (P := Tryz.prog) w t e i z ht hi hz .i64 .i64 n n (by omega) (by omega) (by rw [← Int.natCast_mul]; omega) (by omega)
  simp only [Int.toNat_natCast] at hr
  exact hr

end Go.Proofs.YtjojjicpdfmopaaGreatDoor

namespace Go.Proofs.YtjojjicpdfmopaaGreatDoor
open Go Go.RowKit
set_option linter.unusedVariables false

/-- is account k under account i? -/
def bel (l : List Acc) (i k : Nat) : Bool := belTo l i (l.length - i - 1) k
/-- the codes of those under i, ahead of k -/
def underTo (l : List Acc) (i k : Nat) : List ByteArray := ((List.range k).filter fun j => bel l i j).filterMap fun j => (l[j]?).map (·.code)
theorem underTo_yes {l : List Acc} {i k : Nat} (h : k < l.length) (he : bel l i k = true) : underTo l i (k + 1) = underTo l i k ++ [l[k].code] := by
  unfold underTo
  rw [List.range_succ, List.filter_append, List.filterMap_append]
  simp [he, h]
theorem underTo_no {l : List Acc} {i k : Nat} (he : bel l i k = false) : underTo l i (k + 1) = underTo l i k := by
  unfold underTo
  rw [List.range_succ, List.filter_append, List.filterMap_append]
  simp [he]
theorem underTo_len (l : List Acc) (i k : Nat) : (underTo l i k).length ≤ k := by
  unfold underTo
  refine Nat.le_trans (List.length_filterMap_le _ _) (Nat.le_trans (List.length_filter_le _ _) ?_)
  simp

end Go.Proofs.YtjojjicpdfmopaaGreatDoor
