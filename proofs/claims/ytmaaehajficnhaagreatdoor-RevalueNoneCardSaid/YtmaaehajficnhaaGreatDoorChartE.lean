/- chart.Under and chart.Find: what each returns. -/
import Derived.Test.YtmaaehajficnhaaGreatDoorChartD
namespace Go.Proofs.YtmaaehajficnhaaGreatDoor
open Go Go.RowKit
set_option linter.unusedVariables false

/-- is account k under account i? -/
def bel (l : List Acc) (i k : Nat) : Bool := belTo l i (l.length - i - 1) k
/-- the codes of those under i, ahead of k -/
def underTo (l : List Acc) (i k : Nat) : List ByteArray := ((List.range k).filter fun j => bel l i j).filterMap fun j => (l[j]?).map (·.code)
theorem underTo_yes {l : List Acc} {i k : Nat} (h : k < l.length) (he : bel l i k = true) : underTo l i (k + 1) = underTo l i k ++ [l[k].code] := by
  unfold underTo
  rw [List.range_succ, List.filter_append, List.filterMap_append]
  simp [he, h]
theorem underTo_no {l : List Acc} {i k : Nat} (he : bel l i k = false) : underTo l i (k + 1) = underTo l i k := by
  unfold underTo
  rw [List.range_succ, List.filter_append, List.filterMap_append]
  simp [he]
theorem underTo_len (l : List Acc) (i k : Nat) : (underTo l i k).length ≤ k := by
  unfold underTo
  refine Nat.le_trans (List.length_filterMap_le _ _) (Nat.le_trans (List.length_filter_le _ _) ?_)
  simp

theorem find_ok (l : List Acc) (c : ByteArray) (i : Nat) (A : Option Addr) (n cap : Nat) (w : World) (hl : n ≤ 60) (hcap : n ≤ cap) (ha : Accs w A n l) (hok : AccOk l) (he : chartE l = 0) (hi : idxO l c = some i) (hil : i < l.length) :
    Calls Tryz.prog 11 #[.slice A n cap, .string c] w fun e w' => e = .returned (.tuple #[.agg #[.string l[i].code, .string l[i].name, .int .i64 l[i].kind, .string l[i].parent, .bool l[i].money], .nilIface]) ∧ Below w.heap.size w w' := by
  have HE := hide he
  have Hn := hide ha.1
  have HI : Hid (idxI l c = (i : Int)) := by show idxI l c = _; simp [idxI, hi]
  have hin : i < n := by have := Hn.out; omega
  have i0' : (0 : Int) ≤ (i : Int) := by omega
  have i1' : (i : Int) < (n : Int) := by omega
  obtain ⟨b, off, rfl, hcs⟩ := ha.at_ (by omega)
  obtain ⟨h0, h1, h2, h3, h4⟩ := hcs i hil
  clear he hi hcs
  have hbl : b < w.heap.size := World.block_lt_of_cell? _ _ h0
  go_enter Tryz.func11, Tryz.ntmps11
  go_wp2_with (first | (go_at_call 9; refine (check_ok l _ _ _ _ (by omega) hcap (ha.alloc _) hok HE.out).mono ?_; rintro e w1 ⟨rfl, hb1⟩) | (go_at_call 22; refine (index_at l c i _ _ _ _ (by omega) ((ha.alloc _).below hb1) HI.out).mono ?_; rintro e w2 ⟨rfl, hb2⟩; have hb02 := bthen hb1 (Nat.le_refl _) hb2; have hc2 := (bcell hb02).1; have hf2 := (bcell hb02).2; have hz2 : w.heap.size < w2.heap.size := (by have := hb02.size; simp at this; omega)))
  have hB := bof_alloc hb02
  refine bodyPost_ret (v := .tuple #[.agg #[.string l[i].code, .string l[i].name, .int .i64 l[i].kind, .string l[i].parent, .bool l[i].money], .nilIface]) (by simp [results, Tryz.results11, go_sem, hc2]) rfl ⟨rfl, ?_⟩
  exact ((((hB.setCell (Nat.le_refl _) _).setCell (Nat.le_refl _) _).setCell (Nat.le_refl _) _).setCell (Nat.le_refl _) _).setCell (Nat.le_refl _) _
end Go.Proofs.YtmaaehajficnhaaGreatDoor
