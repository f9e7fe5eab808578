/- chart.Under and chart.Find: what each returns. -/
import Derived.Test.YthmjkhlndphldaaDoorChartD
namespace Go.Proofs.YthmjkhlndphldaaDoor
open Go Go.RowKit
set_option linter.unusedVariables false

/-- is account k under account i? -/
def bel (l : List Acc) (i k : Nat) : Bool := belTo l i (l.length - i - 1) k
/-- the codes of those under i, ahead of k -/
def underTo (l : List Acc) (i k : Nat) : List ByteArray := ((List.range k).filter fun j => bel l i j).filterMap fun j => (l[j]?).map (·.code)
theorem underTo_yes {l : List Acc} {i k : Nat} (h : k < l.length) (he : bel l i k = true) : underTo l i (k + 1) = underTo l i k ++ [l[k].code] := by
  unfold underTo
  rw [List.range_succ, List.filter_append, List.filterMap_append]
  simp [he, h]
theorem underTo_no {l : List Acc} {i k : Nat} (he : bel l i k = false) : underTo l i (k + 1) = underTo l i k := by
  unfold underTo
  rw [List.range_succ, List.filter_append, List.filterMap_append]
  simp [he]
theorem underTo_len (l : List Acc) (i k : Nat) : (underTo l i k).length ≤ k := by
  unfold underTo
  refine Nat.le_trans (List.length_filterMap_le _ _) (Nat.le_trans (List.length_filter_le _ _) ?_)
  simp

theorem under_bad (l : List Acc) (c : ByteArray) (A : Option Addr) (n cap : Nat) (w : World) (hl : n ≤ 9223372036854775807) (hcap : n ≤ cap) (ha : Accs w A n l) (hok : AccOk l) (he : chartE l ≠ 0) :
    Calls Tryd.prog 11 #[.slice A n cap, .string c] w fun e w' => e = .returned (.tuple #[.slice none 0 0, .iface 79 (.int .i64 (chartE l))]) ∧ Below w.heap.size w w' := by
  have HE := hide he
  clear he
  go_enter Tryd.func11, Tryd.ntmps11
  go_wp2_with (go_at_call 16; refine (check_bad l _ _ _ _ hl hcap ha hok HE.out).mono ?_; rintro e w1 ⟨rfl, hb1⟩)
  go_ret2
  exact ⟨rfl, hb1⟩
theorem under_none (l : List Acc) (c : ByteArray) (A : Option Addr) (n cap : Nat) (w : World) (hl : n ≤ 60) (hcap : n ≤ cap) (ha : Accs w A n l) (hok : AccOk l) (he : chartE l = 0) (hi : idxO l c = none) :
    Calls Tryd.prog 11 #[.slice A n cap, .string c] w fun e w' => e = .returned (.tuple #[.slice none 0 0, .iface 79 (.int .i64 6)]) ∧ Below w.heap.size w w' := by
  have HE := hide he
  have HI : Hid (idxI l c = -1) := by show idxI l c = -1; simp [idxI, hi]
  clear he hi
  go_enter Tryd.func11, Tryd.ntmps11
  go_wp2_with (first | (go_at_call 16; refine (check_ok l _ _ _ _ (by omega) hcap ha hok HE.out).mono ?_; rintro e w1 ⟨rfl, hb1⟩) | (go_at_call 39; refine (index_at l c (-1) _ _ _ _ (by omega) (ha.below hb1) HI.out).mono ?_; rintro e w2 ⟨rfl, hb2⟩))
  go_ret2
  exact ⟨rfl, bthen hb1 (Nat.le_refl _) hb2⟩

set_option maxRecDepth 100000 in
theorem under_ok (l : List Acc) (c : ByteArray) (i : Nat) (A : Option Addr) (n cap : Nat) (w : World) (hl : n ≤ 60) (hcap : n ≤ cap) (ha : Accs w A n l) (hok : AccOk l) (he : chartE l = 0) (hi : idxO l c = some i) :
    Calls Tryd.prog 11 #[.slice A n cap, .string c] w (GivesRow w.heap.size 1 strEnc (underTo l i n) w) := by
  obtain ⟨i0, hi0, hz0, hz1, hz2⟩ := info_parts str_info
  have HE := hide he
  have Hn := hide ha.1
  have hil := idxO_lt hi
  have HI : Hid (idxI l c = (i : Int)) := by show idxI l c = _; simp [idxI, hi]
  have hin : i < n := by have := Hn.out; omega
  have i0' : (0 : Int) ≤ (i : Int) := by omega
  clear he hi
  go_enter Tryd.func11, Tryd.ntmps11
  go_wp2_with (first | (go_at_call 16; refine (check_ok l _ _ _ _ (by omega) hcap ha hok HE.out).mono ?_; rintro e w1 ⟨rfl, hb1⟩) | (go_at_call 39; refine (index_at l c i _ _ _ _ (by omega) (ha.below hb1) HI.out).mono ?_; rintro e w2 ⟨rfl, hb2⟩; have hb02 := bthen hb1 (Nat.le_refl _) hb2) | (go_at_call 40; refine (below_any l _ _ _ _ _ hl hcap (ha.below hb02) hin).mono ?_; rintro e w3 ⟨rfl, hrow, hb3⟩; have hb03 := bthen hb02 (Nat.le_refl _) hb3))
  go_loopw [8, 26] (fun v i' wr => ∃ k : Nat, k ≤ n ∧ i' = .int .i64 k ∧ Own wr w3.heap.size 9 1 strEnc v (underTo l i k) ∧ Below w3.heap.size w3 wr) (fun _ i' _ => n - (intOf i').toNat)
  case atStart => exact ⟨0, by omega, rfl, Own.nil _ _ _ _ _, Below.refl _ _⟩
  case round =>
    obtain ⟨k, hk, rfl, hown, hb⟩ := hrel
    by_cases hlt : k < n
    · have hkl : k < l.length := by have := Hn.out; omega
      have har := (ha.below hb03).below hb
      obtain ⟨b, off, rfl, hcs⟩ := har.at_ (by omega)
      have h0 := (hcs k hkl).1
      clear hcs
      have hL := underTo_len l i k
      have q0 := (hrow.below hb).cell k hlt
      have hsz := hb.size
      have k0 : (0 : Int) ≤ (k : Int) := by omega
      have k2 : (k : Int) < (n : Int) := by omega
      rw [show belTo l i (n - i - 1) k = bel l i k from by unfold bel; rw [Hn.out]] at q0
      cases hbe : bel l i k with
      | true =>
        have HB := hide hbe
        rw [hbe] at q0
        clear hbe
        go_wp2_with (first | (at_builtin; refine wpList_push _ rfl _ _ 23 rfl w3.heap.size 9 i0 (.string ⟨#[]⟩) 1 16 Tryd.underlying23 hi0 hz0 hz1 hz2 rfl (by decide) strEnc_ok _ (underTo l i k) rfl (hown.alloc _) _ 1 1 [l[k].code] rfl (Rd.boxed _ strEnc_ok _ _ _ rfl) (by intro h; cases h) (by simp only [maxLen]; omega) (by omega) (by simp; omega) ?_; intro v' w4 hown4 hg4 hat4))
        go_roundw
        case rel => exact ⟨k + 1, by omega, by go_num, by rw [underTo_yes hkl HB.out]; exact hown4, bpush hb hsz hg4 (fun k hk => (hown.block k hk).1)⟩
        case measure => simp [intOf]; omega
      | false =>
        have HB := hide hbe
        rw [hbe] at q0
        clear hbe
        go_wp2_with fail
        go_roundw
        case rel => exact ⟨k + 1, by omega, by go_num, by rw [underTo_no HB.out]; exact hown, hb⟩
        case measure => simp [intOf]; omega
    · go_wp2_with fail
      have hkn : k = n := by omega
      subst hkn
      go_ret2
      exact GivesRow.of strEnc_ok hown (bthen hb03 (Nat.le_refl _) hb)

theorem find_ok (l : List Acc) (c : ByteArray) (i : Nat) (A : Option Addr) (n cap : Nat) (w : World) (hl : n ≤ 60) (hcap : n ≤ cap) (ha : Accs w A n l) (hok : AccOk l) (he : chartE l = 0) (hi : idxO l c = some i) (hil : i < l.length) :
    Calls Tryd.prog 12 #[.slice A n cap, .string c] w fun e w' => e = .returned (.tuple #[.agg #[.string l[i].code, .string l[i].name, .int .i64 l[i].kind, .string l[i].parent, .bool l[i].money], .nilIface]) ∧ Below w.heap.size w w' := by
  have HE := hide he
  have Hn := hide ha.1
  have HI : Hid (idxI l c = (i : Int)) := by show idxI l c = _; simp [idxI, hi]
  have hin : i < n := by have := Hn.out; omega
  have i0' : (0 : Int) ≤ (i : Int) := by omega
  have i1' : (i : Int) < (n : Int) := by omega
  obtain ⟨b, off, rfl, hcs⟩ := ha.at_ (by omega)
  obtain ⟨h0, h1, h2, h3, h4⟩ := hcs i hil
  clear he hi hcs
  have hbl : b < w.heap.size := World.block_lt_of_cell? _ _ h0
  go_enter Tryd.func12, Tryd.ntmps12
  go_wp2_with (first | (go_at_call 16; refine (check_ok l _ _ _ _ (by omega) hcap (ha.alloc _) hok HE.out).mono ?_; rintro e w1 ⟨rfl, hb1⟩) | (go_at_call 39; refine (index_at l c i _ _ _ _ (by omega) ((ha.alloc _).below hb1) HI.out).mono ?_; rintro e w2 ⟨rfl, hb2⟩; have hb02 := bthen hb1 (Nat.le_refl _) hb2; have hc2 := (bcell hb02).1; have hf2 := (bcell hb02).2; have hz2 : w.heap.size < w2.heap.size := (by have := hb02.size; simp at this; omega)))
  have hB := bof_alloc hb02
  refine bodyPost_ret (v := .tuple #[.agg #[.string l[i].code, .string l[i].name, .int .i64 l[i].kind, .string l[i].parent, .bool l[i].money], .nilIface]) (by simp [results, Tryd.results12, go_sem, hc2]) rfl ⟨rfl, ?_⟩
  exact ((((hB.setCell (Nat.le_refl _) _).setCell (Nat.le_refl _) _).setCell (Nat.le_refl _) _).setCell (Nat.le_refl _) _).setCell (Nat.le_refl _) _
end Go.Proofs.YthmjkhlndphldaaDoor
