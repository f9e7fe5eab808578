/- chart.Check and the functions that begin with it: what each returns. -/
import Derived.Test.YthmjkhlndphldaaDoorChartB
import Derived.Test.YthmjkhlndphldaaDoorOwn
namespace Go.Proofs.YthmjkhlndphldaaDoor
open Go Go.RowKit
set_option linter.unusedVariables false

theorem errV_0 {e : Int} (h : e = 0) : errV e = .nilIface := by rw [errV, if_pos h]
theorem errV_n {e : Int} (h : e ≠ 0) : errV e = .iface 79 (.int .i64 e) := by rw [errV, if_neg h]

theorem account_ok (l : List Acc) (A : Option Addr) (n cap i : Nat) (w : World) (hl : n ≤ 9223372036854775807) (hcap : n ≤ cap) (ha : Accs w A n l) (hok : AccOk l) (hil : i < l.length) (he : accE l i = 0) :
    Calls Tryd.prog 43 #[.slice A n cap, .int .i64 i] w fun e w' => e = .returned .nilIface ∧ Below w.heap.size w w' := by
  rw [← errV_0 he]; exact account_any l A n cap i w hl hcap ha hok hil
theorem account_bad (l : List Acc) (A : Option Addr) (n cap i : Nat) (w : World) (hl : n ≤ 9223372036854775807) (hcap : n ≤ cap) (ha : Accs w A n l) (hok : AccOk l) (hil : i < l.length) (he : accE l i ≠ 0) :
    Calls Tryd.prog 43 #[.slice A n cap, .int .i64 i] w fun e w' => e = .returned (.iface 79 (.int .i64 (accE l i))) ∧ Below w.heap.size w w' := by
  rw [← errV_n he]; exact account_any l A n cap i w hl hcap ha hok hil

theorem check_any (l : List Acc) (A : Option Addr) (n cap : Nat) (w : World) (hl : n ≤ 9223372036854775807) (hcap : n ≤ cap) (ha : Accs w A n l) (hok : AccOk l) :
    Calls Tryd.prog 16 #[.slice A n cap] w fun e w' => e = .returned (errV (chartE l)) ∧ Below w.heap.size w w' := by
  have hn : l.length = n := ha.1
  by_cases h60 : 60 < n
  · have hf : chartE l = 4 := by rw [chartE, if_pos (by omega)]
    rw [hf]
    have h60' : (60 : Int) < (n : Int) := by omega
    clear hf h60 hn
    go_enter Tryd.func16, Tryd.ntmps16
    go_wp2_with fail
    go_ret
    exact ⟨rfl, Below.refl _ _⟩
  · have hf : chartE l = scanE l 0 l.length := by rw [chartE, if_neg (by omega)]
    rw [hf]
    have h60' : (n : Int) ≤ 60 := by omega
    have h60d : decide ((60 : Int) < (n : Int)) = false := by simp; omega
    have Hn := hide hn
    clear hf h60 hn
    go_enter Tryd.func16, Tryd.ntmps16
    go_wp2_with fail
    go_loopw [11] (fun i wr => ∃ k : Nat, k ≤ n ∧ i = .int .i64 k ∧ OkTo l k ∧ Below w.heap.size w wr) (fun i _ => n - (intOf i).toNat)
    case atStart => exact ⟨0, by omega, rfl, fun j hj => absurd hj (by omega), Below.refl _ _⟩
    case round =>
      obtain ⟨k, hk, rfl, hno, hb⟩ := hrel
      by_cases hlt : k < n
      · have hkl : k < l.length := by have := Hn.out; omega
        by_cases he : accE l k = 0
        · have HE := hide he
          clear he
          go_wp2_with (go_at_call 43; refine (account_ok l _ _ _ _ _ hl hcap (ha.below hb) hok hkl HE.out).mono ?_; rintro e w1 ⟨rfl, hb1⟩)
          go_roundw
          case rel => exact ⟨k + 1, by omega, by go_num, fun j hj => (by by_cases e : j = k; (· subst e; exact HE.out); (· exact hno j (by omega))), bthen hb (Nat.le_refl _) hb1⟩
          case measure => simp [intOf]; omega
        · have HE := hide he
          clear he
          go_wp2_with (go_at_call 43; refine (account_bad l _ _ _ _ _ hl hcap (ha.below hb) hok hkl HE.out).mono ?_; rintro e w1 ⟨rfl, hb1⟩)
          go_ret
          exact ⟨by rw [scanE_hit hno HE.out _ 0 (by omega) (by omega), errV_n HE.out]; rfl, bthen hb (Nat.le_refl _) hb1⟩
      · go_wp2
        go_ret
        exact ⟨by rw [scanE_none (m := k) hno _ 0 (by have := Hn.out; omega)]; rfl, hb⟩

theorem check_ok (l : List Acc) (A : Option Addr) (n cap : Nat) (w : World) (hl : n ≤ 9223372036854775807) (hcap : n ≤ cap) (ha : Accs w A n l) (hok : AccOk l) (he : chartE l = 0) :
    Calls Tryd.prog 16 #[.slice A n cap] w fun e w' => e = .returned .nilIface ∧ Below w.heap.size w w' := by
  rw [← errV_0 he]; exact check_any l A n cap w hl hcap ha hok
theorem check_bad (l : List Acc) (A : Option Addr) (n cap : Nat) (w : World) (hl : n ≤ 9223372036854775807) (hcap : n ≤ cap) (ha : Accs w A n l) (hok : AccOk l) (he : chartE l ≠ 0) :
    Calls Tryd.prog 16 #[.slice A n cap] w fun e w' => e = .returned (.iface 79 (.int .i64 (chartE l))) ∧ Below w.heap.size w w' := by
  rw [← errV_n he]; exact check_any l A n cap w hl hcap ha hok

/-- strings as a slice's cells -/
def strEnc (s : ByteArray) : List Value := [.string s]
def Strs (w : World) (A : Option Addr) (n : Nat) (l : List ByteArray) : Prop := Rd w 1 strEnc A n l
theorem Strs.below {w w' : World} {A : Option Addr} {n : Nat} {l : List ByteArray} (h : Strs w A n l) (hb : Below w.heap.size w w') : Strs w' A n l := Rd.below h hb

/-- the codes of the leaves ahead of k -/
def leavesTo (l : List Acc) (k : Nat) : List ByteArray := ((l.take k).filter fun a => leafE l a.code == 0).map (·.code)
theorem leavesTo_yes {l : List Acc} {k : Nat} (h : k < l.length) (he : leafE l l[k].code = 0) : leavesTo l (k + 1) = leavesTo l k ++ [l[k].code] := by
  unfold leavesTo
  rw [List.take_succ_eq_append_getElem h, List.filter_append, List.map_append]
  simp [he]
theorem leavesTo_no {l : List Acc} {k : Nat} (h : k < l.length) (he : leafE l l[k].code ≠ 0) : leavesTo l (k + 1) = leavesTo l k := by
  unfold leavesTo
  rw [List.take_succ_eq_append_getElem h, List.filter_append, List.map_append]
  simp [he]
theorem leavesTo_len (l : List Acc) (k : Nat) : (leavesTo l k).length ≤ k := by
  unfold leavesTo
  rw [List.length_map]
  exact Nat.le_trans (List.length_filter_le _ _) (List.length_take_le _ _)

theorem leaf_ok (l : List Acc) (c : ByteArray) (A : Option Addr) (n cap : Nat) (w : World) (hl : n ≤ 9223372036854775807) (ha : Accs w A n l) (he : leafE l c = 0) :
    Calls Tryd.prog 38 #[.slice A n cap, .string c] w fun e w' => e = .returned .nilIface ∧ Below w.heap.size w w' := by
  rw [← errV_0 he]; exact leaf_any l c A n cap w hl ha
theorem leaf_bad (l : List Acc) (c : ByteArray) (A : Option Addr) (n cap : Nat) (w : World) (hl : n ≤ 9223372036854775807) (ha : Accs w A n l) (he : leafE l c ≠ 0) :
    Calls Tryd.prog 38 #[.slice A n cap, .string c] w fun e w' => e = .returned (.iface 79 (.int .i64 (leafE l c))) ∧ Below w.heap.size w w' := by
  rw [← errV_n he]; exact leaf_any l c A n cap w hl ha

theorem leaves_bad (l : List Acc) (A : Option Addr) (n cap : Nat) (w : World) (hl : n ≤ 9223372036854775807) (hcap : n ≤ cap) (ha : Accs w A n l) (hok : AccOk l) (he : chartE l ≠ 0) :
    Calls Tryd.prog 10 #[.slice A n cap] w fun e w' => e = .returned (.tuple #[.slice none 0 0, .iface 79 (.int .i64 (chartE l))]) ∧ Below w.heap.size w w' := by
  have HE := hide he
  clear he
  go_enter Tryd.func10, Tryd.ntmps10
  go_wp2_with (go_at_call 16; refine (check_bad l _ _ _ _ hl hcap ha hok HE.out).mono ?_; rintro e w1 ⟨rfl, hb1⟩)
  go_ret2
  exact ⟨rfl, hb1⟩
theorem strEnc_ok : Enc 1 strEnc := ⟨fun _ => rfl, fun _ u hu => by simp [strEnc] at hu; subst hu; rfl⟩
theorem str_info : (Tryd.prog.info? 9).map (fun i => (i.zero, i.size, i.bytes)) = some (some (.string ⟨#[]⟩), 1, 16) := by kernel_rfl

/-- handed back: a new slice of the records l, and no error -/
def GivesRow {α : Type} (B sz : Nat) (enc : α → List Value) (l : List α) (w : World) (e : Ending) (w' : World) : Prop :=
  ∃ A c, e = .returned (.tuple #[.slice A l.length c, .nilIface]) ∧ l.length ≤ c ∧ c ≤ maxLen ∧ Rd w' sz enc A l.length l ∧ Below B w w'
theorem GivesRow.of {α : Type} {B sz e0 : Nat} {enc : α → List Value} {l : List α} {w w' : World} {v : Value} {C : Nat} (he : Enc sz enc) (h : Own w' C e0 sz enc v l) (hb : Below B w w') :
    GivesRow B sz enc l w (.returned (.tuple #[v, .nilIface])) w' := by
  obtain ⟨A, c, rfl, hc, hm⟩ := h.form
  exact ⟨A, c, rfl, hc, hm, h.rd he, hb⟩

theorem leaves_ok (l : List Acc) (A : Option Addr) (n cap : Nat) (w : World) (hl : n ≤ 60) (hcap : n ≤ cap) (ha : Accs w A n l) (hok : AccOk l) (he : chartE l = 0) :
    Calls Tryd.prog 10 #[.slice A n cap] w (GivesRow w.heap.size 1 strEnc (leavesTo l n) w) := by
  obtain ⟨i0, hi0, hz0, hz1, hz2⟩ := info_parts str_info
  have HE := hide he
  have Hn := hide ha.1
  clear he
  go_enter Tryd.func10, Tryd.ntmps10
  go_wp2_with (go_at_call 16; refine (check_ok l _ _ _ _ (by omega) hcap ha hok HE.out).mono ?_; rintro e w1 ⟨rfl, hb1⟩)
  go_loopw [5, 15] (fun v i wr => ∃ k : Nat, k ≤ n ∧ i = .int .i64 k ∧ Own wr w1.heap.size 9 1 strEnc v (leavesTo l k) ∧ Below w1.heap.size w1 wr) (fun _ i _ => n - (intOf i).toNat)
  case atStart => exact ⟨0, by omega, rfl, Own.nil _ _ _ _ _, Below.refl _ _⟩
  case round =>
    obtain ⟨k, hk, rfl, hown, hb⟩ := hrel
    by_cases hlt : k < n
    · have hkl : k < l.length := by have := Hn.out; omega
      have har := (ha.below hb1).below hb
      obtain ⟨b, off, rfl, hcs⟩ := har.at_ (by omega)
      obtain ⟨h0, h1, h2, h3, h4⟩ := hcs k hkl
      clear hcs
      have hL := leavesTo_len l k
      by_cases he : leafE l l[k].code = 0
      · have HE := hide he
        clear he
        go_wp2_with (first | (at_builtin; go_loud (refine wpList_push _ rfl _ _ 23 rfl w1.heap.size 9 i0 (.string ⟨#[]⟩) 1 16 Tryd.underlying23 hi0 hz0 hz1 hz2 rfl (by decide) strEnc_ok _ (leavesTo l k) rfl (hown2.alloc _) _ 1 1 [l[k].code] rfl (Rd.boxed _ strEnc_ok _ _ _ rfl) (by intro h; cases h) (by simp only [maxLen]; omega) (by omega) (by simp; omega) ?_); intro v' w3 hown3 hg3 hat3) | (go_at_call 38; refine (leaf_ok l _ _ _ _ _ (by omega) (har.alloc _) HE.out).mono ?_; rintro e w2 ⟨rfl, hb2⟩; have hc2 := (bcell hb2).1; have hown2 := hown.below (bof_alloc hb2); have hs2 : w1.heap.size ≤ w2.heap.size := Nat.le_trans hb.size (bof_alloc hb2).size))
        go_roundw
        case rel => exact ⟨k + 1, by omega, by go_num, by rw [leavesTo_yes hkl HE.out]; exact hown3, bpush (bthen hb (Nat.le_refl _) (bof_alloc hb2)) hs2 hg3 (fun k hk => (hown2.block k hk).1)⟩
        case measure => simp [intOf]; omega
      · have HE := hide he
        clear he
        go_wp2_with (go_at_call 38; refine (leaf_bad l _ _ _ _ _ (by omega) (har.alloc _) HE.out).mono ?_; rintro e w2 ⟨rfl, hb2⟩; have hc2 := (bcell hb2).1; have hown2 := hown.below (bof_alloc hb2))
        go_roundw
        case rel => exact ⟨k + 1, by omega, by go_num, by rw [leavesTo_no hkl HE.out]; exact hown2, bthen hb (Nat.le_refl _) (bof_alloc hb2)⟩
        case measure => simp [intOf]; omega
    · go_wp2
      have hkn : k = n := by omega
      subst hkn
      go_ret2
      exact GivesRow.of strEnc_ok hown (bthen hb1 (Nat.le_refl _) hb)
end Go.Proofs.YthmjkhlndphldaaDoor
