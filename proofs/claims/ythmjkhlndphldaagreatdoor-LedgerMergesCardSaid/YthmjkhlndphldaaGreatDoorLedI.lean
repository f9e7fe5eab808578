/- dayref2.Amounts, ledger.Amounts: what each returns. -/
import Derived.Test.YthmjkhlndphldaaGreatDoorLedB
import Derived.Test.YthmjkhlndphldaaGreatDoorRollR
namespace Go.Proofs.YthmjkhlndphldaaGreatDoor
open Go Go.RowKit
set_option linter.unusedVariables false

def wantB (ent : Int) (cur : ByteArray) (x : Bal) : Bool := (x.ent == ent) && (x.cur.toList == cur.toList)
def badB (c : List Acc) (ent : Int) (cur : ByteArray) (x : Bal) : Bool := wantB ent cur x && (idxO c x.acc).isNone
def amtStep (c : List Acc) (ent : Int) (cur : ByteArray) (o : List Int) (x : Bal) : List Int := if wantB ent cur x = true then (match idxO c x.acc with | some i => o.set i x.amt | none => o) else o
def amtTo (c : List Acc) (l : List Bal) (ent : Int) (cur : ByteArray) (k : Nat) : List Int := (l.take k).foldl (amtStep c ent cur) (List.replicate c.length 0)
def amtE (c : List Acc) (l : List Bal) (ent : Int) (cur : ByteArray) : Int := if l.any (badB c ent cur) = true then 6 else 0
section
variable {c : List Acc} {l : List Bal} {ent : Int} {cur : ByteArray}
theorem amtStep_len (o : List Int) (x : Bal) : (amtStep c ent cur o x).length = o.length := by
  unfold amtStep
  split
  · split
    · exact List.length_set
    · rfl
  · rfl
theorem amtTo_succ {k : Nat} (hk : k < l.length) : amtTo c l ent cur (k + 1) = amtStep c ent cur (amtTo c l ent cur k) l[k] := by
  unfold amtTo
  rw [List.take_succ_eq_append_getElem hk, List.foldl_append]; rfl
theorem amtTo_len (k : Nat) : (amtTo c l ent cur k).length = c.length := by
  induction k with
  | zero => simp [amtTo]
  | succ k ih =>
    rcases Nat.lt_or_ge k l.length with h | h
    · rw [amtTo_succ h, amtStep_len, ih]
    · unfold amtTo at *
      rw [List.take_of_length_le (by omega)]
      rw [List.take_of_length_le h] at ih
      exact ih
theorem amt_skip {k : Nat} (hk : k < l.length) (h : wantB ent cur l[k] = false) : amtTo c l ent cur (k + 1) = amtTo c l ent cur k ∧ badB c ent cur l[k] = false := by
  refine ⟨?_, by simp [badB, h]⟩
  rw [amtTo_succ hk, amtStep, if_neg (by rw [h]; decide)]
theorem amt_set {k i : Nat} (hk : k < l.length) (h : wantB ent cur l[k] = true) (hi : idxO c l[k].acc = some i) : amtTo c l ent cur (k + 1) = (amtTo c l ent cur k).set i l[k].amt ∧ badB c ent cur l[k] = false := by
  refine ⟨?_, by simp [badB, hi]⟩
  rw [amtTo_succ hk, amtStep, if_pos h, hi]
theorem amt_bad {k : Nat} (hk : k < l.length) (h : wantB ent cur l[k] = true) (hi : idxO c l[k].acc = none) : amtE c l ent cur = 6 := by
  rw [amtE, if_pos (any_at hk (by simp [badB, h, hi]))]
theorem amt_good {k : Nat} (h : NoTo (badB c ent cur) l k) (hk : l.length ≤ k) : amtE c l ent cur = 0 := by
  rw [amtE, if_neg (by rw [h.any hk]; decide)]
theorem want_no1 {x : Bal} (h : x.ent ≠ ent) : wantB ent cur x = false := by simp [wantB, h]
theorem want_no2 {x : Bal} (h : (x.cur.toList == cur.toList) = false) : wantB ent cur x = false := by simp [wantB, h]
theorem want_yes {x : Bal} (h1 : x.ent = ent) (h : (x.cur.toList == cur.toList) = true) : wantB ent cur x = true := by simp [wantB, h1, h]
end
theorem own_zeros (w : World) (n : Nat) (hn : n ≤ maxLen) : Own (w.alloc (.cells (Array.replicate n (.int .i64 0)) 3)) w.heap.size 3 1 intEnc2 (.slice (some ⟨w.heap.size, 0, none⟩) n n) (List.replicate n 0) := by
  refine ⟨by simp [intEnc2], .inr ⟨w.heap.size, n, Array.replicate n (.int .i64 0), by rw [List.length_replicate], Nat.le_refl _, (MapKept.heap_alloc w _).1, by simp, hn, by simp, ?_⟩⟩
  simp [intEnc2, List.flatMap_replicate]

set_option maxHeartbeats 1000000 in
set_option maxRecDepth 100000 in
theorem refAmounts_any (c : List Acc) (CA : Option Addr) (cn ccap : Nat) (l : List Bal) (A : Option Addr) (n cap : Nat) (ent : Int) (cur : ByteArray) (w : World) (hcn : cn ≤ 1000) (hc : Accs w CA cn c) (hl : n ≤ 1000) (ha : Rd w 4 balEnc A n l) :
    Calls Tryz.prog 53 #[.slice CA cn ccap, .slice A n cap, .int .i64 ent, .string cur] w fun e w' =>
      ∃ v, e = .returned (.tuple #[v, .int .i64 (amtE c l ent cur)]) ∧ Own w' w.heap.size 3 1 intEnc2 v (if amtE c l ent cur = 0 then amtTo c l ent cur n else []) ∧ Below w.heap.size w w' := by
  obtain ⟨i0, hi0, hz0, hz1, hz2⟩ := info_parts int_info2
  have Hn := hide ha.1
  have Hc := hide hc.1
  have hmk := run_mk 42 3 i0 (.int .i64 0) Tryz.underlying42 hi0 hz0 cn (by rw [hz2]; omega) (by omega)
  simp only [hz1, Nat.mul_one, show (Value.int .i64 0).cells = #[.int .i64 0] from rfl, madeCells_one] at hmk
  obtain ⟨ev, hev⟩ : ∃ ev, ev = amtE c l ent cur := ⟨_, rfl⟩
  rw [← hev]
  generalize hLL : (if ev = 0 then amtTo c l ent cur n else []) = LL
  have HEV := hide hev
  have HLL := hide hLL
  clear hev hLL
  go_enter Tryz.func53, Tryz.ntmps53
  go_wp2_with fail
  go_loopw [11] (fun iv wr => ∃ k : Nat, k ≤ n ∧ iv = .int .i64 k ∧ NoTo (badB c ent cur) l k ∧ Own wr w.heap.size 3 1 intEnc2 (.slice (some ⟨w.heap.size, 0, none⟩) cn cn) (amtTo c l ent cur k) ∧ Below w.heap.size w wr) (fun iv _ => n - (intOf iv).toNat)
  case atStart =>
    refine ⟨0, by omega, rfl, NoTo.zero _ _, ?_, (Below.refl _ _).alloc (Nat.le_refl _) _⟩
    have := own_zeros w cn (by unfold maxLen; omega)
    have h2 : amtTo c l ent cur 0 = List.replicate cn 0 := by rw [← Hc.out]; rfl
    rw [h2]; exact this
  case round =>
    obtain ⟨k, hk, rfl, hno, hown, hbr⟩ := hrel
    have HNo := hide hno
    clear hno
    by_cases hlt : k < n
    · have hkl : k < l.length := by have := Hn.out; omega
      obtain ⟨b, off, rfl, hcs⟩ := (Rd.below ha hbr).2 (by omega)
      have q0 := hcs k 0 _ hkl rfl
      have q1 := hcs k 1 _ hkl rfl
      have q2 := hcs k 2 _ hkl rfl
      have q3 := hcs k 3 _ hkl rfl
      rw [Nat.add_zero] at q0
      clear hcs
      have k0 : (0 : Int) ≤ (k : Int) := by omega
      have k1 : (k : Int) < (n : Int) := by omega
      have hcr := hc.below hbr
      by_cases he : l[k].ent = ent
      · have h1 : (l[k].ent != ent) = false := by rw [bne_eq_false_iff_eq]; exact he
        have HE := hide he
        clear he
        cases h2 : l[k].cur.toList == cur.toList with
        | false =>
          have HS := hide (amt_skip (c := c) (cur := cur) hkl (want_no2 (ent := ent) h2))
          go_wp2_with fail
          go_roundw
          case rel => exact ⟨k + 1, by omega, by go_num, HNo.out.succ hkl HS.out.2, by rw [HS.out.1]; exact hown, hbr⟩
          case measure => simp [intOf]; omega
        | true =>
          have hw := want_yes HE.out h2
          cases hx : idxO c l[k].acc with
          | none =>
            have HX : Hid (idxI c l[k].acc = -1) := by show idxI _ _ = _; simp [idxI, hx]
            have HF := hide (amt_bad hkl hw hx)
            clear hw hx
            go_wp2_with fail
            refine (refAt_any c _ _ _ _ _ (by omega) hcr).mono ?_
            rintro e w2 ⟨rfl, rfl⟩
            rw [HX.out]
            go_wp2_with fail
            go_ret2
            exact ⟨_, by rw [HEV.out, HF.out]; rfl, by rw [← HLL.out, if_neg (by rw [HEV.out, HF.out]; decide)]; exact Own.nil _ _ _ _ _, hbr⟩
          | some i =>
            have hic : i < cn := by have := idxO_lt hx; have := Hc.out; omega
            have HX : Hid (idxI c l[k].acc = (i : Int)) := by show idxI _ _ = _; simp [idxI, hx]
            have HS := hide (amt_set hkl hw hx)
            have hal := amtTo_len (c := c) (l := l) (ent := ent) (cur := cur) k
            have hia : i < (amtTo c l ent cur k).length := by rw [hal, Hc.out]; exact hic
            obtain ⟨c0, f0⟩ := hown.cells intEnc2_ok i 0 _ hia rfl
            rw [Nat.mul_one, Nat.add_zero] at c0 f0
            have i0' : (0 : Int) ≤ (i : Int) := by omega
            have i1' : (i : Int) < (cn : Int) := by omega
            have i2' : ¬ ((i : Int) < 0) := by omega
            clear hw hx hal
            go_wp2_with fail
            refine (refAt_any c _ _ _ _ _ (by omega) hcr).mono ?_
            rintro e w2 ⟨rfl, rfl⟩
            rw [HX.out]
            go_wp2_with fail
            go_roundw
            case rel =>
              have hst := Own.store intEnc2_ok hown i 0 l[k].amt (.int .i64 l[k].amt) hia (by omega) rfl
              rw [Nat.mul_one, Nat.add_zero] at hst
              exact ⟨k + 1, by omega, by go_num, HNo.out.succ hkl HS.out.2, by rw [HS.out.1]; exact hst, hbr.setCell (Nat.le_refl _) _⟩
            case measure => simp [intOf]; omega
      · have h1 : (l[k].ent != ent) = true := by rw [bne_iff_ne]; exact he
        have HS := hide (amt_skip (c := c) (cur := cur) hkl (want_no1 he))
        clear he
        go_wp2_with fail
        go_roundw
        case rel => exact ⟨k + 1, by omega, by go_num, HNo.out.succ hkl HS.out.2, by rw [HS.out.1]; exact hown, hbr⟩
        case measure => simp [intOf]; omega
    · have HF := hide (amt_good HNo.out (by have := Hn.out; omega))
      have hkn : k = n := by omega
      subst hkn
      go_wp2_with fail
      go_ret2
      exact ⟨_, by rw [HEV.out, HF.out]; rfl, by rw [← HLL.out, if_pos (by rw [HEV.out, HF.out])]; exact hown, hbr⟩
end Go.Proofs.YthmjkhlndphldaaGreatDoor
