/- ledger.Amounts: what it returns. -/
import Derived.Test.YthmjkhlndphldaaGreatDoorLedI
namespace Go.Proofs.YthmjkhlndphldaaGreatDoor
open Go Go.RowKit
set_option linter.unusedVariables false

/-- the closure of ledger.Amounts: is an account's code that of the balance? -/
theorem amtClo (a : Acc) (c : ByteArray) (g : Nat) (w : World) (hp : w.cell? ⟨g, 1, none⟩ = some (.string c)) :
    Calls Tryz.prog 151 #[.agg #[.string a.code, .string a.name, .int .i64 a.kind, .string a.parent, .bool a.money], .pointer (some ⟨g, 0, none⟩)] w
      fun e w' => e = .returned (.bool (a.code.toList == c.toList)) ∧ Below w.heap.size w w' := by
  have hg : g < w.heap.size := World.block_lt_of_cell? _ _ hp
  go_enter Tryz.func151, Tryz.ntmps151
  go_wp2_with fail
  go_ret
  exact ⟨rfl, (Below.refl _ _).alloc (Nat.le_refl _) _⟩

theorem indexFunc_amt (l : List Acc) (c : ByteArray) (A : Option Addr) (n cap g : Nat) (w : World) (hl : n ≤ 9223372036854775807) (ha : Accs w A n l) (hp : w.cell? ⟨g, 1, none⟩ = some (.string c)) :
    Calls Tryz.prog 150 #[.slice A n cap, .func (.func 151) #[] #[.pointer (some ⟨g, 0, none⟩)]] w
      fun e w' => e = .returned (.int .i64 (idxI l c)) ∧ Below w.heap.size w w' := by
  have hn : l.length = n := ha.1
  have Hn := hide hn
  clear hn
  go_enter Tryz.func150, Tryz.ntmps150
  go_wp2
  go_loopw [8] (fun i wr => ∃ k : Nat, k ≤ n ∧ i = .int .i64 k ∧ NoneTo l c k ∧ Below w.heap.size w wr) (fun i _ => n - (intOf i).toNat)
  case atStart => exact ⟨0, by omega, rfl, NoneTo.zero _ _, Below.refl _ _⟩
  case round =>
    obtain ⟨k, hk, rfl, hno, hb⟩ := hrel
    by_cases hlt : k < n
    · obtain ⟨b, off, rfl, hcs⟩ := (ha.below hb).at_ (by omega)
      obtain ⟨h0, h1, h2, h3, h4⟩ := hcs k (by have := Hn.out; omega)
      clear hcs
      have hp' := below_cell hb (World.block_lt_of_cell? _ _ hp) hp
      go_wp2_with (go_at_call 151; refine (amtClo _ c g _ hp').mono ?_; rintro e w1 ⟨rfl, hb1⟩)
      · go_ret
        exact ⟨ret_int (hno.hit _ (by assumption)).symm, bthen hb (Nat.le_refl _) hb1⟩
      · go_roundw
        case rel => exact ⟨k + 1, by omega, by go_num, hno.succ _ (by assumption), bthen hb (Nat.le_refl _) hb1⟩
        case measure => simp [intOf]; omega
    · go_wp2
      go_ret
      exact ⟨ret_int (hno.miss (by have := Hn.out; omega)).symm, hb⟩

set_option maxHeartbeats 1000000 in
set_option maxRecDepth 100000 in
theorem amounts_any (c : List Acc) (CA : Option Addr) (cn ccap : Nat) (l : List Bal) (A : Option Addr) (n cap : Nat) (ent : Int) (cur : ByteArray) (w : World) (hcn : cn ≤ 1000) (hc : Accs w CA cn c) (hl : n ≤ 1000) (ha : Rd w 4 balEnc A n l) :
    Calls Tryz.prog 111 #[.slice CA cn ccap, .slice A n cap, .int .i64 ent, .string cur] w fun e w' =>
      ∃ v, e = .returned (.tuple #[v, errV (amtE c l ent cur)]) ∧ Own w' w.heap.size 3 1 intEnc2 v (if amtE c l ent cur = 0 then amtTo c l ent cur n else []) ∧ Below w.heap.size w w' := by
  obtain ⟨i0, hi0, hz0, hz1, hz2⟩ := info_parts int_info2
  have Hn := hide ha.1
  have Hc := hide hc.1
  have hmk := run_mk 42 3 i0 (.int .i64 0) Tryz.underlying42 hi0 hz0 cn (by rw [hz2]; omega) (by omega)
  simp only [hz1, Nat.mul_one, show (Value.int .i64 0).cells = #[.int .i64 0] from rfl, madeCells_one] at hmk
  obtain ⟨ev, hev⟩ : ∃ ev, ev = errV (amtE c l ent cur) := ⟨_, rfl⟩
  rw [← hev]
  generalize hLL : (if amtE c l ent cur = 0 then amtTo c l ent cur n else []) = LL
  have HEV := hide hev
  have HLL := hide hLL
  clear hev hLL
  go_enter Tryz.func111, Tryz.ntmps111
  go_wp2_with fail
  go_loopw [19] (fun iv wr => ∃ k : Nat, k ≤ n ∧ iv = .int .i64 k ∧ NoTo (badB c ent cur) l k ∧ Own wr w.heap.size 3 1 intEnc2 (.slice (some ⟨w.heap.size, 0, none⟩) cn cn) (amtTo c l ent cur k) ∧ Below w.heap.size w wr) (fun iv _ => n - (intOf iv).toNat)
  case atStart =>
    refine ⟨0, by omega, rfl, NoTo.zero _ _, ?_, (Below.refl _ _).alloc (Nat.le_refl _) _⟩
    have := own_zeros w cn (by unfold maxLen; omega)
    have h2 : amtTo c l ent cur 0 = List.replicate cn 0 := by rw [← Hc.out]; rfl
    rw [h2]; exact this
  case round =>
    obtain ⟨k, hk, rfl, hno, hown, hbr⟩ := hrel
    have HNo := hide hno
    clear hno
    by_cases hlt : k < n
    · have hkl : k < l.length := by have := Hn.out; omega
      obtain ⟨b, off, rfl, hcs⟩ := (Rd.below ha hbr).2 (by omega)
      have q0 := hcs k 0 _ hkl rfl
      have q1 := hcs k 1 _ hkl rfl
      have q2 := hcs k 2 _ hkl rfl
      have q3 := hcs k 3 _ hkl rfl
      rw [Nat.add_zero] at q0
      clear hcs
      have k0 : (0 : Int) ≤ (k : Int) := by omega
      have k1 : (k : Int) < (n : Int) := by omega
      have hcr := hc.below hbr
      have hsw := hbr.size
      by_cases he : l[k].ent = ent
      · have h1 : (l[k].ent != ent) = false := by rw [bne_eq_false_iff_eq]; exact he
        have HE := hide he
        clear he
        cases h2 : l[k].cur.toList == cur.toList with
        | false =>
          have HS := hide (amt_skip (c := c) (cur := cur) hkl (want_no2 (ent := ent) h2))
          go_wp2_with fail
          go_roundw
          case rel => exact ⟨k + 1, by omega, by go_num, HNo.out.succ hkl HS.out.2, by rw [HS.out.1]; exact hown.alloc _, hbr.alloc hsw _⟩
          case measure => simp [intOf]; omega
        | true =>
          have hw := want_yes HE.out h2
          have hx1 : (wr.alloc (.cells #[.int .i64 l[k].ent, .string l[k].acc, .string l[k].cur, .int .i64 l[k].amt] 73)).cell? ⟨wr.heap.size, 1, none⟩ = some (.string l[k].acc) := by simp
          cases hx : idxO c l[k].acc with
          | none =>
            have HX : Hid (idxI c l[k].acc = -1) := by show idxI _ _ = _; simp [idxI, hx]
            have HF := hide (amt_bad hkl hw hx)
            clear hw hx
            go_wp2_with fail
            refine (indexFunc_amt c l[k].acc _ _ _ _ _ (by omega) (hcr.alloc _) hx1).mono ?_
            rintro e w2 ⟨rfl, hb2⟩
            rw [HX.out]
            have hb2 := bthen (hbr.alloc hsw _) (Nat.le_refl _) hb2
            go_wp2_with fail
            go_ret2
            exact ⟨_, by rw [HEV.out, HF.out]; rfl, by rw [← HLL.out, if_neg (by rw [HF.out]; decide)]; exact Own.nil _ _ _ _ _, hb2⟩
          | some i =>
            have hic : i < cn := by have := idxO_lt hx; have := Hc.out; omega
            have HX : Hid (idxI c l[k].acc = (i : Int)) := by show idxI _ _ = _; simp [idxI, hx]
            have HS := hide (amt_set hkl hw hx)
            have hal := amtTo_len (c := c) (l := l) (ent := ent) (cur := cur) k
            have hia : i < (amtTo c l ent cur k).length := by rw [hal, Hc.out]; exact hic
            have i0' : (0 : Int) ≤ (i : Int) := by omega
            have i1' : (i : Int) < (cn : Int) := by omega
            have i2' : ¬ ((i : Int) < 0) := by omega
            have hx3 : (wr.alloc (.cells #[.int .i64 l[k].ent, .string l[k].acc, .string l[k].cur, .int .i64 l[k].amt] 73)).cell? ⟨wr.heap.size, 3, none⟩ = some (.int .i64 l[k].amt) := by simp
            have hxs : wr.heap.size < (wr.alloc (.cells #[.int .i64 l[k].ent, .string l[k].acc, .string l[k].cur, .int .i64 l[k].amt] 73)).heap.size := by simp
            clear hw hx hal
            go_wp2_with fail
            refine (indexFunc_amt c l[k].acc _ _ _ _ _ (by omega) (hcr.alloc _) hx1).mono ?_
            rintro e w2 ⟨rfl, hb2⟩
            rw [HX.out]
            have y3 := below_cell hb2 hxs hx3
            have hown2 := (hown.alloc (.cells #[.int .i64 l[k].ent, .string l[k].acc, .string l[k].cur, .int .i64 l[k].amt] 73)).below hb2
            have hb2 := bthen (hbr.alloc hsw _) (Nat.le_refl _) hb2
            obtain ⟨c0, f0⟩ := hown2.cells intEnc2_ok i 0 _ hia rfl
            rw [Nat.mul_one, Nat.add_zero] at c0 f0
            go_wp2_with fail
            go_roundw
            case rel =>
              have hst := Own.store intEnc2_ok hown2 i 0 l[k].amt (.int .i64 l[k].amt) hia (by omega) rfl
              rw [Nat.mul_one, Nat.add_zero] at hst
              exact ⟨k + 1, by omega, by go_num, HNo.out.succ hkl HS.out.2, by rw [HS.out.1]; exact hst, hb2.setCell (Nat.le_refl _) _⟩
            case measure => simp [intOf]; omega
      · have h1 : (l[k].ent != ent) = true := by rw [bne_iff_ne]; exact he
        have HS := hide (amt_skip (c := c) (cur := cur) hkl (want_no1 he))
        clear he
        go_wp2_with fail
        go_roundw
        case rel => exact ⟨k + 1, by omega, by go_num, HNo.out.succ hkl HS.out.2, by rw [HS.out.1]; exact hown.alloc _, hbr.alloc hsw _⟩
        case measure => simp [intOf]; omega
    · have HF := hide (amt_good HNo.out (by have := Hn.out; omega))
      have hkn : k = n := by omega
      subst hkn
      go_wp2_with fail
      go_ret2
      exact ⟨_, by rw [HEV.out, HF.out]; rfl, by rw [← HLL.out, if_pos HF.out]; exact hown, hbr⟩
end Go.Proofs.YthmjkhlndphldaaGreatDoor
