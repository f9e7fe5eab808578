/- nat.itoa at base 10: a number of one word. -/
import Derived.Test.YtjojjicpdfmopaaGreatDoorStrF
import Derived.Defers
import Derived.Laws.BytesArg
import Derived.Lib.SlBytesConst
import Derived.Test.YtjojjicpdfmopaaGreatDoorRlnP
import Derived.Test.YtjojjicpdfmopaaGreatDoorBigK
import Derived.Test.YtjojjicpdfmopaaGreatDoorShelf
import Derived.BigQuiet
namespace Go.Proofs.YtjojjicpdfmopaaGreatDoor
open Go Go.RowKit
set_option linter.unusedVariables false

set_option maxRecDepth 100000 in
theorem getStack_any (w : World) : Calls Tryz.prog 107 #[] w fun e w' => e = .returned (.pointer (some ⟨w.heap.size, 0, none⟩)) ∧ w' = w.alloc (.cells #[.pointer none] 163) := by
  go_enter Tryz.func107, Tryz.ntmps107
  go_wp2_with fail
  go_ret
  exact ⟨rfl, rfl⟩
set_option maxRecDepth 100000 in
theorem stackFree_d (g : Nat) (u : FrameMode) (w : World) (h : w.cell? ⟨g, 0, none⟩ = some (.pointer none)) : CallsD Tryz.prog 108 #[.pointer (some ⟨g, 0, none⟩)] u w fun e u' w' => u' = u ∧ (e = .returned (.tuple #[]) ∧ w' = w) := by
  go_enter_d Tryz.func108, Tryz.ntmps108
  go_wp2_with fail
  go_end0
  exact ⟨rfl, rfl⟩
theorem nDigits_low {x : Nat} : x ≠ 0 → 10 ^ (Lib.nDigits x - 1) ≤ x := by
  induction x using Nat.strongRecOn with
  | _ x ih =>
    intro h
    by_cases h10 : x < 10
    · rw [Lib.nDigits_small h10]; simp; omega
    · rw [Lib.nDigits_big h10, Nat.add_sub_cancel]
      have := ih (x / 10) (by omega) (by omega)
      obtain ⟨k, hk⟩ : ∃ k, Lib.nDigits (x / 10) = k + 1 := ⟨Lib.nDigits (x / 10) - 1, by have := Lib.nDigits_pos (x / 10); omega⟩
      rw [hk] at this ⊢
      rw [Nat.add_sub_cancel] at this
      rw [Nat.pow_succ]
      omega
/-- a place ahead of the digits, and the first of them -/
theorem pad_ahead {m x i : Nat} (h : i < m - Lib.nDigits x) : padF m m x i = .int .u8 48 := by
  unfold padF digV
  have h1 : x / 10 ^ (m - 1 - i) = 0 := Nat.div_eq_of_lt (Nat.lt_of_lt_of_le (Lib.lt_pow_nDigits x) (Nat.pow_le_pow_right (by omega) (by omega)))
  rw [if_pos (by omega), h1]
  rfl
theorem pad_first {m x : Nat} (h : x ≠ 0) (hm : Lib.nDigits x ≤ m) : ∃ d : Nat, padF m m x (m - Lib.nDigits x) = .int .u8 (d : Int) ∧ 49 ≤ d ∧ d ≤ 57 := by
  have hp := Lib.nDigits_pos x
  unfold padF digV
  rw [if_pos (by omega), show m - 1 - (m - Lib.nDigits x) = Lib.nDigits x - 1 by omega]
  refine ⟨_, rfl, ?_, ?_⟩
  · have h1 := nDigits_low h
    have h2 := Lib.lt_pow_nDigits x
    obtain ⟨k, hk⟩ : ∃ k, Lib.nDigits x = k + 1 := ⟨Lib.nDigits x - 1, by omega⟩
    rw [hk, Nat.add_sub_cancel] at h1
    rw [hk, Nat.pow_succ] at h2
    rw [hk, Nat.add_sub_cancel]
    have h3 : 1 ≤ x / 10 ^ k := (Nat.le_div_iff_mul_le (Nat.pow_pos (by omega))).2 (by omega)
    have h4 : x / 10 ^ k < 10 := (Nat.div_lt_iff_lt_mul (Nat.pow_pos (by omega))).2 (by rw [Nat.mul_comm]; exact h2)
    omega
  · have := Nat.mod_lt (x / 10 ^ (Lib.nDigits x - 1)) (show 0 < 10 by omega)
    omega
theorem ten_f : floatOfInt .f64 10 = 4621819117588971520 := by kernel_rfl
theorem natSet_cell (a xb c : Nat) (w : World) (ha : a < W64) (h0 : a ≠ 0) (hcx : w.cell? ⟨xb, 0, none⟩ = some (.int .u64 (a : Int))) :
    Calls Tryz.prog 71 #[.slice none 0 0, .slice (some ⟨xb, 0, none⟩) 1 c] w fun e w' => ∃ A' c', e = .returned (.slice A' 1 c') ∧ Wds w' w.heap.size (.slice A' 1 c') (wordsOf a) ∧ Below w.heap.size w w' := by
  refine (natSet_from w.heap.size 0 0 none a xb 0 c w (Nat.le_refl _) ha h0 rfl ⟨Own.nil _ _ _ _ _, none, 0, rfl, by omega⟩ hcx).mono ?_
  rintro e w' ⟨V', rfl, hG⟩
  obtain ⟨A', c', e, _⟩ := hG.wds.cap
  rw [wordsOf_1 h0 ha] at e
  have e : V' = .slice A' 1 c' := e
  subst e
  exact ⟨A', c', rfl, hG.wds, ⟨hG.grown.os, hG.grown.tape, hG.grown.output, hG.grown.size, fun i hi => hG.grown.block i hi (by simp [Value.ownBlock])⟩⟩
theorem u8_info : (Tryz.prog.info? 5).map (fun i => (i.zero, i.size, i.bytes)) = some (some (.int .u8 0), 1, 1) := by kernel_rfl
set_option maxHeartbeats 4000000 in
set_option maxRecDepth 100000 in
theorem itoa_ten (xb c x : Nat) (w : World) (hx : x < W64) (hx0 : x ≠ 0) (hxw : w.cell? ⟨xb, 0, none⟩ = some (.int .u64 (x : Int))) (hb : xb < w.heap.size) (hl : w.cell? ⟨2, 0, none⟩ = some (.int .i64 8)) :
    Calls Tryz.prog 72 #[.slice (some ⟨xb, 0, none⟩) 1 c, .bool false, .int .i64 10] w fun e w' =>
      ∃ g m i : Nat, e = .returned (.slice (some ⟨g, i, none⟩) (m - i) (m - i)) ∧ w.heap.size ≤ g ∧ x < 10 ^ m ∧ i = m - Lib.nDigits x ∧ VRow w' g 5 m (padF m m x) ∧ Below w.heap.size w w' := by
  have tf := ten_f
  have HB := hide (fun W (h : W.cell? ⟨xb, 0, none⟩ = some (.int .u64 (x : Int))) => bitLen_one xb c x W hx hx0 h)
  have HX := hide hx
  have HX0 := hide hx0
  clear hx hx0
  go_enter_defers Tryz.func72, Tryz.ntmps72
  go_wp2_with fail
  refine (HB.out _ hxw).mono ?_
  rintro e w1 ⟨L, rfl, hL, hxL, n1, rfl⟩
  obtain ⟨f, n, hf1, hf2, hn, hpw⟩ := dq_some (b := L) (by omega)
  have g1 := fun W : World => run_float_arith (P := Tryz.prog) W .quo 139 .f64 _ _ _ hf1
  have g2 := fun W : World => run_convert_float_int (P := Tryz.prog) W 139 3 .f64 .i64 f n (by kernel_rfl) Tryz.underlying3 hf2
  obtain ⟨m, hm⟩ : ∃ m : Nat, m = n + 1 := ⟨_, rfl⟩
  have hw : IntKind.i64.wrap ((n : Int) + 1) = (m : Int) := by simp [IntKind.wrap, IntKind.bits, IntKind.signed]; omega
  have hm0 : 0 < m := by omega
  have hm20 : (m : Int) ≤ 20 := by omega
  obtain ⟨i0, hi0, hz0, hz1, hz2⟩ := info_parts u8_info
  have hmk := run_mk 36 5 i0 (.int .u8 0) Tryz.underlying36 hi0 hz0 m (by rw [hz2]; omega) (by omega)
  simp only [hz1, Nat.mul_one, show (Value.int .u8 0).cells = #[.int .u8 0] from rfl, madeCells_one] at hmk
  have hn1 : bits BinOp.and IntKind.u64 10 18446744073709551606 = 2 := by kernel_rfl
  have HXM := hide (show x < 10 ^ m by rw [hm]; exact Nat.lt_of_lt_of_le hxL hpw)
  clear hpw hxL hL hn hm
  go_wp2_with fail
  refine (log2U_ten _).mono ?_
  rintro e w1 ⟨rfl, rfl⟩
  go_wp2_with fail
  obtain ⟨w2, hw2⟩ : ∃ w2, w2 = (w.drewN n1).alloc (.cells (Array.replicate m (.int .u8 0)) 5) := ⟨_, rfl⟩
  have hR2 : VRow w2 w.heap.size 5 m (fun _ => .int .u8 0) := by rw [hw2]; exact VRow.made (w.drewN n1) _ m _
  have hb2 : Below w.heap.size w w2 := by rw [hw2]; exact (bdrewN (Below.refl _ w) n1).alloc (Nat.le_refl _) _
  have hs2 : w2.heap.size = w.heap.size + 1 := by rw [hw2]; simp
  rw [← hw2]
  clear hw2 hmk g1 g2 hf1 hf2 tf
  refine (getStack_any _).mono ?_
  rintro e w3 ⟨rfl, hw3⟩
  have hb3 : Below w2.heap.size w2 w3 := by rw [hw3]; exact (Below.refl _ w2).alloc (Nat.le_refl _) _
  have hS3 : w3.cell? ⟨w2.heap.size, 0, none⟩ = some (.pointer none) := by rw [hw3]; simp
  have hs3 : w3.heap.size = w.heap.size + 2 := by rw [hw3]; simp; omega
  have hR3 := hR2.below hb3
  have hbw3 : Below w.heap.size w w3 := bthen hb2 (Nat.le_refl _) hb3
  have hl3 := below_cell hbw3 (World.block_lt_of_cell? _ _ hl) hl
  have hx3 := below_cell hbw3 (World.block_lt_of_cell? _ _ hxw) hxw
  clear hw3 hR2 hb2 hb3 hl hxw
  go_wp2_with fail
  refine (maxPow_ten _).mono ?_
  rintro e w4 ⟨rfl, rfl⟩
  go_wp2_with fail
  refine (divisors_none _ 1 19 _ _ (by omega) hl3).mono ?_
  rintro e w4 ⟨rfl, n2, rfl⟩
  go_wp2_with fail
  refine (natSet_cell x xb c (w4.drewN n2) HX.out HX0.out hx3).mono ?_
  rintro e w5 ⟨A', c', rfl, hq, hb5⟩
  have hR5 := (hR3.drewN n2).below hb5
  have hbw5 : Below w.heap.size w w5 := (bdrewN hbw3 n2).trans (hb5.mono (show w.heap.size ≤ w4.heap.size by omega))
  have hS5 : w5.cell? ⟨w2.heap.size, 0, none⟩ = some (.pointer none) := below_cell hb5 (World.block_lt_of_cell? w4 _ hS3) hS3
  have hsz5 : w4.heap.size ≤ w5.heap.size := hb5.size
  rw [hs2] at hS5
  go_wp2_with fail
  refine (convWords_any w.heap.size w4.heap.size w.heap.size m x c' A' _ w5 (Nat.le_refl _) (by omega) hsz5 hm0 (by omega) HX0.out HX.out HXM.out hq hR5).mono ?_
  rintro e w6 ⟨rfl, hR6, hb6, hk6⟩
  have hS6 : w6.cell? ⟨w.heap.size + 1, 0, none⟩ = some (.pointer none) := (World.cell?_of_block (a := ⟨w.heap.size + 1, 0, none⟩) (hk6 (w.heap.size + 1) (by omega) (by omega))).trans hS5
  have hbw6 := hbw5.trans hb6
  clear hR3 hR5 hbw5 hbw3 hb5 hb6 hk6 hS5 hS3 hq hl3 hx3 HB
  go_wp2_with fail
  go_loopw [7] (fun iv wr => ∃ i : Nat, iv = .int .i64 (i : Int) ∧ i ≤ m - Lib.nDigits x ∧ wr = w6) (fun iv _ => m - (intOf iv).toNat)
  case atStart => exact ⟨0, rfl, by omega, rfl⟩
  case round =>
    obtain ⟨i, rfl, hi, rfl⟩ := hrel
    have hnm := nDigits_le HXM.out hm0
    have hnp := Lib.nDigits_pos x
    by_cases hA : i < m - Lib.nDigits x
    · have hc := hR6.cell i (by omega)
      rw [pad_ahead hA] at hc
      have c1 : (i : Int) < (m : Int) := by omega
      have c2 : IntKind.i64.wrap ((i : Int) + 1) = ((i + 1 : Nat) : Int) := by simp [IntKind.wrap, IntKind.bits, IntKind.signed]; omega
      have hA2 := hide hA
      have HNM := hide hnm
      clear hnm hnp hA hi
      go_wp2_with fail
      go_roundw
      case rel => exact ⟨i + 1, by simp, by have := hA2.out; omega, trivial⟩
      case measure => have := hA2.out; simp [intOf]; omega
    · obtain ⟨d, hd, hd1, hd2⟩ := pad_first HX0.out hnm
      have hie : i = m - Lib.nDigits x := by omega
      have hc := hR6.cell i (by omega)
      rw [hie, hd, ← hie] at hc
      have c1 : (i : Int) < (m : Int) := by omega
      have c3 : (i : Int) ≤ (m : Int) := by omega
      have c4 : ((d : Int) == 48) = false := by rw [beq_eq_false_iff_ne]; omega
      have c5 : (m : Int) ≤ 9223372036854775807 := by omega
      have c6 : ¬ m = i := by omega
      have HIE := hide hie
      clear hnm hnp hA hi hd hie
      go_wp2_with fail
      refine leaves_cons (f := 108) (args := #[.pointer (some ⟨w.heap.size + 1, 0, none⟩)]) (by simp) (by simp [go_sem]) ?_
      refine (stackFree_d _ .returning _ hS6).mono ?_
      rintro e u' w'' ⟨rfl, rfl, rfl⟩
      exact ⟨_, results_tmp rfl _ _ _, _, m, i, rfl, Nat.le_refl _, HXM.out, HIE.out, hR6, hbw6⟩
end Go.Proofs.YtjojjicpdfmopaaGreatDoor

namespace Go.Proofs.YtjojjicpdfmopaaGreatDoor
open Go Go.RowKit
set_option linter.unusedVariables false

/-- the digits of a number as a string -/
def decS (x : Nat) : ByteArray := ⟨(Lib.decDigits x).toArray⟩
theorem padF_dec {m x i j : Nat} (hi : i = m - Lib.nDigits x) (hx : x < 10 ^ m) (hm : 0 < m) (hj : j < Lib.nDigits x) : ∃ b : UInt8, (Lib.decDigits x)[j]? = some b ∧ padF m m x (i + j) = .int .u8 (b.toNat : Int) := by
  have hn := nDigits_le hx hm
  refine ⟨Lib.dg x (Lib.nDigits x - 1 - j), ?_, ?_⟩
  · rw [Lib.decDigits_eq]
    simp [hj]
  · unfold padF digV
    rw [if_pos (by omega), show m - 1 - (i + j) = Lib.nDigits x - 1 - j by omega]
    unfold Lib.dg
    have h10 : x / 10 ^ (Lib.nDigits x - 1 - j) % 10 < 10 := Nat.mod_lt _ (by omega)
    generalize x / 10 ^ (Lib.nDigits x - 1 - j) % 10 = d at h10
    have : ∀ d : Fin 10, (UInt8.ofNat (48 + d.val)).toNat = 48 + d.val := by decide
    rw [this ⟨d, h10⟩]
theorem dec_string {W : World} {g m i x : Nat} (hR : VRow W g 5 m (padF m m x)) (hi : i = m - Lib.nDigits x) (hx : x < 10 ^ m) (hm : 0 < m) :
    (convert 36 9 (.slice (some ⟨g, i, none⟩) (m - i) (m - i))).run Tryz.prog W = .ok (.string (decS x)) W := by
  have hn := nDigits_le hx hm
  have hl : (Lib.decDigits x).length = m - i := by rw [Lib.decDigits_length]; omega
  have h := run_convert_bytes_arg (P := Tryz.prog) W 36 5 Tryz.underlying36 Tryz.underlying5 g i (m - i) (m - i) ((Lib.decDigits x).map fun b => ((b.toNat : Nat) : Int)) (by rw [List.length_map, hl]) (fun j hj => by
    obtain ⟨b, hb, hF⟩ := padF_dec (j := j) hi hx hm (by omega)
    rw [hR.cell (i + j) (by omega), hF]
    simp [List.getD, hb]) 9 Tryz.underlying9
  have hs : strOfNums ((Lib.decDigits x).map fun b => ((b.toNat : Nat) : Int)) = decS x := by
    unfold strOfNums decS
    rw [List.map_map, show ((fun n : Int => UInt8.ofNat n.toNat) ∘ fun b : UInt8 => ((b.toNat : Nat) : Int)) = id by funext b; simp, List.map_id]
  rw [hs] at h
  exact h
theorem itoa_text (xb c x : Nat) (w : World) (hx : x < W64) (hx0 : x ≠ 0) (hxw : w.cell? ⟨xb, 0, none⟩ = some (.int .u64 (x : Int))) (hl : w.cell? ⟨2, 0, none⟩ = some (.int .i64 8)) :
    Calls Tryz.prog 72 #[.slice (some ⟨xb, 0, none⟩) 1 c, .bool false, .int .i64 10] w fun e w' =>
      ∃ p l, e = .returned (.slice p l l) ∧ (convert 36 9 (.slice p l l)).run Tryz.prog w' = .ok (.string (decS x)) w' ∧ Below w.heap.size w w' := by
  refine (itoa_ten xb c x w hx hx0 hxw (World.block_lt_of_cell? _ _ hxw) hl).mono ?_
  rintro e w3 ⟨g3, m, i, rfl, hg3, hxm, hi, hR, hb⟩
  refine ⟨_, _, rfl, dec_string hR hi hxm ?_, hb⟩
  rcases Nat.eq_zero_or_pos m with e | e
  · subst e; simp at hxm; omega
  · exact e
set_option maxHeartbeats 1000000 in
set_option maxRecDepth 100000 in
theorem text_ten (B g x : Nat) (V : Value) (w : World) (h : BigAt w B g V (x : Int)) (hx : x < W64) (hx0 : x ≠ 0) (hl : w.cell? ⟨2, 0, none⟩ = some (.int .i64 8)) :
    Calls Tryz.prog 42 #[.pointer (some ⟨g, 0, none⟩), .int .i64 10] w fun e w' => e = .returned (.string (decS x)) ∧ Below w.heap.size w w' := by
  have c0 := h.c0
  have c1 := h.c1
  have e0 : decide ((x : Int) < 0) = false := by simp
  rw [e0] at c0
  have hw := h.wds
  rw [Int.natAbs_natCast, wordsOf_1 hx0 hx] at hw
  obtain ⟨A, c, rfl, _⟩ := hw.cap
  obtain ⟨xb, rfl⟩ := hw.addr (by simp)
  obtain ⟨cur, hrow, hcs, hct, hBg, hlc, hcm⟩ := hw.row
  have hxw := cell_head hrow hct 0 (by simp)
  simp only [List.getElem_cons_zero] at hxw
  have hI := hide (itoa_text xb c x w.drew hx hx0 hxw hl)
  clear h hw hrow hcs hct hBg hlc hcm e0 hxw
  go_enter Tryz.func42, Tryz.ntmps42
  go_wp2_with fail
  go_region_law (go_simp; go_at_call 72; refine hI.out.mono ?_; rintro e w3 ⟨p, l, rfl, hD, hb⟩; have HBl := hide hb; clear hb)
  all_goals
    go_wp2_with fail
  all_goals
    go_ret
    exact ⟨rfl, (bdrewN (Below.refl _ w) 1).trans HBl.out⟩
set_option maxHeartbeats 1000000 in
set_option maxRecDepth 100000 in
theorem itoa_zero (A : Option Addr) (c : Nat) (w : World) :
    Calls Tryz.prog 72 #[.slice A 0 c, .bool false, .int .i64 10] w fun e w' =>
      ∃ p l, e = .returned (.slice p l l) ∧ (convert 36 9 (.slice p l l)).run Tryz.prog w' = .ok (.string (decS 0)) w' ∧ Below w.heap.size w w' := by
  have hcv := Lib.run_convert_bytes_const (P := Tryz.prog) w 36 5 #[.int .u8 48] 1 1 Tryz.underlying36 Tryz.underlying5
  have hS := run_convert_bytes_arg (P := Tryz.prog) (w.alloc (.cells #[.int .u8 48] 5 ((#[.int .u8 48] : Array Value).size, (#[.int .u8 48] : Array Value).size + 1))) 36 5 Tryz.underlying36 Tryz.underlying5 w.heap.size 0 1 1 [48] rfl (fun j hj => by
    obtain rfl : j = 0 := by omega
    exact (cell_of_row _ w.heap.size 0 #[.int .u8 48] _ _ (heap_alloc_new w _)).trans rfl) 9 Tryz.underlying9
  have hz : strOfNums [48] = decS 0 := by unfold strOfNums decS; rw [Lib.decDigits_one (by omega)]; rfl
  rw [hz] at hS
  have HS := hide hS
  clear hS
  go_enter_defers Tryz.func72, Tryz.ntmps72
  go_wp2_with fail
  exact ⟨_, results_tmp rfl _ _ _, _, _, rfl, HS.out, (Below.refl _ _).alloc (Nat.le_refl _) _⟩
set_option maxHeartbeats 1000000 in
set_option maxRecDepth 100000 in
theorem text_any (B g x : Nat) (V : Value) (w : World) (h : BigAt w B g V (x : Int)) (hx : x < W64) (hl : w.cell? ⟨2, 0, none⟩ = some (.int .i64 8)) :
    Calls Tryz.prog 42 #[.pointer (some ⟨g, 0, none⟩), .int .i64 10] w fun e w' => e = .returned (.string (decS x)) ∧ Below w.heap.size w w' := by
  by_cases hx0 : x = 0
  · subst hx0
    have c0 := h.c0
    have c1 := h.c1
    have e0 : decide (((0 : Nat) : Int) < 0) = false := by decide
    rw [e0] at c0
    obtain ⟨A, c, rfl, _⟩ := h.wds.cap
    have e1 : (wordsOf ((0 : Nat) : Int).natAbs).length = 0 := rfl
    rw [e1] at c1
    have hI := hide (itoa_zero A c w.drew)
    clear h e0 e1
    go_enter Tryz.func42, Tryz.ntmps42
    go_wp2_with fail
    go_region_law (go_simp; go_at_call 72; refine hI.out.mono ?_; rintro e w3 ⟨p, l, rfl, hD, hb⟩; have HBl := hide hb; clear hb)
    all_goals
      go_wp2_with fail
    all_goals
      go_ret
      exact ⟨rfl, (bdrewN (Below.refl _ w) 1).trans HBl.out⟩
  · exact text_ten B g x V w h hx hx0 hl
set_option maxRecDepth 100000 in
theorem string_any (B g x : Nat) (V : Value) (w : World) (h : BigAt w B g V (x : Int)) (hx : x < W64) (hl : w.cell? ⟨2, 0, none⟩ = some (.int .i64 8)) :
    Calls Tryz.prog 23 #[.pointer (some ⟨g, 0, none⟩)] w fun e w' => e = .returned (.string (decS x)) ∧ Below w.heap.size w w' := by
  have hT := hide (text_any B g x V w h hx hl)
  clear h hx hl
  go_enter Tryz.func23, Tryz.ntmps23
  go_wp2_with fail
  refine hT.out.mono ?_
  rintro e w1 ⟨rfl, hb⟩
  go_wp2_with fail
  go_ret
  exact ⟨rfl, hb⟩
end Go.Proofs.YtjojjicpdfmopaaGreatDoor

namespace Go.Proofs.YtjojjicpdfmopaaGreatDoor
open Go Go.RowKit
set_option linter.unusedVariables false

set_option maxRecDepth 100000 in
theorem places_any (p : Int) (w : World) : Calls Tryz.prog 20 #[.int .i64 p] w fun e w' => e = .returned (.bool (inB 0 6 p)) ∧ w' = w := by
  unfold inB
  by_cases h1 : 0 ≤ p
  · go_enter Tryz.func20, Tryz.ntmps20
    go_wp2_with fail
    go_ret
    exact ⟨by simp [h1], rfl⟩
  · go_enter Tryz.func20, Tryz.ntmps20
    go_wp2_with fail
    go_ret
    have h2 : decide (0 ≤ p) = false := decide_eq_false (by omega)
    rw [h2]
    exact ⟨rfl, rfl⟩
/-- what Show writes for an amount not below nought -/
def showS (x p : Nat) : ByteArray := ⟨(showL x p).toArray⟩
theorem repeat_zero (c : Nat) (w : World) (hc : c ≤ 7) : Calls Tryz.prog 24 #[.string ⟨#[48]⟩, .int .i64 (c : Int)] w fun e w' => e = .returned (.string ⟨(List.replicate c (48 : UInt8)).toArray⟩) ∧ Below w.heap.size w w' := by
  match c, hc with
  | 0, _ =>
    refine (Tryz.strings_Repeat_zero _ w).mono ?_
    rintro e w' ⟨rfl, rfl⟩
    exact ⟨rfl, Below.refl _ _⟩
  | 1, _ =>
    refine (Tryz.strings_Repeat_one _ w).mono ?_
    rintro e w' ⟨rfl, rfl⟩
    exact ⟨rfl, Below.refl _ _⟩
  | c + 2, hc =>
    refine (Tryz.strings_Repeat_main ⟨#[48]⟩ (c + 2) w (by omega) (by omega) (by show 1 * (c + 2) ≤ _; omega) (by decide)).mono ?_
    rintro e w' ⟨rfl, hb⟩
    have he : ∀ n : Nat, Lib.repeatL [(48 : UInt8)] n = List.replicate n 48 := by
      intro n
      induction n with
      | zero => rfl
      | succ n ih => rw [Lib.repeatL, ih, List.replicate_succ]; rfl
    exact ⟨by rw [show (⟨#[48]⟩ : ByteArray).data.toList = [48] from rfl, he], hb⟩
end Go.Proofs.YtjojjicpdfmopaaGreatDoor

namespace Go.Proofs.YtjojjicpdfmopaaGreatDoor
open Go Go.RowKit
set_option linter.unusedVariables false

theorem ba_of {s : ByteArray} {l : List UInt8} (h : s.data.toList = l) : s = ⟨l.toArray⟩ := by
  subst h
  obtain ⟨⟨a⟩⟩ := s
  rfl
set_option maxHeartbeats 1000000 in
set_option maxRecDepth 100000 in
theorem show_any (x p : Nat) (w : World) (hx : x ≤ 9223372036854775807) (hp : p ≤ 6) (hl : w.cell? ⟨2, 0, none⟩ = some (.int .i64 8)) :
    Calls Tryz.prog 8 #[.int .i64 (x : Int), .int .i64 (p : Int)] w fun e w' => e = .returned (.tuple #[.string (showS x p), .nilIface]) ∧ Below w.heap.size w w' := by
  have hin : inB 0 6 (p : Int) = true := by unfold inB; simp; omega
  go_enter Tryz.func8, Tryz.ntmps8
  go_wp2_with fail
  refine (places_any _ _).mono ?_
  rintro e w1 ⟨rfl, rfl⟩
  rw [hin]
  go_wp2_with fail
  refine (big1_new (x : Int) _ (by omega) (by omega)).mono ?_
  rintro e w2 ⟨g, XA, xn, xc, rfl, hX, hg, hk, hb⟩
  have hZ := (BigAt.new w1).below hb
  have hkz := (Blk.new w1 #[.bool false, .slice none 0 0] 65).below hb
  have hsz : w1.heap.size + 1 ≤ w2.heap.size := by have := hb.size; simpa using this
  have hb1 : Below w1.heap.size w1 w2 := ((Below.refl _ w1).alloc (Nat.le_refl _) _).trans (hb.mono (by simp))
  have hg1 : w1.heap.size + 1 ≤ g := by simpa using hg
  have hA := hide (bigAbs_new w1.heap.size w1.heap.size g xn xc (x : Int) XA w2 (by omega) hZ hX (by omega) hkz hk)
  have HB1 := hide hb1
  have hl2 := below_cell hb1 (World.block_lt_of_cell? _ _ hl) hl
  have HLS := hide (World.block_lt_of_cell? _ _ hl)
  clear hZ hkz hX hk hb hb1 hg hg1 hl
  go_wp2_with fail
  refine hA.out.mono ?_
  rintro e w3 ⟨rfl, V3, hB3, hb3⟩
  rw [Int.natAbs_natCast] at hB3
  have hb3' := hide (HB1.out.trans hb3)
  have hl3 : w3.cell? ⟨2, 0, none⟩ = some (.int .i64 8) := (hb3.cell (p := ⟨2, 0, none⟩) HLS.out).trans hl2
  go_wp2_with fail
  refine (string_any _ _ x V3 w3 hB3 (by unfold W64; omega) hl3).mono ?_
  rintro e w4 ⟨rfl, hb4⟩
  have hb4' := hide (bthen hb3'.out (Nat.le_refl _) hb4)
  have hsz4 : (decS x).size ≤ 20 := by
    show (Lib.decDigits x).toArray.size ≤ 20
    rw [List.size_toArray, Lib.decDigits_length]
    exact nDigits_le (Nat.lt_of_le_of_lt hx (by decide)) (by omega)
  have hmx : max 0 ((p : Int) + 1 - ((decS x).size : Int)) = ((p + 1 - (decS x).size : Nat) : Int) := by omega
  go_wp2_with fail
  refine (repeat_zero (p + 1 - (decS x).size) w4 (by omega)).mono ?_
  rintro e w5 ⟨rfl, hb5⟩
  have hb5' := hide (bthen hb4'.out (Nat.le_refl _) hb5)
  obtain ⟨R, hR⟩ : ∃ R : ByteArray, R = ⟨(List.replicate (p + 1 - (decS x).size) (48 : UInt8)).toArray⟩ := ⟨_, rfl⟩
  rw [← hR]
  have hRs : R.size = p + 1 - (decS x).size := by rw [hR]; show (List.toArray _).size = _; simp
  have c1 : ¬ (9223372036854775807 < R.size + (decS x).size) := by omega
  have hdl : (R ++ decS x).data.toList = List.replicate (p + 1 - (Lib.decDigits x).length) 48 ++ Lib.decDigits x := by
    rw [ByteArray.data_append, Array.toList_append, hR]
    show (List.toArray _).toList ++ (Lib.decDigits x).toArray.toList = _
    rfl
  have hds : (R ++ decS x).size = R.size + (decS x).size := by rw [ByteArray.size_append]
  have hdlo : p + 1 ≤ (R ++ decS x).size := by omega
  have hdhi : (R ++ decS x).size ≤ 30 := by omega
  have HDL := hide hdl
  clear hdl hR hds hRs hmx hsz4
  by_cases hp0 : p = 0
  · subst hp0
    go_wp2_with fail
    go_ret2
    refine ⟨?_, hb5'.out⟩
    rw [ba_of (HDL.out.trans (show _ = showL x 0 from rfl))]
    rfl
  · have hpp : 0 < (p : Int) := by omega
    go_wp2_with fail
    obtain ⟨dd, hdd⟩ : ∃ dd : ByteArray, dd = R ++ decS x := ⟨_, rfl⟩
    rw [← hdd] at hdlo hdhi HDL ⊢
    clear hdd c1
    have d0 : 0 ≤ (dd.size : Int) - (p : Int) := by omega
    have d1 : (dd.size : Int) - (p : Int) ≤ (dd.size : Int) := by omega
    have d2 : IntKind.i64.wrap ((dd.size : Int) - (p : Int)) = (dd.size : Int) - (p : Int) := IntWalk.i64_in _ (by omega)
    obtain ⟨q, hq⟩ : ∃ q : Nat, q = dd.size - p := ⟨_, rfl⟩
    have d3 : (dd.size : Int) - (p : Int) = (q : Int) := by omega
    go_quiet (fail)
    go_wp2_with fail
    go_ret2
    refine ⟨?_, bdrewN hb5'.out _⟩
    have hdl : dd.data.toList.length = dd.size := Array.length_toList
    have hf : dd.extract 0 (dd.size - p) ++ ⟨#[46]⟩ ++ dd.extract (dd.size - p) dd.size = showS x p := ba_of (by
      rw [ByteArray.data_append, ByteArray.data_append, ByteArray.data_extract, ByteArray.data_extract, Array.toList_append, Array.toList_append, Array.toList_extract, Array.toList_extract, List.extract_eq_take_drop, List.extract_eq_take_drop]
      unfold showL
      rw [if_neg hp0, ← HDL.out, hdl, List.drop_zero, Nat.sub_zero, List.append_assoc]
      congr 1
      show 46 :: _ = _
      congr 1
      show List.take (dd.size - (dd.size - p)) (List.drop (dd.size - p) dd.data.toList) = _
      rw [List.take_of_length_le]
      rw [List.length_drop, hdl]
      omega)
    rw [hf]
    rfl
end Go.Proofs.YtjojjicpdfmopaaGreatDoor
