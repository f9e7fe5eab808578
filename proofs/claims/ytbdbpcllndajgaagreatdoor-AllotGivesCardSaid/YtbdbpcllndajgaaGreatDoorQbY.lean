/- The digits of small numbers: dayref1.Digits, strconv.Itoa. -/
import Derived.Test.YtbdbpcllndajgaaGreatDoorQbX
import Derived.Laws.BytesArg
import Derived.Lib.ItoaNum
import Derived.Test.YtbdbpcllndajgaaGreatDoorEntX
import Derived.Test.YtbdbpcllndajgaaGreatDoorKnuX
import Derived.Deep.CutRange
import Derived.Deep.RegionLaw
import Derived.BigQuiet
import Derived.Deep.QuietTactic
namespace Go.Proofs.YtbdbpcllndajgaaGreatDoor
open Go Go.RowKit
set_option linter.unusedVariables false

theorem Rd.grownA {α : Type} {enc : α → List Value} {w w' : World} {sz n : Nat} {A : Option Addr} {l : List α} {row : Option Nat} (h : Rd w sz enc A n l) (hg : w.grownBy w' row) (hne : ∀ b off s, A = some ⟨b, off, s⟩ → some b ≠ row) : Rd w' sz enc A n l := by
  refine ⟨h.1, fun hn => ?_⟩
  obtain ⟨b, off, e, hc⟩ := h.2 hn
  exact ⟨b, off, e, fun i j u hi hu => hg.cell (hc i j u hi hu) (hne b off _ e)⟩
theorem qval_1 (x : Nat) : qval [x] = x := by simp [qval]
theorem x20 {x d m : Nat} (hx : x < 20) (hd : d = x / 10) (hm : m = x % 10) : bits BinOp.or IntKind.u64 0 (x : Int) = (x : Int) ∧ IntKind.u64.wrap ((x : Int).tdiv 10) = (d : Int) ∧ (x : Int).tmod 10 = (m : Int) ∧ (d : Int) % 4294967296 = (d : Int) ∧ (m : Int) % 4294967296 = (m : Int) := by
  have : ∀ x : Fin 20, bits BinOp.or IntKind.u64 0 (x.val : Int) = (x.val : Int) ∧ IntKind.u64.wrap ((x.val : Int).tdiv 10) = ((x.val / 10 : Nat) : Int) ∧ (x.val : Int).tmod 10 = ((x.val % 10 : Nat) : Int) ∧ ((x.val / 10 : Nat) : Int) % 4294967296 = ((x.val / 10 : Nat) : Int) ∧ ((x.val % 10 : Nat) : Int) % 4294967296 = ((x.val % 10 : Nat) : Int) := by decide +kernel
  subst hd hm
  exact this ⟨x, hx⟩
set_option maxRecDepth 100000 in
theorem qsmall1 (x d m : Nat) (hx : x < 20) (hd : d = x / 10) (hm : m = x % 10) (A : Option Addr) (c : Nat) (w : World) (ha : Rd w 1 uEnc A 1 [x]) :
    Calls Tryz.prog 127 #[.slice A 1 c, .int .u32 10] w
      fun e w' => ∃ A' c', e = .returned (.tuple #[.slice A' (qdigs d).length c', .int .u32 (m : Int)]) ∧ Rd w' 1 uEnc A' (qdigs d).length (qdigs d) ∧ (∀ b off s, A' = some ⟨b, off, s⟩ → w.heap.size ≤ b) ∧ Below w.heap.size w w' := by
  obtain ⟨b, off, rfl, hcs⟩ := ha.2 (by omega)
  have q0 := hcs 0 0 _ (by simp) rfl
  simp only [List.getElem_cons_zero, Nat.zero_mul, Nat.add_zero] at q0
  clear hcs
  have hmk : ∀ w : World, (Instr.makeSlice 77 (.int .i64 1) (.int .i64 1)).run Tryz.prog w = .ok (.slice (some ⟨w.heap.size, 0, none⟩) 1 1) (w.alloc (.cells (Array.replicate 1 (.int .u32 0)) 179)) := fun w => mk_u32 1 (by omega) w
  have hlt := World.block_lt_of_cell? _ _ q0
  obtain ⟨f1, f2, f3, f4, f5⟩ := x20 hx hd hm
  have f6 : (x : Int) / 10 = (d : Int) := by omega
  have f7 : (x : Int) % 10 = (m : Int) := by omega
  have HD := hide hd
  have HM := hide hm
  clear hd hm
  go_enter Tryz.func127, Tryz.ntmps127
  go_wp2_with fail
  have hbx : Below w.heap.size w (w.alloc (.cells #[.int .u32 0] 179)) := (Below.refl _ _).alloc (Nat.le_refl _) _
  have hrow : VRow (w.alloc (.cells #[.int .u32 0] 179)) w.heap.size 179 1 (fun _ => .int .u32 0) := VRow.made w 179 1 (.int .u32 0)
  have z0 := hrow.cell 0 (by omega)
  have zf := hrow.frozen 0
  have y0 := below_cell hbx hlt q0
  have hrow0 := hrow.congr (F' := uF []) (fun j _ => by unfold uF; simp)
  generalize (w.alloc (.cells #[.int .u32 0] 179)) = w1 at hbx z0 zf y0 hrow0 ⊢
  go_loopw [7, 8] (fun rv iv wr => (iv = .int .i64 0 ∧ rv = .int .u64 0 ∧ wr = w1) ∨ (iv = .int .i64 (-1) ∧ rv = .int .u64 (m : Int) ∧ wr = w1.setCell ⟨w.heap.size, 0, none⟩ (.int .u32 (d : Int)))) (fun _ iv _ => (intOf iv + 1).toNat)
  case atStart => exact .inl ⟨rfl, rfl, rfl⟩
  case round =>
    rcases hrel with ⟨rfl, rfl, rfl⟩ | ⟨rfl, rfl, rfl⟩
    · go_wp2_with fail
      go_roundw
      case rel => exact .inr ⟨rfl, by first | rfl | trivial | simp, by first | rfl | trivial | simp⟩
      case measure => simp [intOf]
    · go_wp2_with fail
      have hr2 := (uF_set (i := 0) (d := d) hrow0 rfl rfl).words rfl
      refine (qtrim_any [d] (by intro y hy; simp at hy; subst hy; have := HD.out; omega) _ 1 1 _ hr2 (by omega) (by omega)).mono ?_
      rintro e w2 ⟨rfl, hr, n, rfl⟩
      rw [qval_1] at hr ⊢
      go_wp2_with fail
      go_ret2
      exact ⟨_, _, rfl, hr, (fun b off s e => by injection e with e; injection e with e; omega), bdrewN (hbx.setCell (Nat.le_refl _) _) n⟩

set_option maxRecDepth 100000 in
theorem qtwin_any (l : List Nat) (A : Option Addr) (n c : Nat) (w : World) (h : Rd w 1 uEnc A n l) (hA : A = none → c = 0) (hn : n ≤ 1000) :
    Calls Tryz.prog 80 #[.slice A n c] w fun e w' => ∃ A' c', e = .returned (.slice A' n c') ∧ Rd w' 1 uEnc A' n l ∧ Below w.heap.size w w' := by
  obtain ⟨i0, hi0, hz0, hz1, hz2⟩ := info_parts u32_info
  have hln := h.1
  have HL := hide hln
  clear hln
  go_enter Tryz.func80, Tryz.ntmps80
  go_wp2_with (first | (at_builtin; go_loud (refine wpList_push _ rfl _ _ 77 rfl w.heap.size 179 i0 (.int .u32 0) 1 4 Tryz.underlying77 hi0 hz0 hz1 hz2 rfl (by decide) uEnc_ok _ ([] : List Nat) rfl (Own.nil _ _ _ _ _) _ n c l rfl h hA (by simp [maxLen]; omega) (by simp; omega) (Nat.le_refl _) ?_); intro v' w3 hown3 hg3 hat3))
  go_ret
  rw [List.nil_append] at hown3
  obtain ⟨A', c', rfl, _, _⟩ := hown3.form
  have hr := hown3.rd uEnc_ok
  rw [HL.out] at hr ⊢
  exact ⟨A', c', rfl, hr, (Below.refl _ _).grown hg3 (Nat.le_refl _) (fun q e => by have e' : (none : Option Nat) = some q := e; cases e')⟩

def byEnc (n : Nat) : List Value := [.int .u8 (n : Int)]
theorem byEnc_ok : Enc 1 byEnc := ⟨fun _ => rfl, by
  intro a u hu
  simp only [byEnc, List.mem_singleton] at hu
  subst hu; rfl⟩
theorem u8_info : (Tryz.prog.info? 5).map (fun i => (i.zero, i.size, i.bytes)) = some (some (.int .u8 0), 1, 1) := by kernel_rfl
def lenV : Value → Nat | .slice _ n _ => n | _ => 0
/-- a call's own bytes, as a text -/
theorem str_of_own {w : World} {B n c : Nat} {A : Option Addr} {l : List Nat} (h : Own w B 5 1 byEnc (.slice A n c) l) (hl : 0 < n) :
    (convert 169 9 (.slice A n c)).run Tryz.prog w = .ok (.string (strOfNums (l.map fun (y : Nat) => (y : Int)))) w := by
  have hr := h.rd byEnc_ok
  obtain ⟨b, off, rfl, hc⟩ := hr.2 hl
  refine run_convert_bytes_arg w 169 5 Tryz.underlying169 Tryz.underlying5 b off n c (l.map fun (y : Nat) => (y : Int)) (by simp [hr.1]) (fun i hi => ?_) 9 Tryz.underlying9
  have := hc i 0 _ (by rw [hr.1]; exact hi) rfl
  rw [Nat.mul_one, Nat.add_zero] at this
  rw [this]
  have hil : i < l.length := by rw [hr.1]; exact hi
  simp [List.getD, List.getElem?_map, List.getElem?_eq_getElem hil]

/-- the digits so far, the last first -/
def dsTo (x k : Nat) : List Nat := (List.range k).map fun t => 48 + x / 10 ^ t % 10
theorem dsTo_succ (x k : Nat) : dsTo x (k + 1) = dsTo x k ++ [48 + x / 10 ^ k % 10] := by
  unfold dsTo
  rw [List.range_succ, List.map_append]; rfl
theorem dsTo_len (x k : Nat) : (dsTo x k).length = k := by simp [dsTo]
theorem pow_next (x k : Nat) : x / 10 ^ (k + 1) = x / 10 ^ k / 10 := by rw [Nat.pow_succ, Nat.div_div_eq_div_mul]
theorem dec_1 {x : Nat} (h : x < 10) : strOfNums ((dsTo x 1).map fun (y : Nat) => (y : Int)) = ⟨(Lib.decDigits x).toArray⟩ := by
  rw [Lib.decDigits_one h]
  have : ∀ x : Fin 10, strOfNums ((dsTo x.val 1).map fun (y : Nat) => (y : Int)) = ⟨[UInt8.ofNat (48 + x.val)].toArray⟩ := by decide +kernel
  exact this ⟨x, h⟩
theorem dec_2 {x : Nat} (h : ¬ x < 10) (h2 : x < 20) : strOfNums (([48 + x / 10, 48 + x % 10] : List Nat).map fun (y : Nat) => (y : Int)) = ⟨(Lib.decDigits x).toArray⟩ := by
  rw [Lib.decDigits_two h (by omega)]
  have : ∀ x : Fin 20, strOfNums (([48 + x.val / 10, 48 + x.val % 10] : List Nat).map fun (y : Nat) => (y : Int)) = ⟨[UInt8.ofNat (48 + x.val / 10), UInt8.ofNat (48 + x.val % 10)].toArray⟩ := by decide +kernel
  exact this ⟨x, h2⟩

set_option maxHeartbeats 1000000 in
set_option maxRecDepth 100000 in
theorem qtext20 {w : World} {B g x : Nat} (hx : x < 20) (h : QAt w B g (x : Int)) :
    Calls Tryz.prog 85 #[.pointer (some ⟨g, 0, none⟩), .int .i64 10] w fun e w' => e = .returned (.string ⟨(Lib.decDigits x).toArray⟩) ∧ Below w.heap.size w w' := by
  have c0 := h.c0
  obtain ⟨A, c, c1, ha, hne, hc⟩ := h.wds
  have hd0 : decide ((x : Int) < 0) = false := decide_eq_false (by omega)
  rw [hd0] at c0
  rw [show ((x : Int)).natAbs = x by simp] at c1 ha hc
  have hgl := h.lt
  obtain ⟨i0, hi0, hz0, hz1, hz2⟩ := info_parts u8_info
  clear hd0
  by_cases h0 : x = 0
  · subst h0
    rw [qdigs_0] at c1 ha hc
    have HD : Hid ((⟨(Lib.decDigits 0).toArray⟩ : ByteArray) = ⟨#[48]⟩) := by show _ = _; rw [Lib.decDigits_one (by omega)]; rfl
    clear h
    go_enter Tryz.func85, Tryz.ntmps85
    go_wp2_with fail
    go_ret
    exact ⟨by rw [HD.out]; rfl, Below.refl _ _⟩
  · have hq : qdigs x = [x] := by rw [qdigs_s h0, show x % 4294967296 = x by omega, show x / 4294967296 = 0 by omega, qdigs_0]
    rw [hq] at c1 ha hc
    have hA : A = none → c = 0 := by
      intro e
      obtain ⟨b, off, e2, _⟩ := ha.2 (by simp)
      rw [e] at e2; cases e2
    have H0 := hide h0
    have HQ := hide hq
    clear h h0 hq
    go_enter Tryz.func85, Tryz.ntmps85
    go_wp2_with fail
    refine (qtwin_any [x] A 1 c _ ha hA (by omega)).mono ?_
    rintro e w1 ⟨A1, cc1, rfl, hr1, hb1⟩
    go_wp2_with fail
    go_loopw [5, 6] (fun bv av wr => ∃ (k : Nat) (A' : Option Addr) (c' : Nat), k ≤ 2 ∧ av = .slice A' (qdigs (x / 10 ^ k)).length c' ∧ Rd wr 1 uEnc A' (qdigs (x / 10 ^ k)).length (qdigs (x / 10 ^ k)) ∧ Own wr w.heap.size 5 1 byEnc bv (dsTo x k) ∧ Below w.heap.size w wr ∧ Hid (k = 0 ∨ x / 10 ^ (k - 1) ≠ 0)) (fun bv _ _ => 3 - lenV bv)
    case atStart =>
      have e0 : qdigs (x / 10 ^ 0) = [x] := by rw [Nat.pow_zero, Nat.div_one]; exact HQ.out
      refine ⟨0, A1, cc1, by omega, by rw [e0]; rfl, by rw [e0]; exact hr1, Own.nil _ _ _ _ _, hb1, .inl rfl⟩
    case round =>
      obtain ⟨k, A', c', hk, rfl, hr, hown, hbr, hlast⟩ := hrel
      have c0r := below_cell hbr hgl c0
      have hsz := hbr.size
      obtain ⟨VA, vc, rfl, hvc, hvm⟩ := hown.form
      rw [dsTo_len] at hown hvc ⊢
      by_cases hy : x / 10 ^ k = 0
      · rw [hy, qdigs_0] at hr ⊢
        have hk12 : (k = 1 ∧ x < 10) ∨ (k = 2 ∧ ¬ x < 10) := by
          have h0 := H0.out
          have hl := hlast.out
          have : k = 0 ∨ k = 1 ∨ k = 2 := by omega
          rcases this with rfl | rfl | rfl
          · rw [Nat.pow_zero, Nat.div_one] at hy; exact absurd hy h0
          · rw [Nat.pow_one] at hy; exact .inl ⟨rfl, by omega⟩
          · rcases hl with hl | hl
            · cases hl
            · rw [show 2 - 1 = 1 from rfl, Nat.pow_one] at hl; exact .inr ⟨rfl, by omega⟩
        clear hy
        rcases hk12 with ⟨rfl, hx1⟩ | ⟨rfl, hx1⟩
        · have hs := str_of_own hown (by omega)
          rw [dec_1 hx1] at hs
          obtain ⟨ds, hds⟩ : ∃ ds : ByteArray, ds = ⟨(Lib.decDigits x).toArray⟩ := ⟨_, rfl⟩
          rw [← hds] at hs
          have HDS := hide hds
          clear hds hx1
          go_wp2_with fail
          go_loopw [8, 9] (fun iv jv wz => iv = .int .i64 0 ∧ jv = .int .i64 0 ∧ wz = wr) (fun _ _ _ => 0)
          case atStart => exact ⟨rfl, rfl, rfl⟩
          case round =>
            obtain ⟨rfl, rfl, rfl⟩ := hrel
            go_wp2_with fail
            go_ret
            exact ⟨by show Ending.returned (Value.string ds) = _; rw [HDS.out], hbr⟩
        · obtain ⟨gb, hVA⟩ : ∃ gb, VA = some ⟨gb, 0, none⟩ := by
            rcases hown.2 with ⟨hv, h0⟩ | ⟨g', cap, cur, hv, _⟩
            · rw [dsTo_len] at h0; cases h0
            · injection hv with e1; exact ⟨g', e1⟩
          subst hVA
          have hd2 : dsTo x 2 = [48 + x % 10, 48 + x / 10] := by
            unfold dsTo
            simp [List.range_succ]
            omega
          rw [hd2] at hown
          have k0 := hown.cells byEnc_ok 0 0 (.int .u8 ((48 + x % 10 : Nat) : Int)) (by simp) rfl
          have k1 := hown.cells byEnc_ok 1 0 (.int .u8 ((48 + x / 10 : Nat) : Int)) (by simp) rfl
          have o1 := hown.store byEnc_ok 0 0 (48 + x / 10) (.int .u8 ((48 + x / 10 : Nat) : Int)) (by simp) (by omega) rfl
          have o2 := o1.store byEnc_ok 1 0 (48 + x % 10) (.int .u8 ((48 + x % 10 : Nat) : Int)) (by simp) (by omega) rfl
          have hgB := (hown.block gb rfl).1
          simp only [Nat.zero_mul, Nat.add_zero, Nat.one_mul, List.set_cons_zero, List.set_cons_succ] at k0 k1 o1 o2
          have hs := str_of_own o2 (by omega)
          rw [dec_2 hx1 hx] at hs
          obtain ⟨ds, hds⟩ : ∃ ds : ByteArray, ds = ⟨(Lib.decDigits x).toArray⟩ := ⟨_, rfl⟩
          rw [← hds] at hs
          have HDS := hide hds
          obtain ⟨d0, hd0⟩ : ∃ d0, d0 = 48 + x % 10 := ⟨_, rfl⟩
          obtain ⟨d1, hd1⟩ : ∃ d1, d1 = 48 + x / 10 := ⟨_, rfl⟩
          rw [← hd0] at k0 hs
          rw [← hd1] at k1 hs
          obtain ⟨k0, k0f⟩ := k0
          obtain ⟨k1, k1f⟩ := k1
          clear hds hx1 hd2 hd0 hd1 o1 o2
          go_wp2_with fail
          go_loopw [8, 9] (fun iv jv wz => (iv = .int .i64 0 ∧ jv = .int .i64 1 ∧ wz = wr) ∨ (iv = .int .i64 1 ∧ jv = .int .i64 0 ∧ wz = (wr.setCell ⟨gb, 0, none⟩ (.int .u8 (d1 : Int))).setCell ⟨gb, 1, none⟩ (.int .u8 (d0 : Int)))) (fun iv jv _ => (intOf jv - intOf iv + 1).toNat)
          case atStart => exact .inl ⟨rfl, rfl, rfl⟩
          case round =>
            rcases hrel with ⟨rfl, rfl, rfl⟩ | ⟨rfl, rfl, rfl⟩
            · go_wp2_with fail
              go_roundw
              case rel => exact .inr ⟨rfl, rfl, by first | rfl | trivial | simp⟩
              case measure => simp [intOf]
            · go_wp2_with fail
              go_ret
              exact ⟨by show Ending.returned (Value.string ds) = _; rw [HDS.out], (hbr.setCell hgB _).setCell hgB _⟩
      · have hk1 : k ≤ 1 := by
          have : k = 0 ∨ k = 1 ∨ k = 2 := by omega
          rcases this with rfl | rfl | rfl
          · omega
          · omega
          · exfalso; apply hy; rw [show 10 ^ 2 = 100 from rfl]; omega
        obtain ⟨y, hyx⟩ : ∃ y, y = x / 10 ^ k := ⟨_, rfl⟩
        have hy20 : y < 20 := by rw [hyx]; exact Nat.lt_of_le_of_lt (Nat.div_le_self _ _) hx
        rw [← hyx] at hr hy ⊢
        have hqy : qdigs y = [y] := by rw [qdigs_s hy, show y / 4294967296 = 0 by omega, qdigs_0, show y % 4294967296 = y by omega]
        rw [hqy] at hr ⊢
        obtain ⟨d, hd⟩ : ∃ d, d = y / 10 := ⟨_, rfl⟩
        obtain ⟨m, hm⟩ : ∃ m, m = y % 10 := ⟨_, rfl⟩
        have hm9 : (m : Int) < 10 := by omega
        have hm8 : IntKind.u32.wrap (48 + (m : Int)) = 48 + (m : Int) := by simp [IntKind.wrap, IntKind.bits, IntKind.signed]; omega
        have hm7 : (48 + (m : Int)) % 256 = 48 + (m : Int) := by omega
        have hm6 : (48 + (m : Int)) % 4294967296 = 48 + (m : Int) := by omega
        have HS : Hid (dsTo x (k + 1) = dsTo x k ++ [48 + m]) := by show _ = _; rw [dsTo_succ, ← hyx, ← hm]
        have HN : Hid (x / 10 ^ (k + 1) = d) := by show _ = _; rw [pow_next, ← hyx, hd]
        have HY : Hid (x / 10 ^ k ≠ 0) := by show _ ≠ _; rw [← hyx]; exact hy
        have HD := hide hd
        have HM := hide hm
        have hln := dsTo_len x k
        have HLN := hide hln
        clear hd hm hyx hy hqy hln hlast
        go_wp2_with fail
        refine (qsmall1 y d m hy20 HD.out HM.out _ _ _ hr).mono ?_
        rintro e w2 ⟨A2, c2, rfl, hr2, hA2, hb2⟩
        have hown2 := hown.below hb2
        have hb2 := bthen hbr (Nat.le_refl _) hb2
        have hsz2 := hb2.size
        have hr3 := hr2
        go_wp2_with (first | (at_builtin; go_loud (refine wpList_push _ rfl _ _ 169 rfl w.heap.size 5 i0 (.int .u8 0) 1 1 Tryz.underlying169 hi0 hz0 hz1 hz2 rfl (by decide) byEnc_ok _ (dsTo x k) rfl (hown2.alloc _) _ 1 1 [48 + m] rfl (Rd.boxed _ byEnc_ok (48 + m) _ _ (by simp [byEnc])) (by intro h; cases h) (by rw [HLN.out]; simp only [maxLen]; omega) (by rw [HLN.out]; omega) (by simp; omega) ?_); intro v' w3 hown3 hg3 hat3))
        go_roundw
        case rel => exact ⟨k + 1, A2, c2, by omega, by rw [HN.out], by rw [HN.out]; exact (hr2.below ((Below.refl _ _).alloc (Nat.le_refl _) _)).grownA hg3 (fun b off s e e2 => by have := hA2 b off s e; have := (hown.block b e2.symm).2; omega), by rw [HS.out]; exact hown3, (hb2.alloc hsz2 _).grown hg3 (by simp; omega) (fun q e => (hown2.block q e).1), .inr (by rw [Nat.add_sub_cancel]; exact HY.out)⟩
        case measure =>
          obtain ⟨A3, c3, e3, _⟩ := hown3.form
          rw [e3, List.length_append, HLN.out]
          simp only [lenV, List.length_cons, List.length_nil]
          omega

theorem qstr20 {w : World} {B g x : Nat} (hx : x < 20) (h : QAt w B g (x : Int)) :
    Calls Tryz.prog 47 #[.pointer (some ⟨g, 0, none⟩)] w fun e w' => e = .returned (.string ⟨(Lib.decDigits x).toArray⟩) ∧ Below w.heap.size w w' := by
  go_enter Tryz.func47, Tryz.ntmps47
  go_wp2_with fail
  refine (qtext20 hx h).mono ?_
  rintro e w2 ⟨rfl, hb2⟩
  go_wp2_with fail
  go_ret
  exact ⟨rfl, hb2⟩
theorem digits20 (x : Nat) (hx : x < 20) (w : World) :
    Calls Tryz.prog 21 #[.int .i64 (x : Int)] w fun e w' => e = .returned (.string ⟨(Lib.decDigits x).toArray⟩) ∧ Below w.heap.size w w' := by
  go_enter Tryz.func21, Tryz.ntmps21
  go_wp2_with fail
  refine (refBig_any (x : Int) _ (by omega) (by omega)).mono ?_
  rintro e w1 ⟨g, rfl, hQ, hb1⟩
  go_wp2_with fail
  refine (qstr20 hx hQ).mono ?_
  rintro e w2 ⟨rfl, hb2⟩
  go_wp2_with fail
  go_ret
  exact ⟨rfl, bthen hb1 (Nat.le_refl _) hb2⟩
end Go.Proofs.YtbdbpcllndajgaaGreatDoor

namespace Go.Proofs.YtbdbpcllndajgaaGreatDoor
open Go Go.RowKit
set_option linter.unusedVariables false

/-- what a reckoning of words hands back: the words of v, in memory of its own -/
def GivesW (w : World) (v : Nat) (e : Ending) (w' : World) : Prop :=
  ∃ A c, e = .returned (.slice A (qdigs v).length c) ∧ Rd w' 1 uEnc A (qdigs v).length (qdigs v) ∧ (∀ a o s, A = some ⟨a, o, s⟩ → w.heap.size ≤ a) ∧ (qdigs v).length ≤ c ∧ Below w.heap.size w w'
theorem sgn_mul2 (x y : Int) : sgn (decide (x < 0) != decide (y < 0)) (x.natAbs * y.natAbs) = x * y := by
  obtain ⟨p, hp⟩ : ∃ p, p = x.natAbs := ⟨_, rfl⟩
  obtain ⟨q, hq⟩ : ∃ q, q = y.natAbs := ⟨_, rfl⟩
  rw [← hp, ← hq]
  unfold sgn
  by_cases h1 : x < 0 <;> by_cases h2 : y < 0
  · rw [decide_eq_true h1, decide_eq_true h2, if_neg (by decide), show x = -(p : Int) from by omega, show y = -(q : Int) from by omega, Int.neg_mul_neg]
    exact Int.natCast_mul p q
  · rw [decide_eq_true h1, decide_eq_false h2, if_pos (by decide), show x = -(p : Int) from by omega, show y = (q : Int) from by omega, Int.neg_mul, Int.natCast_mul]
  · rw [decide_eq_false h1, decide_eq_true h2, if_pos (by decide), show x = (p : Int) from by omega, show y = -(q : Int) from by omega, Int.mul_neg, Int.natCast_mul]
  · rw [decide_eq_false h1, decide_eq_false h2, if_neg (by decide), show x = (p : Int) from by omega, show y = (q : Int) from by omega]
    exact Int.natCast_mul p q
theorem sgn_tdiv2 (x : Int) (p : Nat) : sgn (decide (x < 0) != false) (x.natAbs / p) = x.tdiv (p : Int) := by
  obtain ⟨m, hm⟩ : ∃ m, m = x.natAbs := ⟨_, rfl⟩
  rw [← hm, Bool.bne_false]
  unfold sgn
  by_cases h1 : x < 0
  · rw [decide_eq_true h1, if_pos rfl, show x = -(m : Int) from by omega, Int.neg_tdiv, ← Int.ofNat_tdiv]
  · rw [decide_eq_false h1, if_neg (by decide), show x = (m : Int) from by omega, ← Int.ofNat_tdiv]

theorem qlen_pos {p : Nat} (h : 0 < p) : 0 < (qdigs p).length := by rw [qdigs_s (by omega)]; simp
theorem qlen_2 {p : Nat} (h : p < 18446744073709551616) : (qdigs p).length ≤ 2 := by
  by_cases h0 : p = 0
  · subst h0; rw [qdigs_0]; simp
  · by_cases h1 : p < 4294967296
    · rw [qdigs_one h0 h1]; simp
    · rw [qdigs_two (by omega) h]; simp
theorem qplain_0 (A : Option Addr) (c : Nat) (w : World) : Calls Tryz.prog 125 #[.slice A 0 c] w fun e w' => e = .returned (.int .u64 0) ∧ ∃ m, w' = w.drewN m := by
  go_enter Tryz.func125, Tryz.ntmps125
  go_wp2_with fail
  go_ret
  exact ⟨rfl, 0, rfl⟩
theorem qplain_1 {w : World} {b o c p : Nat} (d0 : w.cell? ⟨b, o, none⟩ = some (.int .u32 (p : Int))) (hp : p < 4294967296) :
    Calls Tryz.prog 125 #[.slice (some ⟨b, o, none⟩) 1 c] w fun e w' => e = .returned (.int .u64 (p : Int)) ∧ ∃ m, w' = w.drewN m := by
  go_enter Tryz.func125, Tryz.ntmps125
  go_wp2_with fail
  go_ret
  exact ⟨rfl, 0, rfl⟩
theorem qplain_2 {w : World} {b o c lo hi : Nat} (d0 : w.cell? ⟨b, o, none⟩ = some (.int .u32 (lo : Int))) (d1 : w.cell? ⟨b, o + 1, none⟩ = some (.int .u32 (hi : Int))) (h1 : lo < 4294967296) (h2 : hi < 4294967296) :
    Calls Tryz.prog 125 #[.slice (some ⟨b, o, none⟩) 2 c] w fun e w' => e = .returned (.int .u64 ((lo + 4294967296 * hi : Nat) : Int)) ∧ ∃ m, w' = w.drewN m := by
  go_enter Tryz.func125, Tryz.ntmps125
  go_wp2_with fail
  go_ret
  refine ⟨?_, 0, rfl⟩
  show Ending.returned (Value.int IntKind.u64 (bits BinOp.or IntKind.u64 (lo : Int) ((hi : Int) * 4294967296))) = _
  have e := (bits_nat .u64 64 (by decide) u64_64 lo (hi * 4294967296) (by omega) (by omega)).2
  rw [or_words lo hi h1 h2] at e
  rw [show ((hi : Int) * 4294967296) = ((hi * 4294967296 : Nat) : Int) from by omega, e]
theorem qplain_any (p : Nat) (A : Option Addr) (c : Nat) (w : World) (hp : p < 18446744073709551616) (hr : Rd w 1 uEnc A (qdigs p).length (qdigs p)) :
    Calls Tryz.prog 125 #[.slice A (qdigs p).length c] w fun e w' => e = .returned (.int .u64 (p : Int)) ∧ ∃ m, w' = w.drewN m := by
  by_cases h0 : p = 0
  · subst h0
    rw [qdigs_0]
    exact qplain_0 A c w
  · by_cases h1 : p < 4294967296
    · rw [qdigs_one h0 h1] at hr ⊢
      obtain ⟨b, o, rfl, _⟩ := hr.2 (by simp)
      have d0 := qcell hr 0 (by simp)
      rw [Nat.add_zero] at d0
      exact qplain_1 d0 h1
    · rw [qdigs_two (by omega) hp] at hr ⊢
      obtain ⟨b, o, rfl, _⟩ := hr.2 (by simp)
      have d0 := qcell hr 0 (by simp)
      have d1 := qcell hr 1 (by simp)
      rw [Nat.add_zero] at d0
      have hq := qplain_2 (c := c) (lo := p % 4294967296) (hi := p / 4294967296) d0 d1 (by omega) (by omega)
      rwa [show p % 4294967296 + 4294967296 * (p / 4294967296) = p from by omega] at hq

set_option maxHeartbeats 1000000 in
set_option maxRecDepth 100000 in
theorem qdiv_any (m p : Nat) (A YA : Option Addr) (c d : Nat) (w : World) (hm : m < 18446744073709551616) (hp0 : 0 < p) (hp : p < 18446744073709551616) (ha : Rd w 1 uEnc A (qdigs m).length (qdigs m)) (hb : Rd w 1 uEnc YA (qdigs p).length (qdigs p)) (hA : m = 0 → A = none ∧ c = 0) :
    Calls Tryz.prog 79 #[.slice A (qdigs m).length c, .slice YA (qdigs p).length d] w fun e w' => ∃ (A' A2 : Option Addr) (c' c2 n2 : Nat), e = .returned (.tuple #[.slice A' (qdigs (m / p)).length c', .slice A2 n2 c2]) ∧
      Rd w' 1 uEnc A' (qdigs (m / p)).length (qdigs (m / p)) ∧ (∀ a o s, A' = some ⟨a, o, s⟩ → w.heap.size ≤ a) ∧ (qdigs (m / p)).length ≤ c' ∧ Below w.heap.size w w' := by
  have hl1 := qlen_pos hp0
  have hl2 := qlen_2 hm
  have hl3 := qlen_2 hp
  have Hl2 := hide hl2
  have HAN : Hid (A = none → c = 0) := by
    intro e
    rcases Nat.eq_zero_or_pos m with h | h
    · exact (hA h).2
    · obtain ⟨b, o, e2, _⟩ := ha.2 (qlen_pos h)
      rw [e] at e2; cases e2
  obtain ⟨n1, hn1⟩ : ∃ n, n = (qdigs m).length := ⟨_, rfl⟩
  obtain ⟨n2, hn2⟩ : ∃ n, n = (qdigs p).length := ⟨_, rfl⟩
  have HN1 := hide hn1
  have HN2 := hide hn2
  have HA2 := hide ha
  have HB2 := hide hb
  have HMM := hide hm
  have HPP := hide hp
  have HPL := hide hp0
  rw [← hn1] at ha hl2 ⊢
  rw [← hn2] at hb hl1 hl3 ⊢
  have hn2z : ((n2 : Int) == 0) = false := by rw [beq_eq_false_iff_ne]; omega
  have hn1z : (n1 : Int) ≤ 2 := by omega
  have HC := fun W (h1 : Rd W 1 uEnc A n1 (qdigs m)) (h2 : Rd W 1 uEnc YA n2 (qdigs p)) => qcmp_any m p A YA n1 c n2 d W h1 h2 (by omega) (by omega)
  have HC1 := hide (HC w ha hb)
  clear HC hn1 hn2 hm hp hp0 hA hl1 hl3
  by_cases hlt : m < p
  · have hq : qcmp m p = -1 := if_pos hlt
    have hdv : m / p = 0 := Nat.div_eq_of_lt hlt
    have HD := hide hdv
    rw [hq] at HC1
    clear hlt hdv hq hl2
    go_enter Tryz.func79, Tryz.ntmps79
    go_wp2_with fail
    refine HC1.out.mono ?_
    rintro e w1 ⟨rfl, hb1⟩
    go_wp2_with fail
    refine (qtwin_any (qdigs m) A n1 c _ (ha.below hb1) HAN.out (by omega)).mono ?_
    rintro e w2 ⟨A2, c2, rfl, hr2, hb2⟩
    have hb2 := bthen hb1 (Nat.le_refl _) hb2
    go_wp2_with fail
    go_ret2
    refine ⟨none, A2, 0, c2, n1, ?_, ?_, (fun a o s e => by cases e), ?_, hb2⟩
    · rw [HD.out, qdigs_0]; rfl
    · rw [HD.out, qdigs_0]; exact Rd.nil _ _ _ _
    · rw [HD.out, qdigs_0]; simp
  · have hq : 0 ≤ qcmp m p := by unfold qcmp; rw [if_neg hlt]; split <;> omega
    have HC2 := HC1.out
    clear HC1
    generalize qcmp m p = z at HC2 hq
    have HC1 := hide HC2
    clear HC2
    have HX := hide (qplain_any m A c)
    have HY := hide (qplain_any p YA d)
    have hpi : ((p : Int) == 0) = false := by rw [beq_eq_false_iff_ne]; have := HPL.out; omega
    have hpi2 : ¬ (p : Int) = 0 := by have := HPL.out; omega
    have hpi3 : ¬ (p : Int) ≤ 0 := by have := HPL.out; omega
    have hm1 : (m : Int) < 18446744073709551616 := by have := HMM.out; omega
    obtain ⟨qv, hqv⟩ : ∃ q, q = m / p := ⟨_, rfl⟩
    obtain ⟨rv, hrv⟩ : ∃ r, r = m % p := ⟨_, rfl⟩
    have hq1 : (m : Int) / (p : Int) = (qv : Int) := by rw [hqv]; rfl
    have hq2 : (m : Int) % (p : Int) = (rv : Int) := by rw [hrv]; rfl
    have hq3 : (m : Int).tdiv (p : Int) = (qv : Int) := by rw [hqv]; rfl
    have hq4 : (m : Int).tmod (p : Int) = (rv : Int) := by rw [hrv]; rfl
    have HQV : Hid (qv < 18446744073709551616) := by show _ < _; rw [hqv]; exact Nat.lt_of_le_of_lt (Nat.div_le_self _ _) HMM.out
    have HRV : Hid (rv < 18446744073709551616) := by show _ < _; rw [hrv]; exact Nat.lt_of_le_of_lt (Nat.mod_le _ _) HMM.out
    have hw1 : IntKind.u64.wrap (qv : Int) = (qv : Int) := by rw [wrap_u64]; have := HQV.out; omega
    rw [← hqv]
    have HR := hide hrv
    have HALL := hide (And.intro hpi (And.intro hpi2 (And.intro hpi3 (And.intro hm1 (And.intro hq1 (And.intro hq2 (And.intro hq3 (And.intro hq4 hw1))))))))
    clear hlt hqv hrv hpi hpi2 hpi3 hm1 hq1 hq2 hq3 hq4 hw1
    go_enter Tryz.func79, Tryz.ntmps79
    go_wp2_with fail
    refine HC1.out.mono ?_
    rintro e w1 ⟨rfl, hb1⟩
    go_wp2_with fail
    rw [HN1.out]
    refine (HX.out _ HMM.out (HA2.out.below hb1)).mono ?_
    rintro e w2 ⟨rfl, k2, rfl⟩
    go_wp2_with fail
    rw [HN2.out]
    refine (HY.out _ HPP.out (((HB2.out.below hb1)).below (bdrewN (Below.refl _ _) k2))).mono ?_
    rintro e w3 ⟨rfl, k3, rfl⟩
    rw [← HN2.out]
    have hb3 : Below w.heap.size w ((w1.drewN k2).drewN k3) := bdrewN (bdrewN hb1 k2) k3
    generalize (w1.drewN k2).drewN k3 = wa at hb3 ⊢
    go_upto_region 7 with fail
    obtain ⟨hpi, hpi2, hpi3, hm1, hq1, hq2, hq3, hq4, hw1⟩ := HALL.out
    clear hq2 hq1
    have hpn : ¬ p = 0 := by have := HPL.out; omega
    have HW : Hid (∀ (v : Nat) (W : World), v < 18446744073709551616 → Calls Tryz.prog 126 #[.int .u64 (v : Int)] W
      fun e w' => ∃ c, e = .returned (.slice (some ⟨W.heap.size, 0, none⟩) (qdigs v).length c) ∧ Rd w' 1 uEnc (some ⟨W.heap.size, 0, none⟩) (qdigs v).length (qdigs v) ∧ (qdigs v).length ≤ c ∧ Below W.heap.size W w') := fun v W h => qwords_any v h W
    go_region_law (go_simp; go_at_call 126; refine (HW.out _ _ (by first | exact HQV.out | exact HRV.out)).mono ?_; rintro e w4 ⟨c4, rfl, hr4, hc4, hb4⟩; first | (have HT := HR4; have HR5 := hide hr4; have HB5 := hide hb4; clear hr4 hc4 hb4) | (have HR4 := hide hr4; have HC4 := hide hc4; have HB4 := hide hb4; clear hr4 hc4 hb4))
    all_goals
      go_wp2_with fail
    all_goals
      go_ret2
      exact ⟨_, _, _, _, _, rfl, HR4.out.below HB5.out, (fun a o s e => by injection e with e; injection e with e; have h1 := hb3.size; have h2 : wa.drew.heap.size = wa.heap.size := rfl; omega), HC4.out, bthen (bthen hb3 (Nat.le_refl _) ((bdrewN (Below.refl _ wa) 1).trans HB4.out)) (Nat.le_refl _) HB5.out⟩
end Go.Proofs.YtbdbpcllndajgaaGreatDoor

namespace Go.Proofs.YtbdbpcllndajgaaGreatDoor
open Go Go.RowKit
set_option linter.unusedVariables false

theorem u32_32 (n : Int) (h0 : 0 ≤ n) (h1 : n < 2 ^ 32) : IntKind.u32.wrap n = n := by
  simp only [IntKind.wrap, IntKind.bits, IntKind.signed]
  simp
  omega
theorem or32 (a b : Nat) (ha : a < 4294967296) (hb : b < 4294967296) : bits BinOp.or IntKind.u32 (a : Int) (b : Int) = ((a ||| b : Nat) : Int) := (bits_nat .u32 32 (by decide) u32_32 a b (by omega) (by omega)).2
theorem or64 (a b : Nat) (ha : a < 18446744073709551616) (hb : b < 18446744073709551616) : bits BinOp.or IntKind.u64 (a : Int) (b : Int) = ((a ||| b : Nat) : Int) := (bits_nat .u64 64 (by decide) u64_64 a b (by omega) (by omega)).2
/-- the words of a number, moved up: by one word, and below it what is carried -/
theorem shl_low {x s cr : Nat} (hs0 : 29 ≤ s) (hs : s ≤ 31) (hx : x < 4294967296) (hc : cr < 2 ^ s) : cr ||| (x * 2 ^ s) % 4294967296 = (x * 2 ^ s + cr) % 4294967296 ∧ x * 2 ^ s / 4294967296 = (x * 2 ^ s + cr) / 4294967296 ∧ (x * 2 ^ s + cr) / 4294967296 < 2 ^ s ∧ x * 2 ^ s < 18446744073709551616 := by
  have key : ∀ m : Nat, cr ||| 2 ^ s * m = 2 ^ s * m + cr := fun m => by rw [Nat.or_comm]; exact (Nat.two_pow_add_eq_or_of_lt hc m).symm
  rcases (show s = 29 ∨ s = 30 ∨ s = 31 by omega) with rfl | rfl | rfl
  · have e : x * 2 ^ 29 % 4294967296 = 2 ^ 29 * (x % 8) := by omega
    rw [e, key]
    omega
  · have e : x * 2 ^ 30 % 4294967296 = 2 ^ 30 * (x % 4) := by omega
    rw [e, key]
    omega
  · have e : x * 2 ^ 31 % 4294967296 = 2 ^ 31 * (x % 2) := by omega
    rw [e, key]
    omega
/-- what a reckoning of words hands back: the words of v, in memory of its own; no memory, no room -/
def GivesZ (w : World) (v : Nat) (e : Ending) (w' : World) : Prop :=
  ∃ A c, e = .returned (.slice A (qdigs v).length c) ∧ Rd w' 1 uEnc A (qdigs v).length (qdigs v) ∧ (∀ a o s, A = some ⟨a, o, s⟩ → w.heap.size ≤ a) ∧ (qdigs v).length ≤ c ∧ (A = none → c = 0) ∧ Below w.heap.size w w'
theorem uF_last {w : World} {g e n i d0 d : Nat} {v : Int} {pre : List Nat} (h : VRow w g e n (uF (pre ++ [d0]))) (hl : pre.length = i) (hv : v = (d : Int)) : VRow (w.setCell ⟨g, i, none⟩ (.int .u32 v)) g e n (uF (pre ++ [d])) := by
  subst hv
  refine (h.set_ i _).congr fun j _ => ?_
  unfold uF
  by_cases h : j = i
  · subst h
    rw [if_pos rfl, List.getD_eq_getElem?_getD, List.getElem?_append_right (by omega), show j - pre.length = 0 from by omega]
    rfl
  · rw [if_neg h, List.getD_eq_getElem?_getD, List.getD_eq_getElem?_getD]
    rcases Nat.lt_or_ge j pre.length with h1 | h1
    · rw [List.getElem?_append_left h1, List.getElem?_append_left h1]
    · rw [List.getElem?_eq_none (by simp; omega), List.getElem?_eq_none (by simp; omega)]
theorem uF_at {l : List Nat} {i v : Nat} (h : l.getD i 0 = v) : uF l i = .int .u32 (v : Int) := by unfold uF; rw [h]
theorem getD_last {pre : List Nat} {c i : Nat} (h : pre.length = i) : (pre ++ [c]).getD i 0 = c := by
  subst h
  rw [List.getD_eq_getElem?_getD, List.getElem?_append_right (by omega), Nat.sub_self]
  rfl
theorem getD_past {l : List Nat} {i : Nat} (h : l.length ≤ i) : l.getD i 0 = 0 := by
  rw [List.getD_eq_getElem?_getD, List.getElem?_eq_none h]
  rfl
theorem uF_put {w : World} {g e n j q : Nat} {v : Int} {qs : List Nat} (h : VRow w g e n (uF (List.replicate (j + 1) 0 ++ qs))) (hv : v = (q : Int)) : VRow (w.setCell ⟨g, j, none⟩ (.int .u32 v)) g e n (uF (List.replicate j 0 ++ q :: qs)) := by
  subst hv
  refine (h.set_ j _).congr fun k _ => ?_
  unfold uF
  rw [List.getD_eq_getElem?_getD, List.getD_eq_getElem?_getD]
  rcases Nat.lt_trichotomy k j with hk | hk | hk
  · rw [if_neg (by omega), List.getElem?_append_left (by simp; omega), List.getElem?_append_left (by simp; omega), List.getElem?_replicate, List.getElem?_replicate, if_pos (by omega), if_pos hk]
  · subst hk
    rw [if_pos rfl, List.getElem?_append_right (by simp), List.length_replicate, Nat.sub_self]
    rfl
  · rw [if_neg (by omega), List.getElem?_append_right (by simp; omega), List.getElem?_append_right (by simp; omega), List.length_replicate, List.length_replicate, show k - j = (k - (j + 1)) + 1 from by omega, List.getElem?_cons_succ]
theorem shl_or {r x : Nat} (hr : r < 4294967296) (hx : x < 4294967296) : bits BinOp.or IntKind.u64 ((r : Int) * 4294967296) (x : Int) = ((r * 4294967296 + x : Nat) : Int) := by
  have e := (bits_nat .u64 64 (by decide) u64_64 (r * 4294967296) x (by omega) (by omega)).2
  rw [Nat.or_comm, or_words x r hx hr] at e
  rw [show ((r : Int) * 4294967296) = ((r * 4294967296 : Nat) : Int) from by omega, e]
  congr 1
  omega

theorem shrL_at {d : Nat} (hd : 0 < d) : ∀ (l : List Nat) (i : Nat) (h : i < (shrL d l).length), QDig l → (shrL d l)[i] = (l.getD i 0 + 4294967296 * l.getD (i + 1) 0) / d % 4294967296
  | [], i, h, _ => by simp [shrL] at h
  | [x], i, h, hq => by
    have hx := hq x (by simp)
    obtain rfl : i = 0 := by simp [shrL] at h; omega
    have h1 : x / d ≤ x := Nat.div_le_self _ _
    simp only [shrL, List.getElem_cons_zero, List.getD_cons_zero, List.getD_cons_succ, List.getD_nil, Nat.mul_zero, Nat.add_zero]
    generalize x / d = z at h1 ⊢
    omega
  | x :: y :: l, 0, h, hq => by simp [shrL]
  | x :: y :: l, i + 1, h, hq => by
    have := shrL_at hd (y :: l) i (by rw [shrL, List.length_cons] at h; omega) hq.tail
    simp only [shrL, List.getElem_cons_succ]
    rw [this]
    simp

set_option maxHeartbeats 2000000 in
set_option maxRecDepth 100000 in
theorem qleft_29 (a : List Nat) (A : Option Addr) (n c : Nat) (w : World) (hda : QDig a) (h0 : 0 < n) (hn : n ≤ 900) (ha : Rd w 1 uEnc A n a) :
    Calls Tryz.prog 129 #[.slice A n c, .int .u64 29] w
      fun e w' => ∃ g c', e = .returned (.slice (some ⟨g, 0, none⟩) (qdigs (qval a * 536870912)).length c') ∧ Rd w' 1 uEnc (some ⟨g, 0, none⟩) (qdigs (qval a * 536870912)).length (qdigs (qval a * 536870912)) ∧ (qdigs (qval a * 536870912)).length ≤ c' ∧ w.heap.size ≤ g ∧ Below w.heap.size w w' := by
  have Ha := hide ha.1
  have hmk := mk_u32 (n + 1) (by omega)
  have hmk' : ∀ w : World, (Instr.makeSlice 77 (.int .i64 ((n : Int) + 1)) (.int .i64 ((n : Int) + 1))).run Tryz.prog w = .ok (.slice (some ⟨w.heap.size, 0, none⟩) (n + 1) (n + 1)) (w.alloc (.cells (Array.replicate (n + 1) (.int .u32 0)) 179)) := fun w => by simpa using hmk w
  have hnz : ((n : Int) == 0) = false := by rw [beq_eq_false_iff_ne]; omega
  clear hmk h0
  go_enter Tryz.func129, Tryz.ntmps129
  go_wp2_with fail
  have hrow0 : VRow (w.alloc (.cells (Array.replicate (n + 1) (.int .u32 0)) 179)) w.heap.size 179 (n + 1) (uF ([] ++ [0])) := (VRow.made w 179 (n + 1) (.int .u32 0)).congr (fun j _ => by unfold uF; cases j <;> simp)
  have hb1 : Below w.heap.size w (w.alloc (.cells (Array.replicate (n + 1) (.int .u32 0)) 179)) := (Below.refl _ _).alloc (Nat.le_refl _) _
  generalize w.alloc (.cells (Array.replicate (n + 1) (.int .u32 0)) 179) = w1 at hrow0 hb1 ⊢
  go_loopw [8] (fun iv wr => ∃ (i cr : Nat) (pre : List Nat), i ≤ n ∧ iv = .int .i64 i ∧ MulAt a 536870912 i cr pre ∧ cr < 536870912 ∧ VRow wr w.heap.size 179 (n + 1) (uF (pre ++ [cr])) ∧ w1.grownBy wr (some w.heap.size)) (fun iv _ => n - (intOf iv).toNat)
  case atStart => exact ⟨0, 0, [], by omega, rfl, MulAt.zero _ _, by decide, hrow0, only_refl _ _⟩
  case round =>
    obtain ⟨i, cr, pre, hi, rfl, hat, hcD, hrow, honly⟩ := hrel
    have hbw := below_only hb1 (Nat.le_refl _) (Nat.le_refl _) honly
    have hpl := hat.2.1
    have HAT := hide hat
    by_cases hlt : i < n
    · have hia : i < a.length := by have := Ha.out; omega
      obtain ⟨ab, ao, rfl, hca⟩ := (ha.below hbw).2 (by omega)
      have qa := hca i 0 _ hia rfl
      rw [Nat.mul_one, Nat.add_zero] at qa
      clear hca
      have hx1 := hda a[i] (List.getElem_mem hia)
      have hsu := hat.succ hda (by decide) hia
      obtain ⟨x, hx⟩ : ∃ x, x = a[i] := ⟨_, rfl⟩
      rw [← hx] at qa hx1 hsu
      obtain ⟨s1, s2, s3, s4⟩ := shl_low (s := 29) (by decide) (by decide) hx1 (show cr < 2 ^ 29 from hcD)
      rw [show (2 : Nat) ^ 29 = 536870912 from by decide] at s1 s2 s3 s4
      obtain ⟨X, hX⟩ : ∃ X, X = x * 536870912 := ⟨_, rfl⟩
      rw [← hX] at s1 s2 s3 s4 hsu
      obtain ⟨xl, hxl⟩ : ∃ xl, xl = X % 4294967296 := ⟨_, rfl⟩
      obtain ⟨lo, hlo⟩ : ∃ lo, lo = (X + cr) % 4294967296 := ⟨_, rfl⟩
      obtain ⟨hv, hhv⟩ : ∃ hv, hv = (X + cr) / 4294967296 := ⟨_, rfl⟩
      rw [← hxl] at s1
      rw [← hlo] at s1 hsu
      rw [← hhv] at s2 s3 hsu
      have HSU := hide hsu
      have H3 := hide s3
      have hxl2 : xl < 4294967296 := by omega
      have hcr2 : cr < 4294967296 := by omega
      have hhv2 : hv < 4294967296 := by omega
      have f1 : (x : Int) * 536870912 = (X : Int) := by omega
      have f2 : (X : Int) % 4294967296 = (xl : Int) := by omega
      have f3 : bits BinOp.or IntKind.u32 (cr : Int) (xl : Int) = (lo : Int) := by rw [or32 cr xl hcr2 hxl2, s1]
      have f4 : (X : Int) / 4294967296 = (hv : Int) := by omega
      have f5 : (hv : Int) % 4294967296 = (hv : Int) := by omega
      have f6 : bits BinOp.or IntKind.u32 0 (hv : Int) = (hv : Int) := by
        have := or32 0 hv (by decide) hhv2
        rwa [Nat.zero_or] at this
      have f7 : (X : Int) < 18446744073709551616 := by omega
      have f8 : IntKind.u64.wrap (X : Int) = (X : Int) := by rw [wrap_u64]; omega
      have qr : wr.cell? ⟨w.heap.size, i, none⟩ = some (.int .u32 (cr : Int)) := by rw [hrow.cell i (by omega), uF_at (getD_last hpl)]
      have qz : wr.cell? ⟨w.heap.size, i + 1, none⟩ = some (.int .u32 0) := by rw [hrow.cell (i + 1) (by omega), uF_at (getD_past (by simp; omega))]; rfl
      have fr := hrow.frozen i
      have fz := hrow.frozen (i + 1)
      have i0 : (0 : Int) ≤ (i : Int) := by omega
      have i1 : (i : Int) < (n : Int) := by omega
      have i2 : (i : Int) < (n : Int) + 1 := by omega
      have i3 : (i : Int) + 1 < (n : Int) + 1 := by omega
      have i4 : (0 : Int) ≤ (i : Int) + 1 := by omega
      have hrow2 : VRow ((wr.setCell ⟨w.heap.size, i, none⟩ (.int .u32 (lo : Int))).setCell ⟨w.heap.size, i + 1, none⟩ (.int .u32 (hv : Int))) w.heap.size 179 (n + 1) (uF (pre ++ [lo] ++ [hv])) := uF_set (uF_last hrow hpl rfl) (by simp; omega) rfl
      have ho2 : w1.grownBy ((wr.setCell ⟨w.heap.size, i, none⟩ (.int .u32 (lo : Int))).setCell ⟨w.heap.size, i + 1, none⟩ (.int .u32 (hv : Int))) (some w.heap.size) := only_setCell (only_setCell honly _ _) _ _
      have HR2 := hide hrow2
      have HO2 := hide ho2
      clear hat hsu hlo hhv hx hX hxl s1 s2 s3 s4 hrow2 ho2 hrow honly hcD HAT
      go_wp2_with fail
      go_roundw
      case rel => exact ⟨i + 1, hv, pre ++ [lo], by omega, by go_num, HSU.out, H3.out, HR2.out, HO2.out⟩
      case measure => simp [intOf]; omega
    · have hin : i = n := by omega
      subst hin
      have hE := MulAt.end (a := a) (d := 536870912) (pre := pre) (cr := cr) (by have := HAT.out; rwa [Ha.out])
      have hlen : (pre ++ [cr]).length = i + 1 := by rw [List.length_append, hpl]; rfl
      have hval := mulL_val a 536870912 0
      have hdig := mulL_dig a 536870912 0 hda (by decide) (by omega)
      rw [hE] at hval hdig
      rw [Nat.add_zero] at hval
      have hle := qdigs_le _ hdig
      rw [hlen, hval] at hle
      have hrow2 := hrow.words hlen
      clear hE hat HAT
      go_wp2_with fail
      refine (qtrim_any _ hdig _ (i + 1) (i + 1) _ hrow2 (by omega) (by omega)).mono ?_
      rintro e w2 ⟨rfl, hr, k, rfl⟩
      rw [hval] at hr ⊢
      go_wp2_with fail
      go_ret
      exact ⟨w.heap.size, i + 1, rfl, hr.below (bdrewN (Below.refl _ _) k), hle, Nat.le_refl _, bdrewN hbw k⟩

set_option maxHeartbeats 2000000 in
set_option maxRecDepth 100000 in
theorem qright_29 (a : List Nat) (A : Option Addr) (n c : Nat) (w : World) (hda : QDig a) (hn : n ≤ 900) (ha : Rd w 1 uEnc A n a) :
    Calls Tryz.prog 130 #[.slice A n c, .int .u64 29] w (GivesZ w (qval a / 536870912)) := by
  have Ha := hide ha.1
  by_cases h0 : n = 0
  · subst h0
    have hv : qval a / 536870912 = 0 := by
      have : a = [] := List.eq_nil_of_length_eq_zero Ha.out
      rw [this]; rfl
    have HV := hide hv
    clear hv
    go_enter Tryz.func130, Tryz.ntmps130
    go_wp2_with fail
    go_ret
    refine ⟨none, 0, ?_, ?_, (fun a o s e => by cases e), ?_, (fun _ => rfl), Below.refl _ _⟩
    · rw [HV.out, qdigs_0]; rfl
    · rw [HV.out, qdigs_0]; exact Rd.nil _ _ _ _
    · rw [HV.out, qdigs_0]; simp
  · have hmk := mk_u32 n (by omega)
    have hnz : ¬ (n : Int) ≤ 0 := by omega
    have hnz2 : (0 : Int) < (n : Int) := by omega
    clear h0
    go_enter Tryz.func130, Tryz.ntmps130
    go_wp2_with fail
    have hrow0 : VRow (w.alloc (.cells (Array.replicate n (.int .u32 0)) 179)) w.heap.size 179 n (uF ((shrL 536870912 a).take 0)) := (VRow.made w 179 n (.int .u32 0)).congr (fun j _ => by unfold uF; simp)
    have hb1 : Below w.heap.size w (w.alloc (.cells (Array.replicate n (.int .u32 0)) 179)) := (Below.refl _ _).alloc (Nat.le_refl _) _
    generalize w.alloc (.cells (Array.replicate n (.int .u32 0)) 179) = w1 at hrow0 hb1 ⊢
    go_loopw [8] (fun iv wr => ∃ i : Nat, i ≤ n ∧ iv = .int .i64 i ∧ VRow wr w.heap.size 179 n (uF ((shrL 536870912 a).take i)) ∧ w1.grownBy wr (some w.heap.size)) (fun iv _ => n - (intOf iv).toNat)
    case atStart => exact ⟨0, by omega, rfl, hrow0, only_refl _ _⟩
    case round =>
      obtain ⟨i, hi, rfl, hrow, honly⟩ := hrel
      have hbw := below_only hb1 (Nat.le_refl _) (Nat.le_refl _) honly
      by_cases hlt : i < n
      · have hia : i < a.length := by have := Ha.out; omega
        obtain ⟨ab, ao, rfl, hca⟩ := (ha.below hbw).2 (by omega)
        have qa := hca i 0 _ hia rfl
        rw [Nat.mul_one, Nat.add_zero] at qa
        have hx1 := hda a[i] (List.getElem_mem hia)
        have hil : i < (shrL 536870912 a).length := by rw [shrL_len]; exact hia
        have hz := shrL_at (d := 536870912) (by decide) a i hil hda
        have hgi : a.getD i 0 = a[i] := by rw [List.getD_eq_getElem?_getD, List.getElem?_eq_getElem hia]; rfl
        rw [hgi] at hz
        have htk : (shrL 536870912 a).take (i + 1) = (shrL 536870912 a).take i ++ [(shrL 536870912 a)[i]] := List.take_succ_eq_append_getElem hil
        have hlt2 : ((shrL 536870912 a).take i).length = i := by rw [List.length_take]; omega
        obtain ⟨x, hx⟩ : ∃ x, x = a[i] := ⟨_, rfl⟩
        rw [← hx] at qa hx1 hz
        clear hx hgi
        have qr := hrow.cell i (by omega)
        have fr := hrow.frozen i
        have i0 : (0 : Int) ≤ (i : Int) := by omega
        have i1 : (i : Int) < (n : Int) := by omega
        by_cases hnx : i + 1 < n
        · have hia2 : i + 1 < a.length := by have := Ha.out; omega
          have qb := hca (i + 1) 0 _ hia2 rfl
          rw [Nat.mul_one, Nat.add_zero] at qb
          have hy1 := hda a[i + 1] (List.getElem_mem hia2)
          have hgi : a.getD (i + 1) 0 = a[i + 1] := by rw [List.getD_eq_getElem?_getD, List.getElem?_eq_getElem hia2]; rfl
          rw [hgi] at hz
          obtain ⟨y, hy⟩ : ∃ y, y = a[i + 1] := ⟨_, rfl⟩
          rw [← hy] at qb hy1 hz
          clear hy hgi hca
          obtain ⟨z, hzz⟩ : ∃ z, z = (shrL 536870912 a)[i] := ⟨_, rfl⟩
          rw [← hzz] at hz htk
          obtain ⟨V, hV⟩ : ∃ V, V = x + 4294967296 * y := ⟨_, rfl⟩
          rw [← hV] at hz
          have f1 : bits BinOp.or IntKind.u64 (x : Int) ((y : Int) * 4294967296) = (V : Int) := by
            have e := or64 x (y * 4294967296) (by omega) (by omega)
            rw [or_words x y hx1 hy1, ← hV] at e
            rw [← e]
            first | (congr 1; done) | (congr 1; omega)
          have f2 : (V : Int) / 536870912 % 4294967296 = (z : Int) := by omega
          have hrow2 : VRow (wr.setCell ⟨w.heap.size, i, none⟩ (.int .u32 (z : Int))) w.heap.size 179 n (uF ((shrL 536870912 a).take (i + 1))) := by rw [htk]; exact uF_set hrow hlt2 rfl
          have HR2 := hide hrow2
          have HO2 := hide (only_setCell honly i (.int .u32 (z : Int)))
          have j1 : (i : Int) + 1 < (n : Int) := by omega
          have j0 : (0 : Int) ≤ (i : Int) + 1 := by omega
          have qb2 := qb
          rw [← Nat.add_assoc] at qb2
          clear hz htk hzz hV hrow honly hrow2 hlt2
          go_wp2_with fail
          go_roundw
          case rel => exact ⟨i + 1, by omega, by go_num, HR2.out, HO2.out⟩
          case measure => simp [intOf]; omega
        · have hgi : a.getD (i + 1) 0 = 0 := getD_past (by have := Ha.out; omega)
          rw [hgi] at hz
          clear hgi hca
          obtain ⟨z, hzz⟩ : ∃ z, z = (shrL 536870912 a)[i] := ⟨_, rfl⟩
          rw [← hzz] at hz htk
          have f2 : (x : Int) / 536870912 % 4294967296 = (z : Int) := by omega
          have f3 : (x : Int) / 536870912 = (z : Int) := by omega
          have hrow2 : VRow (wr.setCell ⟨w.heap.size, i, none⟩ (.int .u32 (z : Int))) w.heap.size 179 n (uF ((shrL 536870912 a).take (i + 1))) := by rw [htk]; exact uF_set hrow hlt2 rfl
          have HR2 := hide hrow2
          have HO2 := hide (only_setCell honly i (.int .u32 (z : Int)))
          have j1 : ¬ (i : Int) + 1 < (n : Int) := by omega
          clear hz htk hzz hrow honly hrow2 hlt2 f2
          go_wp2_with fail
          go_roundw
          case rel => exact ⟨i + 1, by omega, by go_num, HR2.out, HO2.out⟩
          case measure => simp [intOf]; omega
      · have hin : i = n := by omega
        subst hin
        have hal : (shrL 536870912 a).length = i := by rw [shrL_len]; exact Ha.out
        have htk : (shrL 536870912 a).take i = shrL 536870912 a := List.take_of_length_le (by omega)
        rw [htk] at hrow
        have hdig := shrL_dig (d := 536870912) (by decide) a hda
        have hval := shrL_val (d := 536870912) (e := 8) (by decide) (by decide) a hda
        have hle := qdigs_le _ hdig
        rw [hal, hval] at hle
        have hrow2 := hrow.words hal
        clear htk
        go_wp2_with fail
        refine (qtrim_any _ hdig _ i i _ hrow2 (by omega) (by omega)).mono ?_
        rintro e w2 ⟨rfl, hr, k, rfl⟩
        rw [hval] at hr ⊢
        go_wp2_with fail
        go_ret
        exact ⟨some ⟨w.heap.size, 0, none⟩, i, rfl, hr.below (bdrewN (Below.refl _ _) k), fun a o s e => (by injection e with e; injection e with e; omega), hle, (fun e => by cases e), bdrewN hbw k⟩

set_option maxHeartbeats 2000000 in
set_option maxRecDepth 100000 in
theorem qleft_30 (a : List Nat) (A : Option Addr) (n c : Nat) (w : World) (hda : QDig a) (h0 : 0 < n) (hn : n ≤ 900) (ha : Rd w 1 uEnc A n a) :
    Calls Tryz.prog 129 #[.slice A n c, .int .u64 30] w
      fun e w' => ∃ g c', e = .returned (.slice (some ⟨g, 0, none⟩) (qdigs (qval a * 1073741824)).length c') ∧ Rd w' 1 uEnc (some ⟨g, 0, none⟩) (qdigs (qval a * 1073741824)).length (qdigs (qval a * 1073741824)) ∧ (qdigs (qval a * 1073741824)).length ≤ c' ∧ w.heap.size ≤ g ∧ Below w.heap.size w w' := by
  have Ha := hide ha.1
  have hmk := mk_u32 (n + 1) (by omega)
  have hmk' : ∀ w : World, (Instr.makeSlice 77 (.int .i64 ((n : Int) + 1)) (.int .i64 ((n : Int) + 1))).run Tryz.prog w = .ok (.slice (some ⟨w.heap.size, 0, none⟩) (n + 1) (n + 1)) (w.alloc (.cells (Array.replicate (n + 1) (.int .u32 0)) 179)) := fun w => by simpa using hmk w
  have hnz : ((n : Int) == 0) = false := by rw [beq_eq_false_iff_ne]; omega
  clear hmk h0
  go_enter Tryz.func129, Tryz.ntmps129
  go_wp2_with fail
  have hrow0 : VRow (w.alloc (.cells (Array.replicate (n + 1) (.int .u32 0)) 179)) w.heap.size 179 (n + 1) (uF ([] ++ [0])) := (VRow.made w 179 (n + 1) (.int .u32 0)).congr (fun j _ => by unfold uF; cases j <;> simp)
  have hb1 : Below w.heap.size w (w.alloc (.cells (Array.replicate (n + 1) (.int .u32 0)) 179)) := (Below.refl _ _).alloc (Nat.le_refl _) _
  generalize w.alloc (.cells (Array.replicate (n + 1) (.int .u32 0)) 179) = w1 at hrow0 hb1 ⊢
  go_loopw [8] (fun iv wr => ∃ (i cr : Nat) (pre : List Nat), i ≤ n ∧ iv = .int .i64 i ∧ MulAt a 1073741824 i cr pre ∧ cr < 1073741824 ∧ VRow wr w.heap.size 179 (n + 1) (uF (pre ++ [cr])) ∧ w1.grownBy wr (some w.heap.size)) (fun iv _ => n - (intOf iv).toNat)
  case atStart => exact ⟨0, 0, [], by omega, rfl, MulAt.zero _ _, by decide, hrow0, only_refl _ _⟩
  case round =>
    obtain ⟨i, cr, pre, hi, rfl, hat, hcD, hrow, honly⟩ := hrel
    have hbw := below_only hb1 (Nat.le_refl _) (Nat.le_refl _) honly
    have hpl := hat.2.1
    have HAT := hide hat
    by_cases hlt : i < n
    · have hia : i < a.length := by have := Ha.out; omega
      obtain ⟨ab, ao, rfl, hca⟩ := (ha.below hbw).2 (by omega)
      have qa := hca i 0 _ hia rfl
      rw [Nat.mul_one, Nat.add_zero] at qa
      clear hca
      have hx1 := hda a[i] (List.getElem_mem hia)
      have hsu := hat.succ hda (by decide) hia
      obtain ⟨x, hx⟩ : ∃ x, x = a[i] := ⟨_, rfl⟩
      rw [← hx] at qa hx1 hsu
      obtain ⟨s1, s2, s3, s4⟩ := shl_low (s := 30) (by decide) (by decide) hx1 (show cr < 2 ^ 30 from hcD)
      rw [show (2 : Nat) ^ 30 = 1073741824 from by decide] at s1 s2 s3 s4
      obtain ⟨X, hX⟩ : ∃ X, X = x * 1073741824 := ⟨_, rfl⟩
      rw [← hX] at s1 s2 s3 s4 hsu
      obtain ⟨xl, hxl⟩ : ∃ xl, xl = X % 4294967296 := ⟨_, rfl⟩
      obtain ⟨lo, hlo⟩ : ∃ lo, lo = (X + cr) % 4294967296 := ⟨_, rfl⟩
      obtain ⟨hv, hhv⟩ : ∃ hv, hv = (X + cr) / 4294967296 := ⟨_, rfl⟩
      rw [← hxl] at s1
      rw [← hlo] at s1 hsu
      rw [← hhv] at s2 s3 hsu
      have HSU := hide hsu
      have H3 := hide s3
      have hxl2 : xl < 4294967296 := by omega
      have hcr2 : cr < 4294967296 := by omega
      have hhv2 : hv < 4294967296 := by omega
      have f1 : (x : Int) * 1073741824 = (X : Int) := by omega
      have f2 : (X : Int) % 4294967296 = (xl : Int) := by omega
      have f3 : bits BinOp.or IntKind.u32 (cr : Int) (xl : Int) = (lo : Int) := by rw [or32 cr xl hcr2 hxl2, s1]
      have f4 : (X : Int) / 4294967296 = (hv : Int) := by omega
      have f5 : (hv : Int) % 4294967296 = (hv : Int) := by omega
      have f6 : bits BinOp.or IntKind.u32 0 (hv : Int) = (hv : Int) := by
        have := or32 0 hv (by decide) hhv2
        rwa [Nat.zero_or] at this
      have f7 : (X : Int) < 18446744073709551616 := by omega
      have f8 : IntKind.u64.wrap (X : Int) = (X : Int) := by rw [wrap_u64]; omega
      have qr : wr.cell? ⟨w.heap.size, i, none⟩ = some (.int .u32 (cr : Int)) := by rw [hrow.cell i (by omega), uF_at (getD_last hpl)]
      have qz : wr.cell? ⟨w.heap.size, i + 1, none⟩ = some (.int .u32 0) := by rw [hrow.cell (i + 1) (by omega), uF_at (getD_past (by simp; omega))]; rfl
      have fr := hrow.frozen i
      have fz := hrow.frozen (i + 1)
      have i0 : (0 : Int) ≤ (i : Int) := by omega
      have i1 : (i : Int) < (n : Int) := by omega
      have i2 : (i : Int) < (n : Int) + 1 := by omega
      have i3 : (i : Int) + 1 < (n : Int) + 1 := by omega
      have i4 : (0 : Int) ≤ (i : Int) + 1 := by omega
      have hrow2 : VRow ((wr.setCell ⟨w.heap.size, i, none⟩ (.int .u32 (lo : Int))).setCell ⟨w.heap.size, i + 1, none⟩ (.int .u32 (hv : Int))) w.heap.size 179 (n + 1) (uF (pre ++ [lo] ++ [hv])) := uF_set (uF_last hrow hpl rfl) (by simp; omega) rfl
      have ho2 : w1.grownBy ((wr.setCell ⟨w.heap.size, i, none⟩ (.int .u32 (lo : Int))).setCell ⟨w.heap.size, i + 1, none⟩ (.int .u32 (hv : Int))) (some w.heap.size) := only_setCell (only_setCell honly _ _) _ _
      have HR2 := hide hrow2
      have HO2 := hide ho2
      clear hat hsu hlo hhv hx hX hxl s1 s2 s3 s4 hrow2 ho2 hrow honly hcD HAT
      go_wp2_with fail
      go_roundw
      case rel => exact ⟨i + 1, hv, pre ++ [lo], by omega, by go_num, HSU.out, H3.out, HR2.out, HO2.out⟩
      case measure => simp [intOf]; omega
    · have hin : i = n := by omega
      subst hin
      have hE := MulAt.end (a := a) (d := 1073741824) (pre := pre) (cr := cr) (by have := HAT.out; rwa [Ha.out])
      have hlen : (pre ++ [cr]).length = i + 1 := by rw [List.length_append, hpl]; rfl
      have hval := mulL_val a 1073741824 0
      have hdig := mulL_dig a 1073741824 0 hda (by decide) (by omega)
      rw [hE] at hval hdig
      rw [Nat.add_zero] at hval
      have hle := qdigs_le _ hdig
      rw [hlen, hval] at hle
      have hrow2 := hrow.words hlen
      clear hE hat HAT
      go_wp2_with fail
      refine (qtrim_any _ hdig _ (i + 1) (i + 1) _ hrow2 (by omega) (by omega)).mono ?_
      rintro e w2 ⟨rfl, hr, k, rfl⟩
      rw [hval] at hr ⊢
      go_wp2_with fail
      go_ret
      exact ⟨w.heap.size, i + 1, rfl, hr.below (bdrewN (Below.refl _ _) k), hle, Nat.le_refl _, bdrewN hbw k⟩

set_option maxHeartbeats 2000000 in
set_option maxRecDepth 100000 in
theorem qright_30 (a : List Nat) (A : Option Addr) (n c : Nat) (w : World) (hda : QDig a) (hn : n ≤ 900) (ha : Rd w 1 uEnc A n a) :
    Calls Tryz.prog 130 #[.slice A n c, .int .u64 30] w (GivesZ w (qval a / 1073741824)) := by
  have Ha := hide ha.1
  by_cases h0 : n = 0
  · subst h0
    have hv : qval a / 1073741824 = 0 := by
      have : a = [] := List.eq_nil_of_length_eq_zero Ha.out
      rw [this]; rfl
    have HV := hide hv
    clear hv
    go_enter Tryz.func130, Tryz.ntmps130
    go_wp2_with fail
    go_ret
    refine ⟨none, 0, ?_, ?_, (fun a o s e => by cases e), ?_, (fun _ => rfl), Below.refl _ _⟩
    · rw [HV.out, qdigs_0]; rfl
    · rw [HV.out, qdigs_0]; exact Rd.nil _ _ _ _
    · rw [HV.out, qdigs_0]; simp
  · have hmk := mk_u32 n (by omega)
    have hnz : ¬ (n : Int) ≤ 0 := by omega
    have hnz2 : (0 : Int) < (n : Int) := by omega
    clear h0
    go_enter Tryz.func130, Tryz.ntmps130
    go_wp2_with fail
    have hrow0 : VRow (w.alloc (.cells (Array.replicate n (.int .u32 0)) 179)) w.heap.size 179 n (uF ((shrL 1073741824 a).take 0)) := (VRow.made w 179 n (.int .u32 0)).congr (fun j _ => by unfold uF; simp)
    have hb1 : Below w.heap.size w (w.alloc (.cells (Array.replicate n (.int .u32 0)) 179)) := (Below.refl _ _).alloc (Nat.le_refl _) _
    generalize w.alloc (.cells (Array.replicate n (.int .u32 0)) 179) = w1 at hrow0 hb1 ⊢
    go_loopw [8] (fun iv wr => ∃ i : Nat, i ≤ n ∧ iv = .int .i64 i ∧ VRow wr w.heap.size 179 n (uF ((shrL 1073741824 a).take i)) ∧ w1.grownBy wr (some w.heap.size)) (fun iv _ => n - (intOf iv).toNat)
    case atStart => exact ⟨0, by omega, rfl, hrow0, only_refl _ _⟩
    case round =>
      obtain ⟨i, hi, rfl, hrow, honly⟩ := hrel
      have hbw := below_only hb1 (Nat.le_refl _) (Nat.le_refl _) honly
      by_cases hlt : i < n
      · have hia : i < a.length := by have := Ha.out; omega
        obtain ⟨ab, ao, rfl, hca⟩ := (ha.below hbw).2 (by omega)
        have qa := hca i 0 _ hia rfl
        rw [Nat.mul_one, Nat.add_zero] at qa
        have hx1 := hda a[i] (List.getElem_mem hia)
        have hil : i < (shrL 1073741824 a).length := by rw [shrL_len]; exact hia
        have hz := shrL_at (d := 1073741824) (by decide) a i hil hda
        have hgi : a.getD i 0 = a[i] := by rw [List.getD_eq_getElem?_getD, List.getElem?_eq_getElem hia]; rfl
        rw [hgi] at hz
        have htk : (shrL 1073741824 a).take (i + 1) = (shrL 1073741824 a).take i ++ [(shrL 1073741824 a)[i]] := List.take_succ_eq_append_getElem hil
        have hlt2 : ((shrL 1073741824 a).take i).length = i := by rw [List.length_take]; omega
        obtain ⟨x, hx⟩ : ∃ x, x = a[i] := ⟨_, rfl⟩
        rw [← hx] at qa hx1 hz
        clear hx hgi
        have qr := hrow.cell i (by omega)
        have fr := hrow.frozen i
        have i0 : (0 : Int) ≤ (i : Int) := by omega
        have i1 : (i : Int) < (n : Int) := by omega
        by_cases hnx : i + 1 < n
        · have hia2 : i + 1 < a.length := by have := Ha.out; omega
          have qb := hca (i + 1) 0 _ hia2 rfl
          rw [Nat.mul_one, Nat.add_zero] at qb
          have hy1 := hda a[i + 1] (List.getElem_mem hia2)
          have hgi : a.getD (i + 1) 0 = a[i + 1] := by rw [List.getD_eq_getElem?_getD, List.getElem?_eq_getElem hia2]; rfl
          rw [hgi] at hz
          obtain ⟨y, hy⟩ : ∃ y, y = a[i + 1] := ⟨_, rfl⟩
          rw [← hy] at qb hy1 hz
          clear hy hgi hca
          obtain ⟨z, hzz⟩ : ∃ z, z = (shrL 1073741824 a)[i] := ⟨_, rfl⟩
          rw [← hzz] at hz htk
          obtain ⟨V, hV⟩ : ∃ V, V = x + 4294967296 * y := ⟨_, rfl⟩
          rw [← hV] at hz
          have f1 : bits BinOp.or IntKind.u64 (x : Int) ((y : Int) * 4294967296) = (V : Int) := by
            have e := or64 x (y * 4294967296) (by omega) (by omega)
            rw [or_words x y hx1 hy1, ← hV] at e
            rw [← e]
            first | (congr 1; done) | (congr 1; omega)
          have f2 : (V : Int) / 1073741824 % 4294967296 = (z : Int) := by omega
          have hrow2 : VRow (wr.setCell ⟨w.heap.size, i, none⟩ (.int .u32 (z : Int))) w.heap.size 179 n (uF ((shrL 1073741824 a).take (i + 1))) := by rw [htk]; exact uF_set hrow hlt2 rfl
          have HR2 := hide hrow2
          have HO2 := hide (only_setCell honly i (.int .u32 (z : Int)))
          have j1 : (i : Int) + 1 < (n : Int) := by omega
          have j0 : (0 : Int) ≤ (i : Int) + 1 := by omega
          have qb2 := qb
          rw [← Nat.add_assoc] at qb2
          clear hz htk hzz hV hrow honly hrow2 hlt2
          go_wp2_with fail
          go_roundw
          case rel => exact ⟨i + 1, by omega, by go_num, HR2.out, HO2.out⟩
          case measure => simp [intOf]; omega
        · have hgi : a.getD (i + 1) 0 = 0 := getD_past (by have := Ha.out; omega)
          rw [hgi] at hz
          clear hgi hca
          obtain ⟨z, hzz⟩ : ∃ z, z = (shrL 1073741824 a)[i] := ⟨_, rfl⟩
          rw [← hzz] at hz htk
          have f2 : (x : Int) / 1073741824 % 4294967296 = (z : Int) := by omega
          have f3 : (x : Int) / 1073741824 = (z : Int) := by omega
          have hrow2 : VRow (wr.setCell ⟨w.heap.size, i, none⟩ (.int .u32 (z : Int))) w.heap.size 179 n (uF ((shrL 1073741824 a).take (i + 1))) := by rw [htk]; exact uF_set hrow hlt2 rfl
          have HR2 := hide hrow2
          have HO2 := hide (only_setCell honly i (.int .u32 (z : Int)))
          have j1 : ¬ (i : Int) + 1 < (n : Int) := by omega
          clear hz htk hzz hrow honly hrow2 hlt2 f2
          go_wp2_with fail
          go_roundw
          case rel => exact ⟨i + 1, by omega, by go_num, HR2.out, HO2.out⟩
          case measure => simp [intOf]; omega
      · have hin : i = n := by omega
        subst hin
        have hal : (shrL 1073741824 a).length = i := by rw [shrL_len]; exact Ha.out
        have htk : (shrL 1073741824 a).take i = shrL 1073741824 a := List.take_of_length_le (by omega)
        rw [htk] at hrow
        have hdig := shrL_dig (d := 1073741824) (by decide) a hda
        have hval := shrL_val (d := 1073741824) (e := 4) (by decide) (by decide) a hda
        have hle := qdigs_le _ hdig
        rw [hal, hval] at hle
        have hrow2 := hrow.words hal
        clear htk
        go_wp2_with fail
        refine (qtrim_any _ hdig _ i i _ hrow2 (by omega) (by omega)).mono ?_
        rintro e w2 ⟨rfl, hr, k, rfl⟩
        rw [hval] at hr ⊢
        go_wp2_with fail
        go_ret
        exact ⟨some ⟨w.heap.size, 0, none⟩, i, rfl, hr.below (bdrewN (Below.refl _ _) k), fun a o s e => (by injection e with e; injection e with e; omega), hle, (fun e => by cases e), bdrewN hbw k⟩

set_option maxHeartbeats 2000000 in
set_option maxRecDepth 100000 in
theorem qleft_31 (a : List Nat) (A : Option Addr) (n c : Nat) (w : World) (hda : QDig a) (h0 : 0 < n) (hn : n ≤ 900) (ha : Rd w 1 uEnc A n a) :
    Calls Tryz.prog 129 #[.slice A n c, .int .u64 31] w
      fun e w' => ∃ g c', e = .returned (.slice (some ⟨g, 0, none⟩) (qdigs (qval a * 2147483648)).length c') ∧ Rd w' 1 uEnc (some ⟨g, 0, none⟩) (qdigs (qval a * 2147483648)).length (qdigs (qval a * 2147483648)) ∧ (qdigs (qval a * 2147483648)).length ≤ c' ∧ w.heap.size ≤ g ∧ Below w.heap.size w w' := by
  have Ha := hide ha.1
  have hmk := mk_u32 (n + 1) (by omega)
  have hmk' : ∀ w : World, (Instr.makeSlice 77 (.int .i64 ((n : Int) + 1)) (.int .i64 ((n : Int) + 1))).run Tryz.prog w = .ok (.slice (some ⟨w.heap.size, 0, none⟩) (n + 1) (n + 1)) (w.alloc (.cells (Array.replicate (n + 1) (.int .u32 0)) 179)) := fun w => by simpa using hmk w
  have hnz : ((n : Int) == 0) = false := by rw [beq_eq_false_iff_ne]; omega
  clear hmk h0
  go_enter Tryz.func129, Tryz.ntmps129
  go_wp2_with fail
  have hrow0 : VRow (w.alloc (.cells (Array.replicate (n + 1) (.int .u32 0)) 179)) w.heap.size 179 (n + 1) (uF ([] ++ [0])) := (VRow.made w 179 (n + 1) (.int .u32 0)).congr (fun j _ => by unfold uF; cases j <;> simp)
  have hb1 : Below w.heap.size w (w.alloc (.cells (Array.replicate (n + 1) (.int .u32 0)) 179)) := (Below.refl _ _).alloc (Nat.le_refl _) _
  generalize w.alloc (.cells (Array.replicate (n + 1) (.int .u32 0)) 179) = w1 at hrow0 hb1 ⊢
  go_loopw [8] (fun iv wr => ∃ (i cr : Nat) (pre : List Nat), i ≤ n ∧ iv = .int .i64 i ∧ MulAt a 2147483648 i cr pre ∧ cr < 2147483648 ∧ VRow wr w.heap.size 179 (n + 1) (uF (pre ++ [cr])) ∧ w1.grownBy wr (some w.heap.size)) (fun iv _ => n - (intOf iv).toNat)
  case atStart => exact ⟨0, 0, [], by omega, rfl, MulAt.zero _ _, by decide, hrow0, only_refl _ _⟩
  case round =>
    obtain ⟨i, cr, pre, hi, rfl, hat, hcD, hrow, honly⟩ := hrel
    have hbw := below_only hb1 (Nat.le_refl _) (Nat.le_refl _) honly
    have hpl := hat.2.1
    have HAT := hide hat
    by_cases hlt : i < n
    · have hia : i < a.length := by have := Ha.out; omega
      obtain ⟨ab, ao, rfl, hca⟩ := (ha.below hbw).2 (by omega)
      have qa := hca i 0 _ hia rfl
      rw [Nat.mul_one, Nat.add_zero] at qa
      clear hca
      have hx1 := hda a[i] (List.getElem_mem hia)
      have hsu := hat.succ hda (by decide) hia
      obtain ⟨x, hx⟩ : ∃ x, x = a[i] := ⟨_, rfl⟩
      rw [← hx] at qa hx1 hsu
      obtain ⟨s1, s2, s3, s4⟩ := shl_low (s := 31) (by decide) (by decide) hx1 (show cr < 2 ^ 31 from hcD)
      rw [show (2 : Nat) ^ 31 = 2147483648 from by decide] at s1 s2 s3 s4
      obtain ⟨X, hX⟩ : ∃ X, X = x * 2147483648 := ⟨_, rfl⟩
      rw [← hX] at s1 s2 s3 s4 hsu
      obtain ⟨xl, hxl⟩ : ∃ xl, xl = X % 4294967296 := ⟨_, rfl⟩
      obtain ⟨lo, hlo⟩ : ∃ lo, lo = (X + cr) % 4294967296 := ⟨_, rfl⟩
      obtain ⟨hv, hhv⟩ : ∃ hv, hv = (X + cr) / 4294967296 := ⟨_, rfl⟩
      rw [← hxl] at s1
      rw [← hlo] at s1 hsu
      rw [← hhv] at s2 s3 hsu
      have HSU := hide hsu
      have H3 := hide s3
      have hxl2 : xl < 4294967296 := by omega
      have hcr2 : cr < 4294967296 := by omega
      have hhv2 : hv < 4294967296 := by omega
      have f1 : (x : Int) * 2147483648 = (X : Int) := by omega
      have f2 : (X : Int) % 4294967296 = (xl : Int) := by omega
      have f3 : bits BinOp.or IntKind.u32 (cr : Int) (xl : Int) = (lo : Int) := by rw [or32 cr xl hcr2 hxl2, s1]
      have f4 : (X : Int) / 4294967296 = (hv : Int) := by omega
      have f5 : (hv : Int) % 4294967296 = (hv : Int) := by omega
      have f6 : bits BinOp.or IntKind.u32 0 (hv : Int) = (hv : Int) := by
        have := or32 0 hv (by decide) hhv2
        rwa [Nat.zero_or] at this
      have f7 : (X : Int) < 18446744073709551616 := by omega
      have f8 : IntKind.u64.wrap (X : Int) = (X : Int) := by rw [wrap_u64]; omega
      have qr : wr.cell? ⟨w.heap.size, i, none⟩ = some (.int .u32 (cr : Int)) := by rw [hrow.cell i (by omega), uF_at (getD_last hpl)]
      have qz : wr.cell? ⟨w.heap.size, i + 1, none⟩ = some (.int .u32 0) := by rw [hrow.cell (i + 1) (by omega), uF_at (getD_past (by simp; omega))]; rfl
      have fr := hrow.frozen i
      have fz := hrow.frozen (i + 1)
      have i0 : (0 : Int) ≤ (i : Int) := by omega
      have i1 : (i : Int) < (n : Int) := by omega
      have i2 : (i : Int) < (n : Int) + 1 := by omega
      have i3 : (i : Int) + 1 < (n : Int) + 1 := by omega
      have i4 : (0 : Int) ≤ (i : Int) + 1 := by omega
      have hrow2 : VRow ((wr.setCell ⟨w.heap.size, i, none⟩ (.int .u32 (lo : Int))).setCell ⟨w.heap.size, i + 1, none⟩ (.int .u32 (hv : Int))) w.heap.size 179 (n + 1) (uF (pre ++ [lo] ++ [hv])) := uF_set (uF_last hrow hpl rfl) (by simp; omega) rfl
      have ho2 : w1.grownBy ((wr.setCell ⟨w.heap.size, i, none⟩ (.int .u32 (lo : Int))).setCell ⟨w.heap.size, i + 1, none⟩ (.int .u32 (hv : Int))) (some w.heap.size) := only_setCell (only_setCell honly _ _) _ _
      have HR2 := hide hrow2
      have HO2 := hide ho2
      clear hat hsu hlo hhv hx hX hxl s1 s2 s3 s4 hrow2 ho2 hrow honly hcD HAT
      go_wp2_with fail
      go_roundw
      case rel => exact ⟨i + 1, hv, pre ++ [lo], by omega, by go_num, HSU.out, H3.out, HR2.out, HO2.out⟩
      case measure => simp [intOf]; omega
    · have hin : i = n := by omega
      subst hin
      have hE := MulAt.end (a := a) (d := 2147483648) (pre := pre) (cr := cr) (by have := HAT.out; rwa [Ha.out])
      have hlen : (pre ++ [cr]).length = i + 1 := by rw [List.length_append, hpl]; rfl
      have hval := mulL_val a 2147483648 0
      have hdig := mulL_dig a 2147483648 0 hda (by decide) (by omega)
      rw [hE] at hval hdig
      rw [Nat.add_zero] at hval
      have hle := qdigs_le _ hdig
      rw [hlen, hval] at hle
      have hrow2 := hrow.words hlen
      clear hE hat HAT
      go_wp2_with fail
      refine (qtrim_any _ hdig _ (i + 1) (i + 1) _ hrow2 (by omega) (by omega)).mono ?_
      rintro e w2 ⟨rfl, hr, k, rfl⟩
      rw [hval] at hr ⊢
      go_wp2_with fail
      go_ret
      exact ⟨w.heap.size, i + 1, rfl, hr.below (bdrewN (Below.refl _ _) k), hle, Nat.le_refl _, bdrewN hbw k⟩

set_option maxHeartbeats 2000000 in
set_option maxRecDepth 100000 in
theorem qright_31 (a : List Nat) (A : Option Addr) (n c : Nat) (w : World) (hda : QDig a) (hn : n ≤ 900) (ha : Rd w 1 uEnc A n a) :
    Calls Tryz.prog 130 #[.slice A n c, .int .u64 31] w (GivesZ w (qval a / 2147483648)) := by
  have Ha := hide ha.1
  by_cases h0 : n = 0
  · subst h0
    have hv : qval a / 2147483648 = 0 := by
      have : a = [] := List.eq_nil_of_length_eq_zero Ha.out
      rw [this]; rfl
    have HV := hide hv
    clear hv
    go_enter Tryz.func130, Tryz.ntmps130
    go_wp2_with fail
    go_ret
    refine ⟨none, 0, ?_, ?_, (fun a o s e => by cases e), ?_, (fun _ => rfl), Below.refl _ _⟩
    · rw [HV.out, qdigs_0]; rfl
    · rw [HV.out, qdigs_0]; exact Rd.nil _ _ _ _
    · rw [HV.out, qdigs_0]; simp
  · have hmk := mk_u32 n (by omega)
    have hnz : ¬ (n : Int) ≤ 0 := by omega
    have hnz2 : (0 : Int) < (n : Int) := by omega
    clear h0
    go_enter Tryz.func130, Tryz.ntmps130
    go_wp2_with fail
    have hrow0 : VRow (w.alloc (.cells (Array.replicate n (.int .u32 0)) 179)) w.heap.size 179 n (uF ((shrL 2147483648 a).take 0)) := (VRow.made w 179 n (.int .u32 0)).congr (fun j _ => by unfold uF; simp)
    have hb1 : Below w.heap.size w (w.alloc (.cells (Array.replicate n (.int .u32 0)) 179)) := (Below.refl _ _).alloc (Nat.le_refl _) _
    generalize w.alloc (.cells (Array.replicate n (.int .u32 0)) 179) = w1 at hrow0 hb1 ⊢
    go_loopw [8] (fun iv wr => ∃ i : Nat, i ≤ n ∧ iv = .int .i64 i ∧ VRow wr w.heap.size 179 n (uF ((shrL 2147483648 a).take i)) ∧ w1.grownBy wr (some w.heap.size)) (fun iv _ => n - (intOf iv).toNat)
    case atStart => exact ⟨0, by omega, rfl, hrow0, only_refl _ _⟩
    case round =>
      obtain ⟨i, hi, rfl, hrow, honly⟩ := hrel
      have hbw := below_only hb1 (Nat.le_refl _) (Nat.le_refl _) honly
      by_cases hlt : i < n
      · have hia : i < a.length := by have := Ha.out; omega
        obtain ⟨ab, ao, rfl, hca⟩ := (ha.below hbw).2 (by omega)
        have qa := hca i 0 _ hia rfl
        rw [Nat.mul_one, Nat.add_zero] at qa
        have hx1 := hda a[i] (List.getElem_mem hia)
        have hil : i < (shrL 2147483648 a).length := by rw [shrL_len]; exact hia
        have hz := shrL_at (d := 2147483648) (by decide) a i hil hda
        have hgi : a.getD i 0 = a[i] := by rw [List.getD_eq_getElem?_getD, List.getElem?_eq_getElem hia]; rfl
        rw [hgi] at hz
        have htk : (shrL 2147483648 a).take (i + 1) = (shrL 2147483648 a).take i ++ [(shrL 2147483648 a)[i]] := List.take_succ_eq_append_getElem hil
        have hlt2 : ((shrL 2147483648 a).take i).length = i := by rw [List.length_take]; omega
        obtain ⟨x, hx⟩ : ∃ x, x = a[i] := ⟨_, rfl⟩
        rw [← hx] at qa hx1 hz
        clear hx hgi
        have qr := hrow.cell i (by omega)
        have fr := hrow.frozen i
        have i0 : (0 : Int) ≤ (i : Int) := by omega
        have i1 : (i : Int) < (n : Int) := by omega
        by_cases hnx : i + 1 < n
        · have hia2 : i + 1 < a.length := by have := Ha.out; omega
          have qb := hca (i + 1) 0 _ hia2 rfl
          rw [Nat.mul_one, Nat.add_zero] at qb
          have hy1 := hda a[i + 1] (List.getElem_mem hia2)
          have hgi : a.getD (i + 1) 0 = a[i + 1] := by rw [List.getD_eq_getElem?_getD, List.getElem?_eq_getElem hia2]; rfl
          rw [hgi] at hz
          obtain ⟨y, hy⟩ : ∃ y, y = a[i + 1] := ⟨_, rfl⟩
          rw [← hy] at qb hy1 hz
          clear hy hgi hca
          obtain ⟨z, hzz⟩ : ∃ z, z = (shrL 2147483648 a)[i] := ⟨_, rfl⟩
          rw [← hzz] at hz htk
          obtain ⟨V, hV⟩ : ∃ V, V = x + 4294967296 * y := ⟨_, rfl⟩
          rw [← hV] at hz
          have f1 : bits BinOp.or IntKind.u64 (x : Int) ((y : Int) * 4294967296) = (V : Int) := by
            have e := or64 x (y * 4294967296) (by omega) (by omega)
            rw [or_words x y hx1 hy1, ← hV] at e
            rw [← e]
            first | (congr 1; done) | (congr 1; omega)
          have f2 : (V : Int) / 2147483648 % 4294967296 = (z : Int) := by omega
          have hrow2 : VRow (wr.setCell ⟨w.heap.size, i, none⟩ (.int .u32 (z : Int))) w.heap.size 179 n (uF ((shrL 2147483648 a).take (i + 1))) := by rw [htk]; exact uF_set hrow hlt2 rfl
          have HR2 := hide hrow2
          have HO2 := hide (only_setCell honly i (.int .u32 (z : Int)))
          have j1 : (i : Int) + 1 < (n : Int) := by omega
          have j0 : (0 : Int) ≤ (i : Int) + 1 := by omega
          have qb2 := qb
          rw [← Nat.add_assoc] at qb2
          clear hz htk hzz hV hrow honly hrow2 hlt2
          go_wp2_with fail
          go_roundw
          case rel => exact ⟨i + 1, by omega, by go_num, HR2.out, HO2.out⟩
          case measure => simp [intOf]; omega
        · have hgi : a.getD (i + 1) 0 = 0 := getD_past (by have := Ha.out; omega)
          rw [hgi] at hz
          clear hgi hca
          obtain ⟨z, hzz⟩ : ∃ z, z = (shrL 2147483648 a)[i] := ⟨_, rfl⟩
          rw [← hzz] at hz htk
          have f2 : (x : Int) / 2147483648 % 4294967296 = (z : Int) := by omega
          have f3 : (x : Int) / 2147483648 = (z : Int) := by omega
          have hrow2 : VRow (wr.setCell ⟨w.heap.size, i, none⟩ (.int .u32 (z : Int))) w.heap.size 179 n (uF ((shrL 2147483648 a).take (i + 1))) := by rw [htk]; exact uF_set hrow hlt2 rfl
          have HR2 := hide hrow2
          have HO2 := hide (only_setCell honly i (.int .u32 (z : Int)))
          have j1 : ¬ (i : Int) + 1 < (n : Int) := by omega
          clear hz htk hzz hrow honly hrow2 hlt2 f2
          go_wp2_with fail
          go_roundw
          case rel => exact ⟨i + 1, by omega, by go_num, HR2.out, HO2.out⟩
          case measure => simp [intOf]; omega
      · have hin : i = n := by omega
        subst hin
        have hal : (shrL 2147483648 a).length = i := by rw [shrL_len]; exact Ha.out
        have htk : (shrL 2147483648 a).take i = shrL 2147483648 a := List.take_of_length_le (by omega)
        rw [htk] at hrow
        have hdig := shrL_dig (d := 2147483648) (by decide) a hda
        have hval := shrL_val (d := 2147483648) (e := 2) (by decide) (by decide) a hda
        have hle := qdigs_le _ hdig
        rw [hal, hval] at hle
        have hrow2 := hrow.words hal
        clear htk
        go_wp2_with fail
        refine (qtrim_any _ hdig _ i i _ hrow2 (by omega) (by omega)).mono ?_
        rintro e w2 ⟨rfl, hr, k, rfl⟩
        rw [hval] at hr ⊢
        go_wp2_with fail
        go_ret
        exact ⟨some ⟨w.heap.size, 0, none⟩, i, rfl, hr.below (bdrewN (Below.refl _ _) k), fun a o s e => (by injection e with e; injection e with e; omega), hle, (fun e => by cases e), bdrewN hbw k⟩

theorem qleft_any (a : List Nat) (s : Nat) (A : Option Addr) (n c : Nat) (w : World) (hs0 : 29 ≤ s) (hs : s ≤ 31) (hda : QDig a) (h0 : 0 < n) (hn : n ≤ 900) (ha : Rd w 1 uEnc A n a) :
    Calls Tryz.prog 129 #[.slice A n c, .int .u64 (s : Int)] w
      fun e w' => ∃ g c', e = .returned (.slice (some ⟨g, 0, none⟩) (qdigs (qval a * 2 ^ s)).length c') ∧ Rd w' 1 uEnc (some ⟨g, 0, none⟩) (qdigs (qval a * 2 ^ s)).length (qdigs (qval a * 2 ^ s)) ∧ (qdigs (qval a * 2 ^ s)).length ≤ c' ∧ w.heap.size ≤ g ∧ Below w.heap.size w w' := by
  rcases (show s = 29 ∨ s = 30 ∨ s = 31 by omega) with rfl | rfl | rfl
  · exact qleft_29 a A n c w hda h0 hn ha
  · exact qleft_30 a A n c w hda h0 hn ha
  · exact qleft_31 a A n c w hda h0 hn ha
theorem qright_any (a : List Nat) (s : Nat) (A : Option Addr) (n c : Nat) (w : World) (hs0 : 29 ≤ s) (hs : s ≤ 31) (hda : QDig a) (hn : n ≤ 900) (ha : Rd w 1 uEnc A n a) :
    Calls Tryz.prog 130 #[.slice A n c, .int .u64 (s : Int)] w (GivesZ w (qval a / 2 ^ s)) := by
  rcases (show s = 29 ∨ s = 30 ∨ s = 31 by omega) with rfl | rfl | rfl
  · exact qright_29 a A n c w hda hn ha
  · exact qright_30 a A n c w hda hn ha
  · exact qright_31 a A n c w hda hn ha
end Go.Proofs.YtbdbpcllndajgaaGreatDoor

namespace Go.Proofs.YtbdbpcllndajgaaGreatDoor
open Go Go.RowKit
set_option linter.unusedVariables false

set_option maxHeartbeats 2000000 in
set_option maxRecDepth 100000 in
theorem qmul_any (m d : Nat) (A YA : Option Addr) (c dc : Nat) (w : World) (hm : m < 18446744073709551616) (hd : d < 4294967296) (ha : Rd w 1 uEnc A (qdigs m).length (qdigs m)) (hb : Rd w 1 uEnc YA (qdigs d).length (qdigs d)) :
    Calls Tryz.prog 78 #[.slice A (qdigs m).length c, .slice YA (qdigs d).length dc] w fun e w' => ∃ (A' : Option Addr) (c' : Nat), e = .returned (.slice A' (qdigs (m * d)).length c') ∧ (m * d = 0 → A' = none ∧ c' = 0) ∧
      Rd w' 1 uEnc A' (qdigs (m * d)).length (qdigs (m * d)) ∧ (∀ a o s, A' = some ⟨a, o, s⟩ → w.heap.size ≤ a) ∧ (qdigs (m * d)).length ≤ c' ∧ Below w.heap.size w w' := by
  have hl2 := qlen_2 hm
  by_cases h0 : m = 0
  · subst h0
    rw [Nat.zero_mul, qdigs_0]
    go_enter Tryz.func78, Tryz.ntmps78
    go_wp2_with fail
    go_ret
    exact ⟨none, 0, rfl, fun _ => ⟨rfl, rfl⟩, Rd.nil _ _ _ _, (fun a o s e => by cases e), Nat.le_refl _, Below.refl _ _⟩
  · by_cases h1 : d = 0
    · subst h1
      rw [Nat.mul_zero, qdigs_0]
      have hp := qlen_pos (p := m) (by omega)
      obtain ⟨n, hn⟩ : ∃ n, n = (qdigs m).length := ⟨_, rfl⟩
      rw [← hn] at hp ⊢
      have hz : ((n : Int) == 0) = false := by rw [beq_eq_false_iff_ne]; omega
      clear hn ha hb hl2
      go_enter Tryz.func78, Tryz.ntmps78
      go_wp2_with fail
      go_ret
      exact ⟨none, 0, rfl, fun _ => ⟨rfl, rfl⟩, Rd.nil _ _ _ _, (fun a o s e => by cases e), Nat.le_refl _, Below.refl _ _⟩
    · rw [qdigs_one h1 hd] at hb ⊢
      obtain ⟨yb, yo, rfl, _⟩ := hb.2 (by simp)
      have d0 := qcell hb 0 (by simp)
      rw [Nat.add_zero] at d0
      simp only [List.getElem_cons_zero] at d0
      obtain ⟨ws, hws⟩ : ∃ ws, ws = qdigs m := ⟨_, rfl⟩
      have hdg : QDig ws := by rw [hws]; exact qdigs_dig m
      have hv : qval ws = m := by rw [hws]; exact qval_digs m
      have hp := qlen_pos (p := m) (by omega)
      rw [← hws] at ha hl2 hp ⊢
      obtain ⟨n, hn⟩ : ∃ n, n = ws.length := ⟨_, rfl⟩
      rw [← hn] at ha hl2 hp ⊢
      have HN := hide hn
      have HV := hide hv
      have HDG := hide hdg
      have HNZ : Hid (m * d ≠ 0) := by show _ ≠ _; exact Nat.mul_ne_zero h0 h1
      have hz : ((n : Int) == 0) = false := by rw [beq_eq_false_iff_ne]; omega
      have hmk := mk_u32 (n + 1) (by omega)
      have hmk' : ∀ w : World, (Instr.makeSlice 77 (.int .i64 ((n : Int) + 1)) (.int .i64 ((n : Int) + 1))).run Tryz.prog w = .ok (.slice (some ⟨w.heap.size, 0, none⟩) (n + 1) (n + 1)) (w.alloc (.cells (Array.replicate (n + 1) (.int .u32 0)) 179)) := fun w => by simpa using hmk w
      have hyl := World.block_lt_of_cell? _ _ d0
      clear hmk hws hn hdg hv h0 h1
      go_enter Tryz.func78, Tryz.ntmps78
      go_wp2_with fail
      have hrow0 : VRow (w.alloc (.cells (Array.replicate (n + 1) (.int .u32 0)) 179)) w.heap.size 179 (n + 1) (uF ([] ++ [0])) := (VRow.made w 179 (n + 1) (.int .u32 0)).congr (fun j _ => by unfold uF; cases j <;> simp)
      have hb1 : Below w.heap.size w (w.alloc (.cells (Array.replicate (n + 1) (.int .u32 0)) 179)) := (Below.refl _ _).alloc (Nat.le_refl _) _
      generalize w.alloc (.cells (Array.replicate (n + 1) (.int .u32 0)) 179) = w1 at hrow0 hb1 ⊢
      go_loopw [6] (fun iv wr => ∃ (i cr : Nat) (pre : List Nat), i ≤ n ∧ iv = .int .i64 i ∧ MulAt ws d i cr pre ∧ VRow wr w.heap.size 179 (n + 1) (uF (pre ++ [cr])) ∧ w1.grownBy wr (some w.heap.size)) (fun iv _ => n - (intOf iv).toNat)
      case atStart => exact ⟨0, 0, [], by omega, rfl, MulAt.zero _ _, hrow0, only_refl _ _⟩
      case round =>
        obtain ⟨i, cr, pre, hi, rfl, hat, hrow, honly⟩ := hrel
        obtain ⟨wo, hwo⟩ : ∃ wo, wo = wr := ⟨_, rfl⟩
        subst hwo
        have hbw := below_only hb1 (Nat.le_refl _) (Nat.le_refl _) honly
        have hpl := hat.2.1
        have HAT := hide hat
        by_cases hlt : i < n
        · have hiw : i < ws.length := by have := HN.out; omega
          obtain ⟨ab, ao, rfl, hca⟩ := (ha.below hbw).2 (by omega)
          have qa := hca i 0 _ hiw rfl
          rw [Nat.mul_one, Nat.add_zero] at qa
          clear hca
          have qd := below_cell hbw hyl d0
          have hx1 := HDG.out ws[i] (List.getElem_mem hiw)
          have hsu := hat.succ HDG.out hd hiw
          obtain ⟨x, hx⟩ : ∃ x, x = ws[i] := ⟨_, rfl⟩
          rw [← hx] at qa hx1 hsu
          obtain ⟨h64, hhi⟩ := carry_lt hx1 hd hat.2.2
          have hcr := hat.2.2
          obtain ⟨p, hp'⟩ : ∃ p, p = x * d := ⟨_, rfl⟩
          rw [← hp'] at hsu h64 hhi
          have hpm : (x : Int) * (d : Int) = (p : Int) := by rw [hp']; exact (Int.natCast_mul _ _).symm
          obtain ⟨lo, hlo⟩ : ∃ lo, lo = (p + cr) % 4294967296 := ⟨_, rfl⟩
          obtain ⟨hv, hhv⟩ : ∃ hv, hv = (p + cr) / 4294967296 := ⟨_, rfl⟩
          rw [← hlo, ← hhv] at hsu
          have HSU := hide hsu
          have HLO := hide hlo
          have HHV := hide hhv
          have qr : wo.cell? ⟨w.heap.size, i, none⟩ = some (.int .u32 (cr : Int)) := by
            rw [hrow.cell i (by omega)]
            unfold uF
            rw [List.getD_eq_getElem?_getD, List.getElem?_append_right (by omega), show i - pre.length = 0 from by omega]
            rfl
          have fr := hrow.frozen i
          have i0 : (0 : Int) ≤ (i : Int) := by omega
          have i1 : (i : Int) < (n : Int) := by omega
          have i2 : (i : Int) < (n : Int) + 1 := by omega
          clear hat hsu hlo hhv hx hp'
          go_wp2_with fail
          go_loopw [7, 8] (fun cv jv wi => (jv = .int .i64 0 ∧ cv = .int .u64 0 ∧ wi = wo) ∨ (jv = .int .i64 1 ∧ cv = .int .u64 (hv : Int) ∧ ∃ k, wi = (wo.drewN k).setCell ⟨w.heap.size, i, none⟩ (.int .u32 (lo : Int)))) (fun _ jv _ => 1 - (intOf jv).toNat)
          case atStart => exact .inl ⟨rfl, rfl, rfl⟩
          case round =>
            rcases hrel with ⟨rfl, rfl, rfl⟩ | ⟨rfl, rfl, k, rfl⟩
            · go_wp2_with fail
              go_quiet (fail)
              have qr2 : (wr.drewN nq).cell? ⟨w.heap.size, i, none⟩ = some (.int .u32 (cr : Int)) := qr
              have fr2 : (wr.drewN nq).frozen? ⟨w.heap.size, i, none⟩ = false := fr
              clear qr fr qa qd
              go_wp2_with fail
              go_roundw
              case rel => exact .inr ⟨by go_num, by congr 1; have := HHV.out; omega, nq, by congr 2; have := HLO.out; omega⟩
              case measure => simp [intOf]
            · have hrow2 : VRow ((wo.drewN k).setCell ⟨w.heap.size, i, none⟩ (.int .u32 (lo : Int))) w.heap.size 179 (n + 1) (uF (pre ++ [lo])) := (VRow.set_ (show VRow (wo.drewN k) w.heap.size 179 (n + 1) (uF (pre ++ [cr])) from hrow) i _).congr fun j _ => by
                unfold uF
                by_cases h : j = i
                · subst h
                  rw [if_pos rfl, List.getD_eq_getElem?_getD, List.getElem?_append_right (by omega), show j - pre.length = 0 from by omega]
                  rfl
                · rw [if_neg h, List.getD_eq_getElem?_getD, List.getD_eq_getElem?_getD]
                  rcases Nat.lt_or_ge j pre.length with h1 | h1
                  · rw [List.getElem?_append_left h1, List.getElem?_append_left h1]
                  · rw [List.getElem?_eq_none (by simp; omega), List.getElem?_eq_none (by simp; omega)]
              have ho2 : w1.grownBy ((wo.drewN k).setCell ⟨w.heap.size, i, none⟩ (.int .u32 (lo : Int))) (some w.heap.size) := only_setCell (only_drewN honly k) _ _
              generalize (wo.drewN k).setCell ⟨w.heap.size, i, none⟩ (.int .u32 (lo : Int)) = wz at hrow2 ho2 ⊢
              have qz := hrow2.cell (i + 1) (by omega)
              have fz := hrow2.frozen (i + 1)
              have i3 : (i : Int) + 1 < (n : Int) + 1 := by omega
              have hvl : hv < 4294967296 := by have := HHV.out; omega
              clear qr fr qa qd
              go_wp2_with fail
              go_roundw
              case rel => exact ⟨i + 1, hv, pre ++ [lo], by omega, by go_num, HSU.out, uF_set hrow2 (by simp; omega) (by first | rfl | omega), only_setCell ho2 _ _⟩
              case measure => simp [intOf]; omega
        · have hin : i = n := by omega
          subst hin
          have hE := MulAt.end (a := ws) (d := d) (pre := pre) (cr := cr) (by have := HAT.out; rwa [← HN.out])
          have hlen : (pre ++ [cr]).length = i + 1 := by rw [List.length_append, hpl]; rfl
          have hval := mulL_val ws d 0
          have hdig := mulL_dig ws d 0 HDG.out hd (by omega)
          rw [hE] at hval hdig
          rw [Nat.add_zero, HV.out] at hval
          have hle := qdigs_le _ hdig
          rw [hlen, hval] at hle
          have hrow2 := hrow.words hlen
          clear hE hat HAT
          go_wp2_with fail
          refine (qtrim_any _ hdig _ (i + 1) (i + 1) _ hrow2 (by omega) (by omega)).mono ?_
          rintro e w2 ⟨rfl, hr, k, rfl⟩
          rw [hval] at hr ⊢
          go_wp2_with fail
          go_ret
          exact ⟨some ⟨w.heap.size, 0, none⟩, i + 1, rfl, fun h => absurd h HNZ.out, hr.below (bdrewN (Below.refl _ _) k), fun a o s e => by injection e with e; injection e with e; omega, hle, bdrewN hbw k⟩
set_option maxHeartbeats 2000000 in
set_option maxRecDepth 100000 in
theorem qMul_any {w : World} {B By g gy : Nat} {x y : Int} (hX : QAt w B g x) (hY : QAt w By gy y) (hB : B ≤ w.heap.size) (hx : x.natAbs < 18446744073709551616) (hy : y.natAbs < 4294967296) :
    Calls Tryz.prog 37 #[.pointer (some ⟨g, 0, none⟩), .pointer (some ⟨g, 0, none⟩), .pointer (some ⟨gy, 0, none⟩)] w
      fun e w' => e = .returned (.pointer (some ⟨g, 0, none⟩)) ∧ QAt w' B g (x * y) ∧ Below B w w' ∧ (x * y = 0 → w'.cell? ⟨g, 1, none⟩ = some (.slice none 0 0)) := by
  have c0 := hX.c0
  obtain ⟨A, c, c1, ha, hne, hc⟩ := hX.wds
  have d0 := hY.c0
  obtain ⟨YA, d, d1, hb, hne2, hd⟩ := hY.wds
  have HS := hide (qmul_any x.natAbs y.natAbs A YA c d w.drew hx hy (ha.below (bdrewN (Below.refl _ w) 1)) (hb.below (bdrewN (Below.refl _ w) 1)))
  have hgl : g < w.drew.heap.size := hX.lt
  have hgyl : gy < w.drew.heap.size := hY.lt
  have HSG := hide (sgn_mul2 x y)
  have hab : (x * y).natAbs = x.natAbs * y.natAbs := Int.natAbs_mul x y
  have HAB := hide hab
  clear hx hy ha hb hab
  obtain ⟨bx, hbx⟩ : ∃ bx, bx = decide (x < 0) := ⟨_, rfl⟩
  obtain ⟨bY, hbY⟩ : ∃ bY, bY = decide (y < 0) := ⟨_, rfl⟩
  rw [← hbx] at c0 HSG
  rw [← hbY] at d0 HSG
  clear hbx hbY
  go_enter Tryz.func37, Tryz.ntmps37
  go_wp2_with fail
  go_region_law (first
      | (go_simp; go_at_call 78; refine HS.out.mono ?_; rintro e w1 ⟨A1, c', rfl, hz, hr, hg1, hle, hb1⟩; have k0 := below_cell hb1 hgl c0; have k1 := below_cell hb1 hgl c1; have k2 := below_cell hb1 hgyl d0; have k3 := below_cell hb1 hgyl d1)
      | (go_simp; go_at_call 77; refine (qgive_any (bx != bY) _ g c' _ _ _ _ rfl rfl k0 k1 (fun o => (hb1.frozen (p := ⟨g, o, none⟩) hgl).trans (hX.fr o))).mono ?_; rintro e w2 ⟨rfl, k, rfl⟩))
  all_goals
    go_wp2_with fail
    go_ret
    have hbw : Below w.heap.size w w1 := (bdrewN (Below.refl _ w) 1).trans hb1
    have hQ := QAt.put (neg := (bx != bY)) hX.gB k0 k1 (fun o => (hb1.frozen (p := ⟨g, o, none⟩) hgl).trans (hX.fr o)) hr (fun a o z e => by have := hg1 a o z e; have : g < w.heap.size := hgl; have : w.heap.size ≤ w.drew.heap.size := Nat.le_refl _; omega) hle
    have hsg := HSG.out
    unfold sgn at hsg
    rw [hsg] at hQ
    refine ⟨rfl, hQ.below (bdrewN (Below.refl _ _) k), bdrewN (((hbw.mono hB).setCell hX.gB _).setCell hX.gB _) k, fun hxy => ?_⟩
    have hm0 : x.natAbs * y.natAbs = 0 := by rw [← HAB.out, hxy]; rfl
    obtain ⟨rfl, rfl⟩ := hz hm0
    rw [hm0, qdigs_0]
    exact (World.cell?_setCell_other _ _ _ _ (by simp)).trans (World.cell?_setCell_same _ ⟨g, 1, none⟩ _ k1)

set_option maxHeartbeats 2000000 in
set_option maxRecDepth 100000 in
theorem qQuoRem_any {w : World} {B By g gy gr p : Nat} {x : Int} (hX : QAt w B g x) (hY : QAt w By gy (p : Int)) (hB : B ≤ w.heap.size) (hx : x.natAbs < 18446744073709551616) (hp0 : 0 < p) (hp : p < 18446744073709551616) (hz : x = 0 → w.cell? ⟨g, 1, none⟩ = some (.slice none 0 0))
    (hgr : gr ≠ g) (hBr : B ≤ gr) (r0 : w.cell? ⟨gr, 0, none⟩ = some (.bool false)) (r1 : w.cell? ⟨gr, 1, none⟩ = some (.slice none 0 0)) (rf : ∀ o, w.frozen? ⟨gr, o, none⟩ = false) :
    Calls Tryz.prog 38 #[.pointer (some ⟨g, 0, none⟩), .pointer (some ⟨g, 0, none⟩), .pointer (some ⟨gy, 0, none⟩), .pointer (some ⟨gr, 0, none⟩)] w
      fun e w' => e = .returned (.tuple #[.pointer (some ⟨g, 0, none⟩), .pointer (some ⟨gr, 0, none⟩)]) ∧ QAt w' B g (x.tdiv (p : Int)) ∧ Below B w w' := by
  have c0 := hX.c0
  obtain ⟨A, c, c1, ha, hne, hc⟩ := hX.wds
  have d0 := hY.c0
  obtain ⟨YA, d, d1, hb, hne2, hd⟩ := hY.wds
  rw [show ((p : Int)).natAbs = p by simp] at d1 hb hd
  rw [show decide ((p : Int) < 0) = false from decide_eq_false (by omega)] at d0
  have hgl := hX.lt
  have hgyl := hY.lt
  have hrl := World.block_lt_of_cell? _ _ r0
  have hA0 : x.natAbs = 0 → A = none ∧ c = 0 := by
    intro h
    have h1 := hz (Int.natAbs_eq_zero.1 h)
    rw [c1] at h1
    injection h1 with h1
    injection h1 with e1 e2 e3
    exact ⟨e1, e3⟩
  have HS : Hid (∀ W : World, Below w.heap.size w W → Calls Tryz.prog 79 #[.slice A (qdigs x.natAbs).length c, .slice YA (qdigs p).length d] W fun e w' => ∃ (A' A2 : Option Addr) (c' c2 n2 : Nat), e = .returned (.tuple #[.slice A' (qdigs (x.natAbs / p)).length c', .slice A2 n2 c2]) ∧
      Rd w' 1 uEnc A' (qdigs (x.natAbs / p)).length (qdigs (x.natAbs / p)) ∧ (∀ a o s, A' = some ⟨a, o, s⟩ → W.heap.size ≤ a) ∧ (qdigs (x.natAbs / p)).length ≤ c' ∧ Below W.heap.size W w') := fun W hW =>
    qdiv_any x.natAbs p A YA c d W hx hp0 hp (ha.below hW) (hb.below hW) hA0
  have HSG := hide (sgn_tdiv2 x p)
  have HX := hide hX
  have HR := hide rf
  obtain ⟨bx, hbx⟩ : ∃ bx, bx = decide (x < 0) := ⟨_, rfl⟩
  rw [← hbx] at c0 HSG
  clear hbx hx hp0 hp hz hA0 ha hb hX hY rf
  go_enter Tryz.func38, Tryz.ntmps38
  go_wp2_with fail
  go_quiet (fail)
  have hwa : Below w.heap.size w (w.drewN nq) := bdrewN (Below.refl _ w) nq
  have c1 : (w.drewN nq).cell? ⟨g, 1, none⟩ = _ := c1
  have d1 : (w.drewN nq).cell? ⟨gy, 1, none⟩ = _ := d1
  have c0 : (w.drewN nq).cell? ⟨g, 0, none⟩ = _ := c0
  have r0 : (w.drewN nq).cell? ⟨gr, 0, none⟩ = _ := r0
  have r1 : (w.drewN nq).cell? ⟨gr, 1, none⟩ = _ := r1
  have hfg : ∀ o, (w.drewN nq).frozen? ⟨g, o, none⟩ = false := HX.out.fr
  have hfr : ∀ o, (w.drewN nq).frozen? ⟨gr, o, none⟩ = false := HR.out
  have hsa : (w.drewN nq).heap.size = w.heap.size := rfl
  generalize w.drewN nq = wa at hwa c1 d1 c0 r0 r1 hfg hfr hsa ⊢
  have HFG := hide hfg
  have HFR := hide hfr
  clear hfg hfr d0
  go_wp2_with fail
  go_region_law (go_simp; go_at_call 79; refine (HS.out _ (bdrewN hwa 1)).mono ?_; rintro e w1 ⟨A1, A2, c', c2, n2, rfl, hr, hg1, hle, hb1⟩)
  all_goals
    have hga : g < wa.drew.heap.size := by show g < wa.heap.size; omega
    have hgra : gr < wa.drew.heap.size := by show gr < wa.heap.size; omega
    have k0 := below_cell hb1 hga c0
    have k1 := below_cell hb1 hga c1
    have k2 := below_cell hb1 hgra r0
    have k3 := below_cell hb1 hgra r1
    have kf : ∀ o, w1.frozen? ⟨g, o, none⟩ = false := fun o => (hb1.frozen (p := ⟨g, o, none⟩) hga).trans (HFG.out o)
    have kr : ∀ o, w1.frozen? ⟨gr, o, none⟩ = false := fun o => (hb1.frozen (p := ⟨gr, o, none⟩) hgra).trans (HFR.out o)
    have h9 : wa.drew.heap.size = w.heap.size := hsa
    have h9b : (wa.drewN 1).heap.size = w.heap.size := hsa
    have HRD := hide hr
    have HG1 := hide hg1
    have HBE := hide hb1
    have HKF := hide kf
    have HKR := hide kr
    clear hr hg1 hb1 kf kr c1 d1 c0 r0 r1
    go_wp2_with fail
    refine (qgive_any bx _ g c' _ _ _ _ rfl rfl k0 k1 HKF.out).mono ?_
    rintro e w2 ⟨rfl, k, rfl⟩
    have hQ := QAt.put (neg := bx) HX.out.gB k0 k1 HKF.out HRD.out (fun a o z e => by have := HG1.out a o z e; omega) hle
    have hsg := HSG.out
    unfold sgn at hsg
    simp only [Bool.bne_false] at hsg
    rw [hsg] at hQ
    have hQ := hQ.below (bdrewN (Below.refl _ _) k)
    have hbW : Below B w ((((w1.setCell ⟨g, 1, none⟩ (.slice A1 (qdigs (x.natAbs / p)).length c')).setCell ⟨g, 0, none⟩ (.bool (bx && decide (0 < (qdigs (x.natAbs / p)).length))))).drewN k) :=
      bdrewN ((((((hwa.trans ((bdrewN (Below.refl _ wa) 1).trans HBE.out |>.mono (by omega)))).mono hB).setCell HX.out.gB _).setCell HX.out.gB _)) k
    have m2 : ((((w1.setCell ⟨g, 1, none⟩ (.slice A1 (qdigs (x.natAbs / p)).length c')).setCell ⟨g, 0, none⟩ (.bool (bx && decide (0 < (qdigs (x.natAbs / p)).length))))).drewN k).cell? ⟨gr, 0, none⟩ = some (.bool false) := (World.cell?_setCell_other _ _ _ _ (by simp; try omega)).trans ((World.cell?_setCell_other _ _ _ _ (by simp; try omega)).trans k2)
    have m3 : ((((w1.setCell ⟨g, 1, none⟩ (.slice A1 (qdigs (x.natAbs / p)).length c')).setCell ⟨g, 0, none⟩ (.bool (bx && decide (0 < (qdigs (x.natAbs / p)).length))))).drewN k).cell? ⟨gr, 1, none⟩ = some (.slice none 0 0) := (World.cell?_setCell_other _ _ _ _ (by simp; try omega)).trans ((World.cell?_setCell_other _ _ _ _ (by simp; try omega)).trans k3)
    have mf : ∀ o, ((((w1.setCell ⟨g, 1, none⟩ (.slice A1 (qdigs (x.natAbs / p)).length c')).setCell ⟨g, 0, none⟩ (.bool (bx && decide (0 < (qdigs (x.natAbs / p)).length))))).drewN k).frozen? ⟨gr, o, none⟩ = false := fun o => by
      show ((w1.setCell _ _).setCell _ _).frozen? _ = _
      simp [HKR.out o]
    have hfree : QFree ((((w1.setCell ⟨g, 1, none⟩ (.slice A1 (qdigs (x.natAbs / p)).length c')).setCell ⟨g, 0, none⟩ (.bool (bx && decide (0 < (qdigs (x.natAbs / p)).length))))).drewN k) g (some gr) := by
      refine ⟨fun e => hgr (by injection e), fun A' n' c'' hcell h0 a o s e he => ?_⟩
      have h5 : ((((w1.setCell ⟨g, 1, none⟩ (.slice A1 (qdigs (x.natAbs / p)).length c')).setCell ⟨g, 0, none⟩ (.bool (bx && decide (0 < (qdigs (x.natAbs / p)).length))))).drewN k).cell? ⟨g, 1, none⟩ = some (.slice A1 (qdigs (x.natAbs / p)).length c') := (World.cell?_setCell_other _ _ _ _ (by simp)).trans (World.cell?_setCell_same _ ⟨g, 1, none⟩ _ k1)
      rw [h5] at hcell
      injection hcell with hcell
      injection hcell with e1 _ _
      subst e1
      injection he with he
      have := HG1.out a o s e
      omega
    generalize ((((w1.setCell ⟨g, 1, none⟩ (.slice A1 (qdigs (x.natAbs / p)).length c')).setCell ⟨g, 0, none⟩ (.bool (bx && decide (0 < (qdigs (x.natAbs / p)).length))))).drewN k) = W2 at hQ hbW m2 m3 mf hfree ⊢
    have HQ := hide hQ
    have HBW := hide hbW
    have HMF := hide mf
    have HFE := hide hfree
    clear hQ hbW mf hfree k0 k1 k2 k3
    go_wp2_with fail
    refine (qgive_any bx n2 gr c2 A2 _ _ _ rfl rfl m2 m3 HMF.out).mono ?_
    rintro e w3 ⟨rfl, k3, rfl⟩
    go_wp2_with fail
    go_ret2
    have hg3 : W2.grownBy (((W2.setCell ⟨gr, 1, none⟩ (.slice A2 n2 c2)).setCell ⟨gr, 0, none⟩ (.bool (bx && decide (0 < n2)))).drewN k3) (some gr) := only_drewN (only_setCell (only_setCell (only_refl W2 (some gr)) _ _) _ _) k3
    exact ⟨rfl, (HQ.out.grown HFE.out hg3).1, bdrewN ((HBW.out.setCell hBr _).setCell hBr _) k3⟩
end Go.Proofs.YtbdbpcllndajgaaGreatDoor

namespace Go.Proofs.YtbdbpcllndajgaaGreatDoor
open Go Go.RowKit
set_option linter.unusedVariables false

set_option maxHeartbeats 2000000 in
set_option maxRecDepth 100000 in
theorem qsmall_any (a : List Nat) (d : Nat) (A : Option Addr) (n c : Nat) (w : World) (hda : QDig a) (hd0 : 0 < d) (hd : d < 4294967296) (ha : Rd w 1 uEnc A n a) (hn : n ≤ 900) :
    Calls Tryz.prog 127 #[.slice A n c, .int .u32 (d : Int)] w
      fun e w' => ∃ g c', e = .returned (.tuple #[.slice (some ⟨g, 0, none⟩) (qdigs (qval a / d)).length c', .int .u32 ((qval a % d : Nat) : Int)]) ∧ Rd w' 1 uEnc (some ⟨g, 0, none⟩) (qdigs (qval a / d)).length (qdigs (qval a / d)) ∧ (qdigs (qval a / d)).length ≤ c' ∧ w.heap.size ≤ g ∧ Below w.heap.size w w' := by
  have hmk := mk_u32 n (by omega)
  have Ha := hide ha.1
  have hpi : ((d : Int) == 0) = false := by rw [beq_eq_false_iff_ne]; omega
  have hpi2 : ¬ (d : Int) = 0 := by omega
  have hpi3 : ¬ (d : Int) ≤ 0 := by omega
  have HD0 := hide hd0
  clear hd0
  go_enter Tryz.func127, Tryz.ntmps127
  go_wp2_with fail
  have hrow0 : VRow (w.alloc (.cells (Array.replicate n (.int .u32 0)) 179)) w.heap.size 179 n (uF (List.replicate n 0 ++ [])) := (VRow.made w 179 n (.int .u32 0)).congr (fun j hj => by unfold uF; rw [List.append_nil, List.getD_eq_getElem?_getD, List.getElem?_replicate, if_pos hj]; rfl)
  have hb1 : Below w.heap.size w (w.alloc (.cells (Array.replicate n (.int .u32 0)) 179)) := (Below.refl _ _).alloc (Nat.le_refl _) _
  generalize w.alloc (.cells (Array.replicate n (.int .u32 0)) 179) = w1 at hrow0 hb1 ⊢
  go_loopw [7, 8] (fun rv iv wr => ∃ (i R : Nat) (qs : List Nat), i ≤ n ∧ iv = .int .i64 ((i : Int) - 1) ∧ rv = .int .u64 (R : Int) ∧ DivAt a d i R qs ∧ qs.length + i = n ∧ VRow wr w.heap.size 179 n (uF (List.replicate i 0 ++ qs)) ∧ w1.grownBy wr (some w.heap.size)) (fun _ iv _ => (intOf iv + 1).toNat)
  case atStart => exact ⟨n, 0, [], Nat.le_refl _, rfl, rfl, by have := DivAt.zero (a := a) (V := d) (i := n) (by rw [List.drop_of_length_le (by have := Ha.out; omega)]; exact HD0.out); rwa [List.drop_of_length_le (by have := Ha.out; omega)] at this, by simp, hrow0, only_refl _ _⟩
  case round =>
    obtain ⟨i, R, qs, hi, rfl, rfl, hdv, hlen, hrow, honly⟩ := hrel
    have HV := hide hdv
    have HL := hide hlen
    have hRd := hdv.lt
    have hbw := below_only hb1 (Nat.le_refl _) (Nat.le_refl _) honly
    clear hdv hlen
    by_cases hi0 : i = 0
    · subst hi0
      rw [show (((0 : Nat) : Int) - 1) = -1 from rfl]
      have hE := HV.out.end
      have hle := qdigs_le _ HV.out.dig
      have hl : qs.length = n := by have := HL.out; omega
      rw [hE.1, hl] at hle
      have hE2 := hide hE.2
      have hrow2 := VRow.words (l := qs) (by simpa using hrow) hl
      have hq := hE.1
      have HQ := hide hE.1
      clear hE hq
      go_wp2_with fail
      refine (qtrim_any _ HV.out.dig _ n n _ hrow2 (by omega) (by omega)).mono ?_
      rintro e w2 ⟨rfl, hr, k, rfl⟩
      rw [HQ.out] at hr ⊢
      go_wp2_with fail
      go_ret2
      exact ⟨w.heap.size, n, by rw [← hE2.out]; rfl, hr.below (bdrewN (Below.refl _ _) k), hle, Nat.le_refl _, bdrewN hbw k⟩
    · obtain ⟨j, rfl⟩ : ∃ j, i = j + 1 := ⟨i - 1, by omega⟩
      have hja : j < a.length := by have := Ha.out; omega
      obtain ⟨ab, ao, rfl, hca⟩ := (ha.below hbw).2 (by omega)
      have qa := hca j 0 _ hja rfl
      rw [Nat.mul_one, Nat.add_zero] at qa
      clear hca
      have hx1 := hda a[j] (List.getElem_mem hja)
      have hS := hide (HV.out.step hda hja)
      obtain ⟨x, hx⟩ : ∃ x, x = a[j] := ⟨_, rfl⟩
      rw [← hx] at qa hx1 hS
      clear hx
      have hR2 : R < 4294967296 := by omega
      have f1 := shl_or hR2 hx1
      obtain ⟨h, hh⟩ : ∃ h, h = R * 4294967296 + x := ⟨_, rfl⟩
      have hql : h / d < 4294967296 := by rw [hh]; exact limb_lt hRd hx1
      rw [← hh] at f1 hS
      obtain ⟨qv, hqv⟩ : ∃ q, q = h / d := ⟨_, rfl⟩
      obtain ⟨rv, hrv⟩ : ∃ r, r = h % d := ⟨_, rfl⟩
      rw [← hqv] at hql hS
      rw [← hrv] at hS
      have hq1 : (h : Int) / (d : Int) = (qv : Int) := by rw [hqv]; rfl
      have hq2 : (h : Int) % (d : Int) = (rv : Int) := by rw [hrv]; rfl
      have hq3 : (h : Int).tdiv (d : Int) = (qv : Int) := by rw [hqv]; rfl
      have hq4 : (h : Int).tmod (d : Int) = (rv : Int) := by rw [hrv]; rfl
      have hw1 : IntKind.u64.wrap (qv : Int) = (qv : Int) := by rw [wrap_u64]; omega
      have hw2 : (qv : Int) % 4294967296 = (qv : Int) := by omega
      have hh64 : (h : Int) < 18446744073709551616 := by omega
      clear hh hqv hrv
      have qr := hrow.cell j (by omega)
      have fr := hrow.frozen j
      have j0 : (0 : Int) ≤ (j : Int) := by omega
      have j1 : (j : Int) < (n : Int) := by omega
      rw [show (((j + 1 : Nat) : Int) - 1) = (j : Int) from by omega]
      go_wp2_with fail
      go_roundw
      case rel => exact ⟨j, rv, qv :: qs, by omega, by go_num, by congr 1, hS.out, by simp; have := HL.out; omega, uF_put hrow (by go_num), only_setCell honly _ _⟩
      case measure => simp [intOf]

end Go.Proofs.YtbdbpcllndajgaaGreatDoor
