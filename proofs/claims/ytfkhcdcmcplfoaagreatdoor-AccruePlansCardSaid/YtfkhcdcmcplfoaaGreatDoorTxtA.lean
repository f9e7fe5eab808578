/- A number below 128 as text: quarterdaybig's Text, dayref1.Digits. (Not built.) -/
import Derived.Test.YtfkhcdcmcplfoaaGreatDoorPairF
namespace Go.Proofs.YtfkhcdcmcplfoaaGreatDoor
open Go Go.RowKit
set_option linter.unusedVariables false

theorem dec_2C {x : Nat} (h : ¬ x < 10) (h2 : x < 100) : strOfNums (([48 + x / 10, 48 + x % 10] : List Nat).map fun (y : Nat) => (y : Int)) = ⟨(Lib.decDigits x).toArray⟩ := by
  rw [Lib.decDigits_two h (by omega)]
  have : ∀ x : Fin 100, strOfNums (([48 + x.val / 10, 48 + x.val % 10] : List Nat).map fun (y : Nat) => (y : Int)) = ⟨[UInt8.ofNat (48 + x.val / 10), UInt8.ofNat (48 + x.val % 10)].toArray⟩ := by decide +kernel
  exact this ⟨x, h2⟩
theorem dec_3C {x : Nat} (h : ¬ x < 100) (h2 : x < 128) : strOfNums (([48 + x / 100, 48 + x / 10 % 10, 48 + x % 10] : List Nat).map fun (y : Nat) => (y : Int)) = ⟨(Lib.decDigits x).toArray⟩ := by
  rw [Lib.decDigits, dif_neg (by omega), Lib.decDigits_two (by omega) (by omega)]
  have : ∀ x : Fin 128, strOfNums (([48 + x.val / 100, 48 + x.val / 10 % 10, 48 + x.val % 10] : List Nat).map fun (y : Nat) => (y : Int)) = ⟨([UInt8.ofNat (48 + x.val / 10 / 10), UInt8.ofNat (48 + x.val / 10 % 10)] ++ [UInt8.ofNat (48 + x.val % 10)]).toArray⟩ := by decide +kernel
  exact this ⟨x, h2⟩
theorem x128 {x d m : Nat} (hx : x < 128) (hd : d = x / 10) (hm : m = x % 10) : bits BinOp.or IntKind.u64 0 (x : Int) = (x : Int) ∧ IntKind.u64.wrap ((x : Int).tdiv 10) = (d : Int) ∧ (x : Int).tmod 10 = (m : Int) ∧ (d : Int) % 4294967296 = (d : Int) ∧ (m : Int) % 4294967296 = (m : Int) := by
  have : ∀ x : Fin 128, bits BinOp.or IntKind.u64 0 (x.val : Int) = (x.val : Int) ∧ IntKind.u64.wrap ((x.val : Int).tdiv 10) = ((x.val / 10 : Nat) : Int) ∧ (x.val : Int).tmod 10 = ((x.val % 10 : Nat) : Int) ∧ ((x.val / 10 : Nat) : Int) % 4294967296 = ((x.val / 10 : Nat) : Int) ∧ ((x.val % 10 : Nat) : Int) % 4294967296 = ((x.val % 10 : Nat) : Int) := by decide +kernel
  subst hd hm
  exact this ⟨x, hx⟩
set_option maxRecDepth 100000 in
theorem qsmallC (x d m : Nat) (hx : x < 128) (hd : d = x / 10) (hm : m = x % 10) (A : Option Addr) (c : Nat) (w : World) (ha : Rd w 1 uEnc A 1 [x]) :
    Calls Tryz.prog 102 #[.slice A 1 c, .int .u32 10] w
      fun e w' => ∃ A' c', e = .returned (.tuple #[.slice A' (qdigs d).length c', .int .u32 (m : Int)]) ∧ Rd w' 1 uEnc A' (qdigs d).length (qdigs d) ∧ (∀ b off s, A' = some ⟨b, off, s⟩ → w.heap.size ≤ b) ∧ Below w.heap.size w w' := by
  obtain ⟨b, off, rfl, hcs⟩ := ha.2 (by omega)
  have q0 := hcs 0 0 _ (by simp) rfl
  simp only [List.getElem_cons_zero, Nat.zero_mul, Nat.add_zero] at q0
  clear hcs
  have hmk : ∀ w : World, (Instr.makeSlice 79 (.int .i64 1) (.int .i64 1)).run Tryz.prog w = .ok (.slice (some ⟨w.heap.size, 0, none⟩) 1 1) (w.alloc (.cells (Array.replicate 1 (.int .u32 0)) 122)) := fun w => mk_u32 1 (by omega) w
  have hlt := World.block_lt_of_cell? _ _ q0
  obtain ⟨f1, f2, f3, f4, f5⟩ := x128 hx hd hm
  have f6 : (x : Int) / 10 = (d : Int) := by omega
  have f7 : (x : Int) % 10 = (m : Int) := by omega
  have HD := hide hd
  have HM := hide hm
  clear hd hm
  go_enter Tryz.func102, Tryz.ntmps102
  go_wp2_with fail
  have hbx : Below w.heap.size w (w.alloc (.cells #[.int .u32 0] 122)) := (Below.refl _ _).alloc (Nat.le_refl _) _
  have hrow : VRow (w.alloc (.cells #[.int .u32 0] 122)) w.heap.size 122 1 (fun _ => .int .u32 0) := VRow.made w 122 1 (.int .u32 0)
  have z0 := hrow.cell 0 (by omega)
  have zf := hrow.frozen 0
  have y0 := below_cell hbx hlt q0
  have hrow0 := hrow.congr (F' := uF []) (fun j _ => by unfold uF; simp)
  generalize (w.alloc (.cells #[.int .u32 0] 122)) = w1 at hbx z0 zf y0 hrow0 ⊢
  go_loopw [7, 8] (fun rv iv wr => (iv = .int .i64 0 ∧ rv = .int .u64 0 ∧ wr = w1) ∨ (iv = .int .i64 (-1) ∧ rv = .int .u64 (m : Int) ∧ wr = w1.setCell ⟨w.heap.size, 0, none⟩ (.int .u32 (d : Int)))) (fun _ iv _ => (intOf iv + 1).toNat)
  case atStart => exact .inl ⟨rfl, rfl, rfl⟩
  case round =>
    rcases hrel with ⟨rfl, rfl, rfl⟩ | ⟨rfl, rfl, rfl⟩
    · go_wp2_with fail
      go_roundw
      case rel => exact .inr ⟨rfl, by first | rfl | trivial | simp, by first | rfl | trivial | simp⟩
      case measure => simp [intOf]
    · go_wp2_with fail
      have hr2 := (uF_set (i := 0) (d := d) hrow0 rfl rfl).words rfl
      refine (qtrim_any [d] (by intro y hy; simp at hy; subst hy; have := HD.out; omega) _ 1 1 _ hr2 (by omega) (by omega)).mono ?_
      rintro e w2 ⟨rfl, hr, n, rfl⟩
      rw [qval_1] at hr ⊢
      go_wp2_with fail
      go_ret2
      exact ⟨_, _, rfl, hr, (fun b off s e => by injection e with e; injection e with e; omega), bdrewN (hbx.setCell (Nat.le_refl _) _) n⟩

set_option maxHeartbeats 1000000 in
set_option maxRecDepth 100000 in
theorem qtext128 {w : World} {B g x : Nat} (hx : x < 128) (h : QAt w B g (x : Int)) :
    Calls Tryz.prog 74 #[.pointer (some ⟨g, 0, none⟩), .int .i64 10] w fun e w' => e = .returned (.string ⟨(Lib.decDigits x).toArray⟩) ∧ Below w.heap.size w w' := by
  have c0 := h.c0
  obtain ⟨A, c, c1, ha, hne, hc⟩ := h.wds
  have hd0 : decide ((x : Int) < 0) = false := decide_eq_false (by omega)
  rw [hd0] at c0
  rw [show ((x : Int)).natAbs = x by simp] at c1 ha hc
  have hgl := h.lt
  obtain ⟨i0, hi0, hz0, hz1, hz2⟩ := info_parts u8_info
  clear hd0
  by_cases h0 : x = 0
  · subst h0
    rw [qdigs_0] at c1 ha hc
    have HD : Hid ((⟨(Lib.decDigits 0).toArray⟩ : ByteArray) = ⟨#[48]⟩) := by show _ = _; rw [Lib.decDigits_one (by omega)]; rfl
    clear h
    go_enter Tryz.func74, Tryz.ntmps74
    go_wp2_with fail
    go_ret
    exact ⟨by rw [HD.out]; rfl, Below.refl _ _⟩
  · have hq : qdigs x = [x] := by rw [qdigs_s h0, show x % 4294967296 = x by omega, show x / 4294967296 = 0 by omega, qdigs_0]
    rw [hq] at c1 ha hc
    have hA : A = none → c = 0 := by
      intro e
      obtain ⟨b, off, e2, _⟩ := ha.2 (by simp)
      rw [e] at e2; cases e2
    have H0 := hide h0
    have HQ := hide hq
    clear h h0 hq
    go_enter Tryz.func74, Tryz.ntmps74
    go_wp2_with fail
    refine (qtwin_any [x] A 1 c _ ha hA (by omega)).mono ?_
    rintro e w1 ⟨A1, cc1, rfl, hr1, hb1⟩
    go_wp2_with fail
    go_loopw [5, 6] (fun bv av wr => ∃ (k : Nat) (A' : Option Addr) (c' : Nat), k ≤ 3 ∧ av = .slice A' (qdigs (x / 10 ^ k)).length c' ∧ Rd wr 1 uEnc A' (qdigs (x / 10 ^ k)).length (qdigs (x / 10 ^ k)) ∧ Own wr w.heap.size 5 1 byEnc bv (dsTo x k) ∧ Below w.heap.size w wr ∧ Hid (k = 0 ∨ x / 10 ^ (k - 1) ≠ 0)) (fun bv _ _ => 3 - lenV bv)
    case atStart =>
      have e0 : qdigs (x / 10 ^ 0) = [x] := by rw [Nat.pow_zero, Nat.div_one]; exact HQ.out
      refine ⟨0, A1, cc1, by omega, by rw [e0]; rfl, by rw [e0]; exact hr1, Own.nil _ _ _ _ _, hb1, .inl rfl⟩
    case round =>
      obtain ⟨k, A', c', hk, rfl, hr, hown, hbr, hlast⟩ := hrel
      have c0r := below_cell hbr hgl c0
      have hsz := hbr.size
      obtain ⟨VA, vc, rfl, hvc, hvm⟩ := hown.form
      rw [dsTo_len] at hown hvc ⊢
      by_cases hy : x / 10 ^ k = 0
      · rw [hy, qdigs_0] at hr ⊢
        have hk12 : (k = 1 ∧ x < 10) ∨ (k = 2 ∧ ¬ x < 10 ∧ x < 100) ∨ (k = 3 ∧ ¬ x < 100) := by
          have h0 := H0.out
          have hl := hlast.out
          have : k = 0 ∨ k = 1 ∨ k = 2 ∨ k = 3 := by omega
          rcases this with rfl | rfl | rfl | rfl
          · rw [Nat.pow_zero, Nat.div_one] at hy; exact absurd hy h0
          · rw [Nat.pow_one] at hy; exact .inl ⟨rfl, by omega⟩
          · rcases hl with hl | hl
            · cases hl
            · rw [show 2 - 1 = 1 from rfl, Nat.pow_one] at hl
              rw [show 10 ^ 2 = 100 from rfl] at hy
              exact .inr (.inl ⟨rfl, by omega, by omega⟩)
          · rcases hl with hl | hl
            · cases hl
            · rw [show 10 ^ (3 - 1) = 100 from rfl] at hl
              exact .inr (.inr ⟨rfl, by omega⟩)
        clear hy
        rcases hk12 with ⟨rfl, hx1⟩ | ⟨rfl, hx1, hx2⟩ | ⟨rfl, hx1⟩
        · have hs := str_of_own hown (by omega)
          rw [dec_1 hx1] at hs
          obtain ⟨ds, hds⟩ : ∃ ds : ByteArray, ds = ⟨(Lib.decDigits x).toArray⟩ := ⟨_, rfl⟩
          rw [← hds] at hs
          have HDS := hide hds
          clear hds hx1
          go_wp2_with fail
          go_loopw [8, 9] (fun iv jv wz => iv = .int .i64 0 ∧ jv = .int .i64 0 ∧ wz = wr) (fun _ _ _ => 0)
          case atStart => exact ⟨rfl, rfl, rfl⟩
          case round =>
            obtain ⟨rfl, rfl, rfl⟩ := hrel
            go_wp2_with fail
            go_ret
            exact ⟨by show Ending.returned (Value.string ds) = _; rw [HDS.out], hbr⟩
        · obtain ⟨gb, hVA⟩ : ∃ gb, VA = some ⟨gb, 0, none⟩ := by
            rcases hown.2 with ⟨hv, h0⟩ | ⟨g', cap, cur, hv, _⟩
            · rw [dsTo_len] at h0; cases h0
            · injection hv with e1; exact ⟨g', e1⟩
          subst hVA
          have hd2 : dsTo x 2 = [48 + x % 10, 48 + x / 10] := by
            unfold dsTo
            simp [List.range_succ]
            omega
          rw [hd2] at hown
          have k0 := hown.cells byEnc_ok 0 0 (.int .u8 ((48 + x % 10 : Nat) : Int)) (by simp) rfl
          have k1 := hown.cells byEnc_ok 1 0 (.int .u8 ((48 + x / 10 : Nat) : Int)) (by simp) rfl
          have o1 := hown.store byEnc_ok 0 0 (48 + x / 10) (.int .u8 ((48 + x / 10 : Nat) : Int)) (by simp) (by omega) rfl
          have o2 := o1.store byEnc_ok 1 0 (48 + x % 10) (.int .u8 ((48 + x % 10 : Nat) : Int)) (by simp) (by omega) rfl
          have hgB := (hown.block gb rfl).1
          simp only [Nat.zero_mul, Nat.add_zero, Nat.one_mul, List.set_cons_zero, List.set_cons_succ] at k0 k1 o1 o2
          have hs := str_of_own o2 (by omega)
          rw [dec_2C hx1 hx2] at hs
          obtain ⟨ds, hds⟩ : ∃ ds : ByteArray, ds = ⟨(Lib.decDigits x).toArray⟩ := ⟨_, rfl⟩
          rw [← hds] at hs
          have HDS := hide hds
          obtain ⟨d0, hd0⟩ : ∃ d0, d0 = 48 + x % 10 := ⟨_, rfl⟩
          obtain ⟨d1, hd1⟩ : ∃ d1, d1 = 48 + x / 10 := ⟨_, rfl⟩
          rw [← hd0] at k0 hs
          rw [← hd1] at k1 hs
          obtain ⟨k0, k0f⟩ := k0
          obtain ⟨k1, k1f⟩ := k1
          clear hds hx1 hx2 hd2 hd0 hd1 o1 o2
          go_wp2_with fail
          go_loopw [8, 9] (fun iv jv wz => (iv = .int .i64 0 ∧ jv = .int .i64 1 ∧ wz = wr) ∨ (iv = .int .i64 1 ∧ jv = .int .i64 0 ∧ wz = (wr.setCell ⟨gb, 0, none⟩ (.int .u8 (d1 : Int))).setCell ⟨gb, 1, none⟩ (.int .u8 (d0 : Int)))) (fun iv jv _ => (intOf jv - intOf iv + 1).toNat)
          case atStart => exact .inl ⟨rfl, rfl, rfl⟩
          case round =>
            rcases hrel with ⟨rfl, rfl, rfl⟩ | ⟨rfl, rfl, rfl⟩
            · go_wp2_with fail
              go_roundw
              case rel => exact .inr ⟨rfl, rfl, by first | rfl | trivial | simp⟩
              case measure => simp [intOf]
            · go_wp2_with fail
              go_ret
              exact ⟨by show Ending.returned (Value.string ds) = _; rw [HDS.out], (hbr.setCell hgB _).setCell hgB _⟩
        · obtain ⟨gb, hVA⟩ : ∃ gb, VA = some ⟨gb, 0, none⟩ := by
            rcases hown.2 with ⟨hv, h0⟩ | ⟨g', cap, cur, hv, _⟩
            · rw [dsTo_len] at h0; cases h0
            · injection hv with e1; exact ⟨g', e1⟩
          subst hVA
          have hd2 : dsTo x 3 = [48 + x % 10, 48 + x / 10 % 10, 48 + x / 100] := by
            unfold dsTo
            simp [List.range_succ]
            omega
          rw [hd2] at hown
          have k0 := hown.cells byEnc_ok 0 0 (.int .u8 ((48 + x % 10 : Nat) : Int)) (by simp) rfl
          have k1 := hown.cells byEnc_ok 2 0 (.int .u8 ((48 + x / 100 : Nat) : Int)) (by simp) rfl
          have o1 := hown.store byEnc_ok 0 0 (48 + x / 100) (.int .u8 ((48 + x / 100 : Nat) : Int)) (by simp) (by omega) rfl
          have o2 := o1.store byEnc_ok 2 0 (48 + x % 10) (.int .u8 ((48 + x % 10 : Nat) : Int)) (by simp) (by omega) rfl
          have hgB := (hown.block gb rfl).1
          simp only [Nat.add_zero, Nat.mul_one, List.set_cons_zero, List.set_cons_succ] at k0 k1 o1 o2
          have hs := str_of_own o2 (by omega)
          rw [dec_3C hx1 hx] at hs
          obtain ⟨ds, hds⟩ : ∃ ds : ByteArray, ds = ⟨(Lib.decDigits x).toArray⟩ := ⟨_, rfl⟩
          rw [← hds] at hs
          have HDS := hide hds
          obtain ⟨d0, hd0⟩ : ∃ d0, d0 = 48 + x % 10 := ⟨_, rfl⟩
          obtain ⟨d1, hd1⟩ : ∃ d1, d1 = 48 + x / 100 := ⟨_, rfl⟩
          rw [← hd0] at k0 hs
          rw [← hd1] at k1 hs
          obtain ⟨k0, k0f⟩ := k0
          obtain ⟨k1, k1f⟩ := k1
          clear hds hx1 hd2 hd0 hd1 o1 o2
          go_wp2_with fail
          go_loopw [8, 9] (fun iv jv wz => (iv = .int .i64 0 ∧ jv = .int .i64 2 ∧ wz = wr) ∨ (iv = .int .i64 1 ∧ jv = .int .i64 1 ∧ wz = (wr.setCell ⟨gb, 0, none⟩ (.int .u8 (d1 : Int))).setCell ⟨gb, 2, none⟩ (.int .u8 (d0 : Int)))) (fun iv jv _ => (intOf jv - intOf iv + 1).toNat)
          case atStart => exact .inl ⟨rfl, rfl, rfl⟩
          case round =>
            rcases hrel with ⟨rfl, rfl, rfl⟩ | ⟨rfl, rfl, rfl⟩
            · go_wp2_with fail
              go_roundw
              case rel => exact .inr ⟨rfl, rfl, by first | rfl | trivial | simp⟩
              case measure => simp [intOf]
            · go_wp2_with fail
              go_ret
              exact ⟨by show Ending.returned (Value.string ds) = _; rw [HDS.out], (hbr.setCell hgB _).setCell hgB _⟩
      · have hk1 : k ≤ 2 := by
          have : k = 0 ∨ k = 1 ∨ k = 2 ∨ k = 3 := by omega
          rcases this with rfl | rfl | rfl | rfl
          · omega
          · omega
          · omega
          · exfalso; apply hy; rw [show 10 ^ 3 = 1000 from rfl]; omega
        obtain ⟨y, hyx⟩ : ∃ y, y = x / 10 ^ k := ⟨_, rfl⟩
        have hyC : y < 128 := by rw [hyx]; exact Nat.lt_of_le_of_lt (Nat.div_le_self _ _) hx
        rw [← hyx] at hr hy ⊢
        have hqy : qdigs y = [y] := by rw [qdigs_s hy, show y / 4294967296 = 0 by omega, qdigs_0, show y % 4294967296 = y by omega]
        rw [hqy] at hr ⊢
        obtain ⟨d, hd⟩ : ∃ d, d = y / 10 := ⟨_, rfl⟩
        obtain ⟨m, hm⟩ : ∃ m, m = y % 10 := ⟨_, rfl⟩
        have hm9 : (m : Int) < 10 := by omega
        have hm8 : IntKind.u32.wrap (48 + (m : Int)) = 48 + (m : Int) := by simp [IntKind.wrap, IntKind.bits, IntKind.signed]; omega
        have hm7 : (48 + (m : Int)) % 256 = 48 + (m : Int) := by omega
        have hm6 : (48 + (m : Int)) % 4294967296 = 48 + (m : Int) := by omega
        have HS : Hid (dsTo x (k + 1) = dsTo x k ++ [48 + m]) := by show _ = _; rw [dsTo_succ, ← hyx, ← hm]
        have HN : Hid (x / 10 ^ (k + 1) = d) := by show _ = _; rw [pow_next, ← hyx, hd]
        have HY : Hid (x / 10 ^ k ≠ 0) := by show _ ≠ _; rw [← hyx]; exact hy
        have HD := hide hd
        have HM := hide hm
        have hln := dsTo_len x k
        have HLN := hide hln
        clear hd hm hyx hy hqy hln hlast
        go_wp2_with fail
        refine (qsmallC y d m hyC HD.out HM.out _ _ _ hr).mono ?_
        rintro e w2 ⟨A2, c2, rfl, hr2, hA2, hb2⟩
        have hown2 := hown.below hb2
        have hb2 := bthen hbr (Nat.le_refl _) hb2
        have hsz2 := hb2.size
        have hr3 := hr2
        go_wp2_with (first | (at_builtin; go_loud (refine wpList_push _ rfl _ _ 143 rfl w.heap.size 5 i0 (.int .u8 0) 1 1 Tryz.underlying143 hi0 hz0 hz1 hz2 rfl (by decide) byEnc_ok _ (dsTo x k) rfl (hown2.alloc _) _ 1 1 [48 + m] rfl (Rd.boxed _ byEnc_ok (48 + m) _ _ (by simp [byEnc])) (by intro h; cases h) (by rw [HLN.out]; simp only [maxLen]; omega) (by rw [HLN.out]; omega) (by simp; omega) ?_); intro v' w3 hown3 hg3 hat3))
        go_roundw
        case rel => exact ⟨k + 1, A2, c2, by omega, by rw [HN.out], by rw [HN.out]; exact (hr2.below ((Below.refl _ _).alloc (Nat.le_refl _) _)).grownA hg3 (fun b off s e e2 => by have := hA2 b off s e; have := (hown.block b e2.symm).2; omega), by rw [HS.out]; exact hown3, (hb2.alloc hsz2 _).grown hg3 (by simp; omega) (fun q e => (hown2.block q e).1), .inr (by rw [Nat.add_sub_cancel]; exact HY.out)⟩
        case measure =>
          obtain ⟨A3, c3, e3, _⟩ := hown3.form
          rw [e3, List.length_append, HLN.out]
          simp only [lenV, List.length_cons, List.length_nil]
          omega

theorem qstr128 {w : World} {B g x : Nat} (hx : x < 128) (h : QAt w B g (x : Int)) :
    Calls Tryz.prog 45 #[.pointer (some ⟨g, 0, none⟩)] w fun e w' => e = .returned (.string ⟨(Lib.decDigits x).toArray⟩) ∧ Below w.heap.size w w' := by
  go_enter Tryz.func45, Tryz.ntmps45
  go_wp2_with fail
  refine (qtext128 hx h).mono ?_
  rintro e w2 ⟨rfl, hb2⟩
  go_wp2_with fail
  go_ret
  exact ⟨rfl, hb2⟩
theorem digits128 (x : Nat) (hx : x < 128) (w : World) :
    Calls Tryz.prog 22 #[.int .i64 (x : Int)] w fun e w' => e = .returned (.string ⟨(Lib.decDigits x).toArray⟩) ∧ Below w.heap.size w w' := by
  go_enter Tryz.func22, Tryz.ntmps22
  go_wp2_with fail
  refine (refBig_any (x : Int) _ (by omega) (by omega)).mono ?_
  rintro e w1 ⟨g, rfl, hQ, hb1⟩
  go_wp2_with fail
  refine (qstr128 hx hQ).mono ?_
  rintro e w2 ⟨rfl, hb2⟩
  go_wp2_with fail
  go_ret
  exact ⟨rfl, bthen hb1 (Nat.le_refl _) hb2⟩
end Go.Proofs.YtfkhcdcmcplfoaaGreatDoor
