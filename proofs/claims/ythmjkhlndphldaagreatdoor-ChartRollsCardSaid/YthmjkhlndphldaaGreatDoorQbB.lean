/- Numbers of 32-bit words: add, sub, cmp. -/
import Derived.Test.YthmjkhlndphldaaGreatDoorQbA
namespace Go.Proofs.YthmjkhlndphldaaGreatDoor
open Go Go.RowKit
set_option linter.unusedVariables false

theorem mk_u32 (n : Nat) (hn : n ≤ 1001) (w : World) :
    (Instr.makeSlice 138 (.int .i64 (n : Int)) (.int .i64 (n : Int))).run Tryz.prog w = .ok (.slice (some ⟨w.heap.size, 0, none⟩) n n) (w.alloc (.cells (Array.replicate n (.int .u32 0)) 185)) := by
  obtain ⟨i0, hi0, hz0, hz1, hz2⟩ := info_parts u32_info
  have hr := run_make (P := Tryz.prog) w 138 185 i0 _ Tryz.underlying138 hi0 hz0 .i64 .i64 n n (by omega) (by omega) (by rw [hz2]; omega) (by omega)
  simp only [Int.toNat_natCast, hz1, Nat.mul_one, show (Value.int .u32 0).cells = #[.int .u32 0] from rfl, madeCells_one] at hr
  exact hr
/-- the cells of a row of words -/
def uF (l : List Nat) : Nat → Value := fun j => .int .u32 ((l.getD j 0 : Nat) : Int)
theorem uF_push (l : List Nat) (d j : Nat) : (if j = l.length then Value.int .u32 (d : Int) else uF l j) = uF (l ++ [d]) j := by
  unfold uF
  rw [List.getD_eq_getElem?_getD, List.getD_eq_getElem?_getD]
  by_cases h : j = l.length
  · subst h; simp
  · rw [if_neg h]
    rcases Nat.lt_or_ge j l.length with h1 | h1
    · rw [List.getElem?_append_left h1]
    · rw [List.getElem?_eq_none h1, List.getElem?_eq_none (by simp; omega)]
theorem uF_set {w : World} {g e n i d : Nat} {v : Int} {l : List Nat} (h : VRow w g e n (uF l)) (hl : l.length = i) (hv : v = (d : Int)) : VRow (w.setCell ⟨g, i, none⟩ (.int .u32 v)) g e n (uF (l ++ [d])) := by
  subst hl hv
  exact (h.set_ l.length _).congr fun j _ => uF_push l d j
theorem VRow.words {w : World} {g e n : Nat} {l : List Nat} (h : VRow w g e n (uF l)) (hl : l.length = n) : Rd w 1 uEnc (some ⟨g, 0, none⟩) n l := by
  refine ⟨hl, fun _ => ⟨g, 0, rfl, fun k j u hk hu => ?_⟩⟩
  have hj : j < 1 := by
    have := (List.getElem?_eq_some_iff.1 hu).1
    simpa [uEnc] using this
  obtain rfl : j = 0 := by omega
  simp only [uEnc, List.getElem?_cons_zero, Option.some.injEq] at hu
  rw [Nat.zero_add, Nat.mul_one, Nat.add_zero, h.cell k (by omega), ← hu]
  unfold uF
  rw [List.getD_eq_getElem?_getD, List.getElem?_eq_getElem hk]
  rfl

set_option maxHeartbeats 2000000 in
set_option maxRecDepth 100000 in
theorem qadd_ge (a b : List Nat) (A YA : Option Addr) (n c m d : Nat) (w : World) (hda : QDig a) (hdb : QDig b) (ha : Rd w 1 uEnc A n a) (hb : Rd w 1 uEnc YA m b) (hmn : m ≤ n) (hn : n ≤ 999) :
    Calls Tryz.prog 138 #[.slice A n c, .slice YA m d] w
      fun e w' => ∃ g c', e = .returned (.slice (some ⟨g, 0, none⟩) (qdigs (qval a + qval b)).length c') ∧ Rd w' 1 uEnc (some ⟨g, 0, none⟩) (qdigs (qval a + qval b)).length (qdigs (qval a + qval b)) ∧ (qdigs (qval a + qval b)).length ≤ c' ∧ w.heap.size ≤ g ∧ Below w.heap.size w w' := by
  have hlt : ¬ (n : Int) < (m : Int) := by omega
  have hmk := mk_u32 (n + 1) (by omega)
  have Ha := hide ha.1
  have Hb := hide hb.1
  have hmk' : ∀ w : World, (Instr.makeSlice 138 (.int .i64 ((n : Int) + 1)) (.int .i64 ((n : Int) + 1))).run Tryz.prog w = .ok (.slice (some ⟨w.heap.size, 0, none⟩) (n + 1) (n + 1)) (w.alloc (.cells (Array.replicate (n + 1) (.int .u32 0)) 185)) := hmk
  clear hmk hmn
  go_enter Tryz.func138, Tryz.ntmps138
  go_wp2_with fail
  have hrow0 : VRow (w.alloc (.cells (Array.replicate (n + 1) (.int .u32 0)) 185)) w.heap.size 185 (n + 1) (uF []) := (VRow.made w 185 (n + 1) (.int .u32 0)).congr (fun j _ => by unfold uF; simp)
  have hb1 : Below w.heap.size w (w.alloc (.cells (Array.replicate (n + 1) (.int .u32 0)) 185)) := (Below.refl _ _).alloc (Nat.le_refl _) _
  generalize w.alloc (.cells (Array.replicate (n + 1) (.int .u32 0)) 185) = w1 at hrow0 hb1 ⊢
  go_loopw [6, 7] (fun cv iv wr => ∃ (i cr : Nat) (pre : List Nat), i ≤ n ∧ iv = .int .i64 i ∧ cv = .int .u64 (cr : Int) ∧ AddAt a b i cr pre ∧ VRow wr w.heap.size 185 (n + 1) (uF pre) ∧ w1.grownBy wr (some w.heap.size)) (fun _ iv _ => n - (intOf iv).toNat)
  case atStart => exact ⟨0, 0, [], by omega, rfl, rfl, AddAt.zero a b, hrow0, only_refl _ _⟩
  case round =>
    obtain ⟨i, cr, pre, hi, rfl, rfl, hadd, hrow, honly⟩ := hrel
    have HA := hide hadd
    have hcr := hadd.2.2
    have hbw := below_only hb1 (Nat.le_refl _) (Nat.le_refl _) honly
    clear hadd
    by_cases hlt' : i < n
    · have hia : i < a.length := by have := Ha.out; omega
      obtain ⟨ab, ao, rfl, hca⟩ := (ha.below hbw).2 (by omega)
      have qa := hca i 0 _ hia rfl
      rw [Nat.mul_one, Nat.add_zero] at qa
      clear hca
      have hx1 := hda a[i] (List.getElem_mem hia)
      have hS := hide (HA.out.succ hda hdb hia)
      obtain ⟨x, hx⟩ : ∃ x, x = a[i] := ⟨_, rfl⟩
      rw [← hx] at qa hx1 hS
      clear hx
      have i0 : (0 : Int) ≤ (i : Int) := by omega
      have i1 : (i : Int) < (n : Int) := by omega
      have i2 : (i : Int) < (n : Int) + 1 := by omega
      have qr := hrow.cell i (by omega)
      have fr := hrow.frozen i
      by_cases hbm : i < m
      · have hib : i < b.length := by have := Hb.out; omega
        obtain ⟨bb, bo, rfl, hcb⟩ := (hb.below hbw).2 (by omega)
        have qb := hcb i 0 _ hib rfl
        rw [Nat.mul_one, Nat.add_zero] at qb
        clear hcb
        have hy1 := hdb b[i] (List.getElem_mem hib)
        have hyg : b.getD i 0 = b[i] := by rw [List.getD_eq_getElem?_getD, List.getElem?_eq_getElem hib]; rfl
        obtain ⟨y, hy⟩ : ∃ y, y = b[i] := ⟨_, rfl⟩
        rw [← hy] at qb hy1 hyg
        rw [hyg] at hS
        clear hy hyg
        have j1 : (i : Int) < (m : Int) := by omega
        go_wp2_with fail
        go_roundw
        case rel => exact ⟨i + 1, _, _, by omega, by go_num, by congr 1; omega, hS.out, uF_set hrow HA.out.2.1 (by omega), only_setCell honly _ _⟩
        case measure => simp [intOf]; omega
      · have j1 : ¬ (i : Int) < (m : Int) := by omega
        have hyg : b.getD i 0 = 0 := by rw [List.getD_eq_getElem?_getD, List.getElem?_eq_none (by have := Hb.out; omega)]; rfl
        rw [hyg] at hS
        clear hyg
        go_wp2_with fail
        go_roundw
        case rel => exact ⟨i + 1, _, _, by omega, by go_num, by congr 1; omega, hS.out, uF_set hrow HA.out.2.1 (by omega), only_setCell honly _ _⟩
        case measure => simp [intOf]; omega
    · have hin : i = n := by omega
      subst hin
      have hE := AddAt.end (a := a) (b := b) (pre := pre) (c := cr) (by have := HA.out; rwa [Ha.out])
      have hlen : (pre ++ [cr]).length = i + 1 := by rw [List.length_append, HA.out.2.1]; rfl
      have hval := addL_val a b 0 (by have := Ha.out; have := Hb.out; omega)
      have hdig := addL_dig a b 0 hda hdb (by omega)
      rw [hE] at hval hdig
      have hle := qdigs_le _ hdig
      rw [hlen] at hle
      rw [Nat.add_zero] at hval
      have qr := hrow.cell i (by omega)
      have fr := hrow.frozen i
      have i0 : (0 : Int) ≤ (i : Int) := by omega
      have i2 : (i : Int) < (i : Int) + 1 := by omega
      have hrow2 := (uF_set (d := cr) (v := (cr : Int)) hrow HA.out.2.1 rfl).words hlen
      have honly2 := only_setCell honly i (.int .u32 (cr : Int))
      have hb2 := below_only hb1 (Nat.le_refl _) (Nat.le_refl _) honly2
      clear hE
      go_wp2_with fail
      refine (qtrim_any _ hdig _ (i + 1) (i + 1) _ hrow2 (by omega) (by omega)).mono ?_
      rintro e w2 ⟨rfl, hr, k, rfl⟩
      rw [hval] at hr hle ⊢
      go_wp2_with fail
      go_ret
      exact ⟨_, _, rfl, hr.below (bdrewN (Below.refl _ _) k), hle, Nat.le_refl _, bdrewN hb2 k⟩
set_option maxHeartbeats 2000000 in
set_option maxRecDepth 100000 in
theorem qadd_lt (a b : List Nat) (A YA : Option Addr) (n c m d : Nat) (w : World) (hda : QDig a) (hdb : QDig b) (ha : Rd w 1 uEnc A n a) (hb : Rd w 1 uEnc YA m b) (hmn : m < n) (hn : n ≤ 999) :
    Calls Tryz.prog 138 #[.slice YA m d, .slice A n c] w
      fun e w' => ∃ g c', e = .returned (.slice (some ⟨g, 0, none⟩) (qdigs (qval a + qval b)).length c') ∧ Rd w' 1 uEnc (some ⟨g, 0, none⟩) (qdigs (qval a + qval b)).length (qdigs (qval a + qval b)) ∧ (qdigs (qval a + qval b)).length ≤ c' ∧ w.heap.size ≤ g ∧ Below w.heap.size w w' := by
  have hlt : (m : Int) < (n : Int) := by omega
  have hmk := mk_u32 (n + 1) (by omega)
  have Ha := hide ha.1
  have Hb := hide hb.1
  have hmk' : ∀ w : World, (Instr.makeSlice 138 (.int .i64 ((n : Int) + 1)) (.int .i64 ((n : Int) + 1))).run Tryz.prog w = .ok (.slice (some ⟨w.heap.size, 0, none⟩) (n + 1) (n + 1)) (w.alloc (.cells (Array.replicate (n + 1) (.int .u32 0)) 185)) := hmk
  clear hmk hmn
  go_enter Tryz.func138, Tryz.ntmps138
  go_wp2_with fail
  have hrow0 : VRow (w.alloc (.cells (Array.replicate (n + 1) (.int .u32 0)) 185)) w.heap.size 185 (n + 1) (uF []) := (VRow.made w 185 (n + 1) (.int .u32 0)).congr (fun j _ => by unfold uF; simp)
  have hb1 : Below w.heap.size w (w.alloc (.cells (Array.replicate (n + 1) (.int .u32 0)) 185)) := (Below.refl _ _).alloc (Nat.le_refl _) _
  generalize w.alloc (.cells (Array.replicate (n + 1) (.int .u32 0)) 185) = w1 at hrow0 hb1 ⊢
  go_loopw [6, 7] (fun cv iv wr => ∃ (i cr : Nat) (pre : List Nat), i ≤ n ∧ iv = .int .i64 i ∧ cv = .int .u64 (cr : Int) ∧ AddAt a b i cr pre ∧ VRow wr w.heap.size 185 (n + 1) (uF pre) ∧ w1.grownBy wr (some w.heap.size)) (fun _ iv _ => n - (intOf iv).toNat)
  case atStart => exact ⟨0, 0, [], by omega, rfl, rfl, AddAt.zero a b, hrow0, only_refl _ _⟩
  case round =>
    obtain ⟨i, cr, pre, hi, rfl, rfl, hadd, hrow, honly⟩ := hrel
    have HA := hide hadd
    have hcr := hadd.2.2
    have hbw := below_only hb1 (Nat.le_refl _) (Nat.le_refl _) honly
    clear hadd
    by_cases hlt' : i < n
    · have hia : i < a.length := by have := Ha.out; omega
      obtain ⟨ab, ao, rfl, hca⟩ := (ha.below hbw).2 (by omega)
      have qa := hca i 0 _ hia rfl
      rw [Nat.mul_one, Nat.add_zero] at qa
      clear hca
      have hx1 := hda a[i] (List.getElem_mem hia)
      have hS := hide (HA.out.succ hda hdb hia)
      obtain ⟨x, hx⟩ : ∃ x, x = a[i] := ⟨_, rfl⟩
      rw [← hx] at qa hx1 hS
      clear hx
      have i0 : (0 : Int) ≤ (i : Int) := by omega
      have i1 : (i : Int) < (n : Int) := by omega
      have i2 : (i : Int) < (n : Int) + 1 := by omega
      have qr := hrow.cell i (by omega)
      have fr := hrow.frozen i
      by_cases hbm : i < m
      · have hib : i < b.length := by have := Hb.out; omega
        obtain ⟨bb, bo, rfl, hcb⟩ := (hb.below hbw).2 (by omega)
        have qb := hcb i 0 _ hib rfl
        rw [Nat.mul_one, Nat.add_zero] at qb
        clear hcb
        have hy1 := hdb b[i] (List.getElem_mem hib)
        have hyg : b.getD i 0 = b[i] := by rw [List.getD_eq_getElem?_getD, List.getElem?_eq_getElem hib]; rfl
        obtain ⟨y, hy⟩ : ∃ y, y = b[i] := ⟨_, rfl⟩
        rw [← hy] at qb hy1 hyg
        rw [hyg] at hS
        clear hy hyg
        have j1 : (i : Int) < (m : Int) := by omega
        go_wp2_with fail
        go_roundw
        case rel => exact ⟨i + 1, _, _, by omega, by go_num, by congr 1; omega, hS.out, uF_set hrow HA.out.2.1 (by omega), only_setCell honly _ _⟩
        case measure => simp [intOf]; omega
      · have j1 : ¬ (i : Int) < (m : Int) := by omega
        have hyg : b.getD i 0 = 0 := by rw [List.getD_eq_getElem?_getD, List.getElem?_eq_none (by have := Hb.out; omega)]; rfl
        rw [hyg] at hS
        clear hyg
        go_wp2_with fail
        go_roundw
        case rel => exact ⟨i + 1, _, _, by omega, by go_num, by congr 1; omega, hS.out, uF_set hrow HA.out.2.1 (by omega), only_setCell honly _ _⟩
        case measure => simp [intOf]; omega
    · have hin : i = n := by omega
      subst hin
      have hE := AddAt.end (a := a) (b := b) (pre := pre) (c := cr) (by have := HA.out; rwa [Ha.out])
      have hlen : (pre ++ [cr]).length = i + 1 := by rw [List.length_append, HA.out.2.1]; rfl
      have hval := addL_val a b 0 (by have := Ha.out; have := Hb.out; omega)
      have hdig := addL_dig a b 0 hda hdb (by omega)
      rw [hE] at hval hdig
      have hle := qdigs_le _ hdig
      rw [hlen] at hle
      rw [Nat.add_zero] at hval
      have qr := hrow.cell i (by omega)
      have fr := hrow.frozen i
      have i0 : (0 : Int) ≤ (i : Int) := by omega
      have i2 : (i : Int) < (i : Int) + 1 := by omega
      have hrow2 := (uF_set (d := cr) (v := (cr : Int)) hrow HA.out.2.1 rfl).words hlen
      have honly2 := only_setCell honly i (.int .u32 (cr : Int))
      have hb2 := below_only hb1 (Nat.le_refl _) (Nat.le_refl _) honly2
      clear hE
      go_wp2_with fail
      refine (qtrim_any _ hdig _ (i + 1) (i + 1) _ hrow2 (by omega) (by omega)).mono ?_
      rintro e w2 ⟨rfl, hr, k, rfl⟩
      rw [hval] at hr hle ⊢
      go_wp2_with fail
      go_ret
      exact ⟨_, _, rfl, hr.below (bdrewN (Below.refl _ _) k), hle, Nat.le_refl _, bdrewN hb2 k⟩
theorem qadd_any (a b : List Nat) (A YA : Option Addr) (n c m d : Nat) (w : World) (hda : QDig a) (hdb : QDig b) (ha : Rd w 1 uEnc A n a) (hb : Rd w 1 uEnc YA m b) (hm : m ≤ 999) (hn : n ≤ 999) :
    Calls Tryz.prog 138 #[.slice A n c, .slice YA m d] w
      fun e w' => ∃ g c', e = .returned (.slice (some ⟨g, 0, none⟩) (qdigs (qval a + qval b)).length c') ∧ Rd w' 1 uEnc (some ⟨g, 0, none⟩) (qdigs (qval a + qval b)).length (qdigs (qval a + qval b)) ∧ (qdigs (qval a + qval b)).length ≤ c' ∧ w.heap.size ≤ g ∧ Below w.heap.size w w' := by
  rcases Nat.lt_or_ge n m with h | h
  · rw [Nat.add_comm (qval a) (qval b)]
    exact qadd_lt b a YA A m d n c w hdb hda hb ha h hm
  · exact qadd_ge a b A YA n c m d w hda hdb ha hb h hn

theorem wrap_u64 (x : Int) : IntKind.u64.wrap x = x % 18446744073709551616 := by
  simp only [IntKind.wrap, IntKind.bits, IntKind.signed]
  simp
theorem sub_lo (x y cr : Nat) (hx : x < 4294967296) (hy : y < 4294967296) (hc : cr ≤ 1) : IntKind.u64.wrap (IntKind.u64.wrap ((x : Int) - (cr : Int)) - (y : Int)) % 4294967296 = (((x + 4294967296 - y - cr) % 4294967296 : Nat) : Int) := by
  rw [wrap_u64, wrap_u64]; omega
theorem sub_hi (x y cr : Nat) (hx : x < 4294967296) (hy : y < 4294967296) (hc : cr ≤ 1) : IntKind.u64.wrap (IntKind.u64.wrap ((x : Int) - (cr : Int)) - (y : Int)) / 9223372036854775808 = ((if x < y + cr then 1 else 0 : Nat) : Int) := by
  rw [wrap_u64, wrap_u64]
  split <;> omega
theorem sub_lo0 (x cr : Nat) (hx : x < 4294967296) (hc : cr ≤ 1) : IntKind.u64.wrap ((x : Int) - (cr : Int)) % 4294967296 = (((x + 4294967296 - 0 - cr) % 4294967296 : Nat) : Int) := by
  rw [wrap_u64]; omega
theorem sub_hi0 (x cr : Nat) (hx : x < 4294967296) (hc : cr ≤ 1) : IntKind.u64.wrap ((x : Int) - (cr : Int)) / 9223372036854775808 = ((if x < 0 + cr then 1 else 0 : Nat) : Int) := by
  rw [wrap_u64]
  split <;> omega
set_option maxHeartbeats 2000000 in
set_option maxRecDepth 100000 in
theorem qsub_any (a b : List Nat) (A YA : Option Addr) (n c m d : Nat) (w : World) (hda : QDig a) (hdb : QDig b) (ha : Rd w 1 uEnc A n a) (hb : Rd w 1 uEnc YA m b) (hmn : m ≤ n) (hn : n ≤ 999) (hab : qval b ≤ qval a) :
    Calls Tryz.prog 139 #[.slice A n c, .slice YA m d] w
      fun e w' => ∃ g c', e = .returned (.slice (some ⟨g, 0, none⟩) (qdigs (qval a - qval b)).length c') ∧ Rd w' 1 uEnc (some ⟨g, 0, none⟩) (qdigs (qval a - qval b)).length (qdigs (qval a - qval b)) ∧ (qdigs (qval a - qval b)).length ≤ c' ∧ w.heap.size ≤ g ∧ Below w.heap.size w w' := by
  have hmk := mk_u32 n (by omega)
  have Ha := hide ha.1
  have Hb := hide hb.1
  have hlenba : Hid (b.length ≤ a.length) := by show _ ≤ _; have := ha.1; have := hb.1; omega
  have Hab := hide hab
  clear hmn hab
  go_enter Tryz.func139, Tryz.ntmps139
  go_wp2_with fail
  have hrow0 : VRow (w.alloc (.cells (Array.replicate n (.int .u32 0)) 185)) w.heap.size 185 n (uF []) := (VRow.made w 185 n (.int .u32 0)).congr (fun j _ => by unfold uF; simp)
  have hb1 : Below w.heap.size w (w.alloc (.cells (Array.replicate n (.int .u32 0)) 185)) := (Below.refl _ _).alloc (Nat.le_refl _) _
  generalize w.alloc (.cells (Array.replicate n (.int .u32 0)) 185) = w1 at hrow0 hb1 ⊢
  go_loopw [6, 7] (fun cv iv wr => ∃ (i cr : Nat) (pre : List Nat), i ≤ n ∧ iv = .int .i64 i ∧ cv = .int .u64 (cr : Int) ∧ SubAt a b i cr pre ∧ VRow wr w.heap.size 185 n (uF pre) ∧ w1.grownBy wr (some w.heap.size)) (fun _ iv _ => n - (intOf iv).toNat)
  case atStart => exact ⟨0, 0, [], by omega, rfl, rfl, SubAt.zero a b, hrow0, only_refl _ _⟩
  case round =>
    obtain ⟨i, cr, pre, hi, rfl, rfl, hadd, hrow, honly⟩ := hrel
    have HA := hide hadd
    have hcr := hadd.2.2
    have hbw := below_only hb1 (Nat.le_refl _) (Nat.le_refl _) honly
    clear hadd
    by_cases hlt' : i < n
    · have hia : i < a.length := by have := Ha.out; omega
      obtain ⟨ab, ao, rfl, hca⟩ := (ha.below hbw).2 (by omega)
      have qa := hca i 0 _ hia rfl
      rw [Nat.mul_one, Nat.add_zero] at qa
      clear hca
      have hx1 := hda a[i] (List.getElem_mem hia)
      have hS := hide (HA.out.succ hia)
      obtain ⟨x, hx⟩ : ∃ x, x = a[i] := ⟨_, rfl⟩
      rw [← hx] at qa hx1 hS
      clear hx
      have i0 : (0 : Int) ≤ (i : Int) := by omega
      have i1 : (i : Int) < (n : Int) := by omega
      have qr := hrow.cell i (by omega)
      have fr := hrow.frozen i
      by_cases hbm : i < m
      · have hib : i < b.length := by have := Hb.out; omega
        obtain ⟨bb, bo, rfl, hcb⟩ := (hb.below hbw).2 (by omega)
        have qb := hcb i 0 _ hib rfl
        rw [Nat.mul_one, Nat.add_zero] at qb
        clear hcb
        have hy1 := hdb b[i] (List.getElem_mem hib)
        have hyg : b.getD i 0 = b[i] := by rw [List.getD_eq_getElem?_getD, List.getElem?_eq_getElem hib]; rfl
        obtain ⟨y, hy⟩ : ∃ y, y = b[i] := ⟨_, rfl⟩
        rw [← hy] at qb hy1 hyg
        rw [hyg] at hS
        clear hy hyg
        have j1 : (i : Int) < (m : Int) := by omega
        go_wp2_with fail
        go_roundw
        case rel => exact ⟨i + 1, _, _, by omega, by go_num, by rw [sub_hi x y cr hx1 hy1 hcr], hS.out, uF_set hrow HA.out.2.1 (sub_lo x y cr hx1 hy1 hcr), only_setCell honly _ _⟩
        case measure => simp [intOf]; omega
      · have j1 : ¬ (i : Int) < (m : Int) := by omega
        have hyg : b.getD i 0 = 0 := by rw [List.getD_eq_getElem?_getD, List.getElem?_eq_none (by have := Hb.out; omega)]; rfl
        rw [hyg] at hS
        clear hyg
        go_wp2_with fail
        go_roundw
        case rel => exact ⟨i + 1, _, _, by omega, by go_num, by rw [sub_hi0 x cr hx1 hcr], hS.out, uF_set hrow HA.out.2.1 (sub_lo0 x cr hx1 hcr), only_setCell honly _ _⟩
        case measure => simp [intOf]; omega
    · have hin : i = n := by omega
      subst hin
      have hE := SubAt.end (a := a) (b := b) (pre := pre) (c := cr) (by have := HA.out; rwa [Ha.out])
      have hlen : pre.length = i := HA.out.2.1
      have hval := subL_val a b 0 hda hdb (by omega) hlenba.out (by have := Hab.out; omega)
      have hdig := subL_dig a b 0
      rw [hE] at hval hdig
      have hv : qval pre = qval a - qval b := by omega
      have hle := qdigs_le _ hdig
      rw [hlen] at hle
      have hb2 := below_only hb1 (Nat.le_refl _) (Nat.le_refl _) honly
      clear hE hval
      go_wp2_with fail
      refine (qtrim_any _ hdig _ i i _ (hrow.words hlen) (by omega) (by omega)).mono ?_
      rintro e w2 ⟨rfl, hr, k, rfl⟩
      rw [hv] at hr hle ⊢
      go_wp2_with fail
      go_ret
      exact ⟨_, _, rfl, hr.below (bdrewN (Below.refl _ _) k), hle, Nat.le_refl _, bdrewN hb2 k⟩

set_option maxRecDepth 100000 in
theorem qcmp_any (p q : Nat) (A YA : Option Addr) (n c m d : Nat) (w : World) (ha : Rd w 1 uEnc A n (qdigs p)) (hb : Rd w 1 uEnc YA m (qdigs q)) (hn : n ≤ 999) (hm : m ≤ 999) :
    Calls Tryz.prog 93 #[.slice A n c, .slice YA m d] w
      fun e w' => e = .returned (.int .i64 (qcmp p q)) ∧ Below w.heap.size w w' := by
  have Ha := hide ha.1
  have Hb := hide hb.1
  by_cases hne : n = m
  · subst hne
    have h1 : ((n : Int) != (n : Int)) = false := by simp
    go_enter Tryz.func93, Tryz.ntmps93
    go_wp2_with fail
    go_loopw [5] (fun iv wr => ∃ i : Nat, i ≤ n ∧ iv = .int .i64 ((i : Int) - 1) ∧ (qdigs p).drop i = (qdigs q).drop i ∧ Below w.heap.size w wr) (fun iv _ => (intOf iv + 1).toNat)
    case atStart => exact ⟨n, Nat.le_refl _, rfl, by rw [List.drop_of_length_le (by rw [Ha.out]; omega), List.drop_of_length_le (by rw [Hb.out]; omega)], Below.refl _ _⟩
    case round =>
      obtain ⟨i, hi, rfl, hdr, hbr⟩ := hrel
      have HD := hide hdr
      clear hdr
      by_cases hi0 : i = 0
      · subst hi0
        have he : p = q := qdigs_inj (by simpa using HD.out)
        have hq : qcmp p q = 0 := by unfold qcmp; rw [if_neg (by omega), if_pos he]
        have HQ := hide hq
        clear he hq
        go_wp2_with fail
        go_ret
        exact ⟨by rw [HQ.out]; rfl, hbr⟩
      · obtain ⟨j, rfl⟩ : ∃ j, i = j + 1 := ⟨i - 1, by omega⟩
        have hja : j < (qdigs p).length := by have := Ha.out; omega
        have hjb : j < (qdigs q).length := by have := Hb.out; omega
        obtain ⟨ab, ao, rfl, hca⟩ := (ha.below hbr).2 (by omega)
        have qa := hca j 0 _ hja rfl
        rw [Nat.mul_one, Nat.add_zero] at qa
        obtain ⟨bb, bo, rfl, hcb⟩ := (hb.below hbr).2 (by omega)
        have qb := hcb j 0 _ hjb rfl
        rw [Nat.mul_one, Nat.add_zero] at qb
        clear hca hcb
        have HL : Hid ((qdigs p)[j] < (qdigs q)[j] → qcmp p q = -1) := fun h => by
          have := qcmp_lt (qdigs_dig p) (qdigs_dig q) hja hjb HD.out h
          rw [qval_digs, qval_digs] at this
          unfold qcmp; rw [if_pos this]
        have HG : Hid ((qdigs q)[j] < (qdigs p)[j] → qcmp p q = 1) := fun h => by
          have := qcmp_lt (qdigs_dig q) (qdigs_dig p) hjb hja HD.out.symm h
          rw [qval_digs, qval_digs] at this
          unfold qcmp; rw [if_neg (by omega), if_neg (by omega)]
        have HS : Hid ((qdigs p)[j] = (qdigs q)[j] → (qdigs p).drop j = (qdigs q).drop j) := fun h => by
          rw [List.drop_eq_getElem_cons hja, List.drop_eq_getElem_cons hjb, h, HD.out]
        obtain ⟨x, hx⟩ : ∃ x, x = (qdigs p)[j] := ⟨_, rfl⟩
        obtain ⟨y, hy⟩ : ∃ y, y = (qdigs q)[j] := ⟨_, rfl⟩
        rw [← hx] at qa HL HG HS
        rw [← hy] at qb HL HG HS
        clear hx hy
        have j0 : (0 : Int) ≤ (j : Int) := by omega
        have j1 : (j : Int) < (n : Int) := by omega
        rw [show (((j + 1 : Nat) : Int) - 1) = (j : Int) from by omega]
        rcases Nat.lt_trichotomy x y with hxy | hxy | hxy
        · have e1 : ((x : Int) != (y : Int)) = true := by rw [bne_iff_ne]; omega
          have e2 : (x : Int) < (y : Int) := by omega
          have HQ := hide (HL.out hxy)
          clear hxy
          go_wp2_with fail
          go_quiet (fail)
          go_wp2_with fail
          go_quiet (fail)
          go_wp2_with fail
          go_ret
          exact ⟨by rw [HQ.out]; rfl, bdrewN (bdrewN hbr _) _⟩
        · subst hxy
          have HQ := hide (HS.out rfl)
          go_wp2_with fail
          go_quiet (fail)
          go_wp2_with fail
          go_roundw
          case rel => exact ⟨j, by omega, by go_num, HQ.out, bdrewN hbr _⟩
          case measure => simp [intOf]
        · have e1 : ((x : Int) != (y : Int)) = true := by rw [bne_iff_ne]; omega
          have e2 : ¬ (x : Int) < (y : Int) := by omega
          have HQ := hide (HG.out hxy)
          clear hxy
          go_wp2_with fail
          go_quiet (fail)
          go_wp2_with fail
          go_quiet (fail)
          go_wp2_with fail
          go_ret
          exact ⟨by rw [HQ.out]; rfl, bdrewN (bdrewN hbr _) _⟩
  · have h1 : ((n : Int) != (m : Int)) = true := by rw [bne_iff_ne]; omega
    by_cases hlt : n < m
    · have HQ : Hid (qcmp p q = -1) := by
        show _ = _
        unfold qcmp; rw [if_pos (qcmp_len_lt (by rw [Ha.out, Hb.out]; exact hlt))]
      have h2 : (n : Int) < (m : Int) := by omega
      clear hne hlt
      go_enter Tryz.func93, Tryz.ntmps93
      go_wp2_with fail
      go_ret
      exact ⟨by rw [HQ.out]; rfl, Below.refl _ _⟩
    · have HQ : Hid (qcmp p q = 1) := by
        show _ = _
        have := qcmp_len_lt (m := q) (n := p) (by rw [Ha.out, Hb.out]; omega)
        unfold qcmp; rw [if_neg (by omega), if_neg (by omega)]
      have h2 : ¬ (n : Int) < (m : Int) := by omega
      clear hne hlt
      go_enter Tryz.func93, Tryz.ntmps93
      go_wp2_with fail
      go_ret
      exact ⟨by rw [HQ.out]; rfl, Below.refl _ _⟩
end Go.Proofs.YthmjkhlndphldaaGreatDoor
