/- Numbers of 32-bit words: trim, words. -/
import Derived.Test.YtbdbpcllndajgaaGreatDoorKnuX
import Derived.Test.YtbdbpcllndajgaaGreatDoorBigY
import Derived.Deep.QuietTactic
import Derived.BigQuiet
import Derived.StillTailTactics
import Derived.Deep.RegionHeld3
import Derived.Deep.RegionLaw
import Derived.Deep.AppendLies
import Derived.Laws.BitsLemmas
namespace Go.Proofs.YtbdbpcllndajgaaGreatDoor
open Go Go.RowKit
set_option linter.unusedVariables false

def uEnc (n : Nat) : List Value := [.int .u32 (n : Int)]
theorem uEnc_ok : Enc 1 uEnc := ⟨fun _ => rfl, by
  intro a u hu
  simp only [uEnc, List.mem_singleton] at hu
  subst hu; rfl⟩
theorem u32_info : (Tryz.prog.info? 179).map (fun i => (i.zero, i.size, i.bytes)) = some (some (.int .u32 0), 1, 4) := by kernel_rfl

theorem qtrim_any (ws : List Nat) (hd : QDig ws) (g n c : Nat) (w : World) (h : Rd w 1 uEnc (some ⟨g, 0, none⟩) n ws) (hn : n ≤ 1000) (hnc : n ≤ c) :
    Calls Tryz.prog 124 #[.slice (some ⟨g, 0, none⟩) n c] w
      fun e w' => e = .returned (.slice (some ⟨g, 0, none⟩) (qdigs (qval ws)).length c) ∧ Rd w 1 uEnc (some ⟨g, 0, none⟩) (qdigs (qval ws)).length (qdigs (qval ws)) ∧ ∃ n, w' = w.drewN n := by
  have Hn := hide h.1
  have hcell : ∀ (i : Nat) (hi : i < ws.length), w.cell? ⟨g, i, none⟩ = some (.int .u32 (ws[i] : Int)) := by
    intro i hi
    obtain ⟨b, off, e, hc⟩ := h.2 (by have := h.1; omega)
    injection e with e
    injection e with e1 e2
    subst e1 e2
    have := hc i 0 _ hi rfl
    rwa [Nat.zero_add, Nat.mul_one, Nat.add_zero] at this
  have hfin : ∀ k, k ≤ n → ZeroFrom ws k → (∀ (h0 : 0 < k) (hk : k - 1 < ws.length), ws[k - 1] ≠ 0) → k = (qdigs (qval ws)).length ∧ Rd w 1 uEnc (some ⟨g, 0, none⟩) (qdigs (qval ws)).length (qdigs (qval ws)) := by
    intro k hk hz hl
    have e := qtrim_eq hd (n := k) (by have := h.1; omega) (fun j hj hkj => hz j hj hkj) (fun h0 => hl h0 _)
    have e2 : (qdigs (qval ws)).length = k := by rw [← e, List.length_take]; have := h.1; omega
    rw [e2, ← e]
    exact ⟨rfl, h.take hk⟩
  go_enter Tryz.func124, Tryz.ntmps124
  go_wp2_with fail
  go_loopw [3] (fun iv wr => ∃ k : Nat, k ≤ n ∧ iv = .int .i64 k ∧ ZeroFrom ws k ∧ ∃ n, wr = w.drewN n) (fun iv _ => (intOf iv).toNat)
  case atStart => exact ⟨n, Nat.le_refl _, rfl, (fun i hi h => absurd h (by have := Hn.out; omega)), 0, rfl⟩
  case round =>
    obtain ⟨k, hk, rfl, hz, m, rfl⟩ := hrel
    have HZ := hide hz
    clear hz
    by_cases hk0 : k = 0
    · subst hk0
      obtain ⟨h1, h2⟩ := hfin 0 hk HZ.out (fun h => absurd h (by omega))
      have H1 := hide h1
      clear h1 hfin
      go_wp2_with fail
      go_ret
      exact ⟨by rw [← H1.out]; rfl, h2, m, rfl⟩
    · obtain ⟨j, rfl⟩ : ∃ j, k = j + 1 := ⟨k - 1, by omega⟩
      have hjl : j < ws.length := by have := Hn.out; omega
      have hc : (w.drewN m).cell? ⟨g, j, none⟩ = some (.int .u32 (ws[j] : Int)) := hcell j hjl
      have j0 : (0 : Int) < ((j + 1 : Nat) : Int) := by omega
      have j1 : (0 : Int) ≤ (j : Int) := by omega
      have j2 : (j : Int) < (n : Int) := by omega
      by_cases hw : ws[j] = 0
      · rw [hw] at hc
        have HS : Hid (ZeroFrom ws j) := by
          intro i hi hji
          by_cases e : i = j
          · subst e; exact hw
          · exact HZ.out i hi (by omega)
        clear hw hfin
        go_wp2_with fail
        go_roundw
        case rel => exact ⟨j, by omega, by go_num, HS.out, m, rfl⟩
        case measure => simp [intOf]
      · have hb : ((ws[j] : Int) == 0) = false := by rw [beq_eq_false_iff_ne]; omega
        have hb2 : (ws[j] == 0) = false := by rw [beq_eq_false_iff_ne]; exact hw
        obtain ⟨h1, h2⟩ := hfin (j + 1) hk HZ.out (fun _ _ => hw)
        have hjc : (j : Int) + 1 ≤ (c : Int) := by omega
        have H1 := hide h1
        clear hw h1 hfin
        go_wp2_with fail
        go_ret
        exact ⟨by rw [← H1.out]; rfl, h2, m, rfl⟩

theorem qdigs_le : ∀ l : List Nat, QDig l → (qdigs (qval l)).length ≤ l.length := by
  intro l
  induction l with
  | nil => intro _; rw [qval, qdigs_0]; exact Nat.le_refl _
  | cons d l ih =>
    intro h
    have h1 := ih h.tail
    have h2 := h d (by simp)
    rw [qval]
    by_cases h0 : d + 4294967296 * qval l = 0
    · rw [h0, qdigs_0]; exact Nat.zero_le _
    · rw [qdigs_s h0, show (d + 4294967296 * qval l) / 4294967296 = qval l from by omega, List.length_cons, List.length_cons]; omega
theorem u32_lo (x : Nat) : IntKind.u32.wrap (x : Int) = ((x % 4294967296 : Nat) : Int) := by
  simp only [IntKind.wrap, IntKind.bits, IntKind.signed]
  simp
theorem qwords_any (x : Nat) (hx : x < 18446744073709551616) (w : World) :
    Calls Tryz.prog 126 #[.int .u64 (x : Int)] w
      fun e w' => ∃ c, e = .returned (.slice (some ⟨w.heap.size, 0, none⟩) (qdigs x).length c) ∧ Rd w' 1 uEnc (some ⟨w.heap.size, 0, none⟩) (qdigs x).length (qdigs x) ∧ (qdigs x).length ≤ c ∧ Below w.heap.size w w' := by
  go_enter Tryz.func126, Tryz.ntmps126
  go_wp2_with fail
  have hd : QDig [x % 4294967296, x / 4294967296] := by
    intro y hy
    simp only [List.mem_cons, List.not_mem_nil, or_false] at hy
    omega
  have hv : qval [x % 4294967296, x / 4294967296] = x := by simp only [qval]; omega
  refine (qtrim_any [x % 4294967296, x / 4294967296] hd _ 2 2 _ (Rd.lit w uEnc_ok _ 2 rfl _ _ (by simp [uEnc])) (by omega) (by omega)).mono ?_
  rintro e w1 ⟨rfl, hr, m, rfl⟩
  have hle : (qdigs x).length ≤ 2 := by have := qdigs_le _ hd; rw [hv] at this; exact this
  rw [hv] at hr ⊢
  go_wp2_with fail
  go_ret
  exact ⟨_, rfl, hr.below (bdrewN (Below.refl _ _) m), hle, bdrewN ((Below.refl _ _).alloc (Nat.le_refl _) _) m⟩

/-- a number of the kit's own: its cells at the block g -/
structure QAt (w : World) (B g : Nat) (x : Int) : Prop where
  gB : B ≤ g
  c0 : w.cell? ⟨g, 0, none⟩ = some (.bool (decide (x < 0)))
  fr : ∀ o, w.frozen? ⟨g, o, none⟩ = false
  wds : ∃ A c, w.cell? ⟨g, 1, none⟩ = some (.slice A (qdigs x.natAbs).length c) ∧ Rd w 1 uEnc A (qdigs x.natAbs).length (qdigs x.natAbs) ∧ (∀ a o s, A = some ⟨a, o, s⟩ → a ≠ g) ∧ (qdigs x.natAbs).length ≤ c
theorem QAt.lt {w : World} {B g : Nat} {x : Int} (h : QAt w B g x) : g < w.heap.size := World.block_lt_of_cell? _ _ h.c0
theorem QAt.below {w w' : World} {B g : Nat} {x : Int} (h : QAt w B g x) (hb : Below w.heap.size w w') : QAt w' B g x := by
  obtain ⟨A, c, h1, h2, h3, h4⟩ := h.wds
  exact ⟨h.gB, below_cell hb h.lt h.c0, fun o => (hb.frozen (p := ⟨g, o, none⟩) h.lt).trans (h.fr o), A, c, below_cell hb h.lt h1, h2.below hb, h3, h4⟩
theorem QAt.wider {w : World} {B B' g : Nat} {x : Int} (h : QAt w B g x) (hB : B' ≤ B) : QAt w B' g x := ⟨Nat.le_trans hB h.gB, h.c0, h.fr, h.wds⟩
theorem Rd.set_other {α : Type} {enc : α → List Value} {w : World} {sz n g o : Nat} {A : Option Addr} {l : List α} {u : Value} (h : Rd w sz enc A n l) (hne : ∀ a o s, A = some ⟨a, o, s⟩ → a ≠ g) : Rd (w.setCell ⟨g, o, none⟩ u) sz enc A n l := by
  refine ⟨h.1, fun h0 => ?_⟩
  obtain ⟨b, off, e, hc⟩ := h.2 h0
  refine ⟨b, off, e, fun i j v hi hv => ?_⟩
  have hb := hne b off none e
  rw [World.cell?_setCell_other _ _ _ _ (by first | (simp; done) | (simp; intro e; exact absurd e hb))]
  exact hc i j v hi hv
theorem qneg_dec (neg : Bool) (m : Nat) : (neg && decide (0 < (qdigs m).length)) = decide ((if neg = true then -(m : Int) else (m : Int)) < 0) := by
  by_cases h : m = 0
  · subst h; rw [qdigs_0]; cases neg <;> simp
  · rw [qdigs_s h]
    cases neg
    · simp
    · simp; omega
theorem QAt.put {w : World} {B g m c : Nat} {neg : Bool} {A : Option Addr} {u0 u1 : Value} (hB : B ≤ g) (c0 : w.cell? ⟨g, 0, none⟩ = some u0) (c1 : w.cell? ⟨g, 1, none⟩ = some u1) (fr : ∀ o, w.frozen? ⟨g, o, none⟩ = false)
    (h : Rd w 1 uEnc A (qdigs m).length (qdigs m)) (hne : ∀ a o s, A = some ⟨a, o, s⟩ → a ≠ g) (hc : (qdigs m).length ≤ c) :
    QAt ((w.setCell ⟨g, 1, none⟩ (.slice A (qdigs m).length c)).setCell ⟨g, 0, none⟩ (.bool (neg && decide (0 < (qdigs m).length)))) B g (if neg = true then -(m : Int) else (m : Int)) := by
  have hg : g < w.heap.size := World.block_lt_of_cell? _ _ c0
  have ha : (if neg = true then -(m : Int) else (m : Int)).natAbs = m := by cases neg <;> simp
  have e0 : (w.setCell ⟨g, 1, none⟩ (.slice A (qdigs m).length c)).cell? ⟨g, 0, none⟩ = some u0 := (World.cell?_setCell_other _ _ _ _ (by simp)).trans c0
  refine ⟨hB, ?_, fun o => by simp [fr o], A, c, ?_, ?_, hne, by rw [ha]; exact hc⟩
  · rw [World.cell?_setCell_same _ _ _ e0, qneg_dec]
  · rw [World.cell?_setCell_other _ _ _ _ (by simp), World.cell?_setCell_same _ _ _ c1, ha]
  · rw [ha]; exact (h.set_other hne).set_other hne

theorem qgive_any (neg : Bool) (m g c : Nat) (A : Option Addr) (u0 u1 : Value) (w : World) (hu0 : u0.oneCell' = true) (hu1 : u1.oneCell' = true) (c0 : w.cell? ⟨g, 0, none⟩ = some u0) (c1 : w.cell? ⟨g, 1, none⟩ = some u1) (fr : ∀ o, w.frozen? ⟨g, o, none⟩ = false) :
    Calls Tryz.prog 77 #[.pointer (some ⟨g, 0, none⟩), .bool neg, .slice A m c] w
      fun e w' => e = .returned (.pointer (some ⟨g, 0, none⟩)) ∧ ∃ n, w' = ((w.setCell ⟨g, 1, none⟩ (.slice A m c)).setCell ⟨g, 0, none⟩ (.bool (neg && decide (0 < m)))).drewN n := by
  have f0 := fr 0
  have f1 := fr 1
  have hd : decide ((0 : Int) < (m : Int)) = decide (0 < m) := by by_cases h : 0 < m <;> simp [h]
  clear fr
  cases neg
  · go_enter Tryz.func77, Tryz.ntmps77
    go_wp2_with fail
    go_ret
    exact ⟨rfl, 0, rfl⟩
  · go_enter Tryz.func77, Tryz.ntmps77
    go_wp2_with fail
    go_ret
    exact ⟨rfl, 0, rfl⟩
end Go.Proofs.YtbdbpcllndajgaaGreatDoor

namespace Go.Proofs.YtbdbpcllndajgaaGreatDoor
open Go Go.RowKit
set_option linter.unusedVariables false

theorem mk_u32 (n : Nat) (hn : n ≤ 1001) (w : World) :
    (Instr.makeSlice 77 (.int .i64 (n : Int)) (.int .i64 (n : Int))).run Tryz.prog w = .ok (.slice (some ⟨w.heap.size, 0, none⟩) n n) (w.alloc (.cells (Array.replicate n (.int .u32 0)) 179)) := by
  obtain ⟨i0, hi0, hz0, hz1, hz2⟩ := info_parts u32_info
  have hr := run_make (P := Tryz.prog) w 77 179 i0 _ Tryz.underlying77 hi0 hz0 .i64 .i64 n n (by omega) (by omega) (by rw [hz2]; omega) (by omega)
  simp only [Int.toNat_natCast, hz1, Nat.mul_one, show (Value.int .u32 0).cells = #[.int .u32 0] from rfl, madeCells_one] at hr
  exact hr
/-- the cells of a row of words -/
def uF (l : List Nat) : Nat → Value := fun j => .int .u32 ((l.getD j 0 : Nat) : Int)
theorem uF_push (l : List Nat) (d j : Nat) : (if j = l.length then Value.int .u32 (d : Int) else uF l j) = uF (l ++ [d]) j := by
  unfold uF
  rw [List.getD_eq_getElem?_getD, List.getD_eq_getElem?_getD]
  by_cases h : j = l.length
  · subst h; simp
  · rw [if_neg h]
    rcases Nat.lt_or_ge j l.length with h1 | h1
    · rw [List.getElem?_append_left h1]
    · rw [List.getElem?_eq_none h1, List.getElem?_eq_none (by simp; omega)]
theorem uF_set {w : World} {g e n i d : Nat} {v : Int} {l : List Nat} (h : VRow w g e n (uF l)) (hl : l.length = i) (hv : v = (d : Int)) : VRow (w.setCell ⟨g, i, none⟩ (.int .u32 v)) g e n (uF (l ++ [d])) := by
  subst hl hv
  exact (h.set_ l.length _).congr fun j _ => uF_push l d j
theorem VRow.words {w : World} {g e n : Nat} {l : List Nat} (h : VRow w g e n (uF l)) (hl : l.length = n) : Rd w 1 uEnc (some ⟨g, 0, none⟩) n l := by
  refine ⟨hl, fun _ => ⟨g, 0, rfl, fun k j u hk hu => ?_⟩⟩
  have hj : j < 1 := by
    have := (List.getElem?_eq_some_iff.1 hu).1
    simpa [uEnc] using this
  obtain rfl : j = 0 := by omega
  simp only [uEnc, List.getElem?_cons_zero, Option.some.injEq] at hu
  rw [Nat.zero_add, Nat.mul_one, Nat.add_zero, h.cell k (by omega), ← hu]
  unfold uF
  rw [List.getD_eq_getElem?_getD, List.getElem?_eq_getElem hk]
  rfl

set_option maxHeartbeats 2000000 in
set_option maxRecDepth 100000 in
theorem qadd_ge (a b : List Nat) (A YA : Option Addr) (n c m d : Nat) (w : World) (hda : QDig a) (hdb : QDig b) (ha : Rd w 1 uEnc A n a) (hb : Rd w 1 uEnc YA m b) (hmn : m ≤ n) (hn : n ≤ 999) :
    Calls Tryz.prog 131 #[.slice A n c, .slice YA m d] w
      fun e w' => ∃ g c', e = .returned (.slice (some ⟨g, 0, none⟩) (qdigs (qval a + qval b)).length c') ∧ Rd w' 1 uEnc (some ⟨g, 0, none⟩) (qdigs (qval a + qval b)).length (qdigs (qval a + qval b)) ∧ (qdigs (qval a + qval b)).length ≤ c' ∧ w.heap.size ≤ g ∧ Below w.heap.size w w' := by
  have hlt : ¬ (n : Int) < (m : Int) := by omega
  have hmk := mk_u32 (n + 1) (by omega)
  have Ha := hide ha.1
  have Hb := hide hb.1
  have hmk' : ∀ w : World, (Instr.makeSlice 77 (.int .i64 ((n : Int) + 1)) (.int .i64 ((n : Int) + 1))).run Tryz.prog w = .ok (.slice (some ⟨w.heap.size, 0, none⟩) (n + 1) (n + 1)) (w.alloc (.cells (Array.replicate (n + 1) (.int .u32 0)) 179)) := hmk
  clear hmk hmn
  go_enter Tryz.func131, Tryz.ntmps131
  go_wp2_with fail
  have hrow0 : VRow (w.alloc (.cells (Array.replicate (n + 1) (.int .u32 0)) 179)) w.heap.size 179 (n + 1) (uF []) := (VRow.made w 179 (n + 1) (.int .u32 0)).congr (fun j _ => by unfold uF; simp)
  have hb1 : Below w.heap.size w (w.alloc (.cells (Array.replicate (n + 1) (.int .u32 0)) 179)) := (Below.refl _ _).alloc (Nat.le_refl _) _
  generalize w.alloc (.cells (Array.replicate (n + 1) (.int .u32 0)) 179) = w1 at hrow0 hb1 ⊢
  go_loopw [6, 7] (fun cv iv wr => ∃ (i cr : Nat) (pre : List Nat), i ≤ n ∧ iv = .int .i64 i ∧ cv = .int .u64 (cr : Int) ∧ AddAt a b i cr pre ∧ VRow wr w.heap.size 179 (n + 1) (uF pre) ∧ w1.grownBy wr (some w.heap.size)) (fun _ iv _ => n - (intOf iv).toNat)
  case atStart => exact ⟨0, 0, [], by omega, rfl, rfl, AddAt.zero a b, hrow0, only_refl _ _⟩
  case round =>
    obtain ⟨i, cr, pre, hi, rfl, rfl, hadd, hrow, honly⟩ := hrel
    have HA := hide hadd
    have hcr := hadd.2.2
    have hbw := below_only hb1 (Nat.le_refl _) (Nat.le_refl _) honly
    clear hadd
    by_cases hlt' : i < n
    · have hia : i < a.length := by have := Ha.out; omega
      obtain ⟨ab, ao, rfl, hca⟩ := (ha.below hbw).2 (by omega)
      have qa := hca i 0 _ hia rfl
      rw [Nat.mul_one, Nat.add_zero] at qa
      clear hca
      have hx1 := hda a[i] (List.getElem_mem hia)
      have hS := hide (HA.out.succ hda hdb hia)
      obtain ⟨x, hx⟩ : ∃ x, x = a[i] := ⟨_, rfl⟩
      rw [← hx] at qa hx1 hS
      clear hx
      have i0 : (0 : Int) ≤ (i : Int) := by omega
      have i1 : (i : Int) < (n : Int) := by omega
      have i2 : (i : Int) < (n : Int) + 1 := by omega
      have qr := hrow.cell i (by omega)
      have fr := hrow.frozen i
      by_cases hbm : i < m
      · have hib : i < b.length := by have := Hb.out; omega
        obtain ⟨bb, bo, rfl, hcb⟩ := (hb.below hbw).2 (by omega)
        have qb := hcb i 0 _ hib rfl
        rw [Nat.mul_one, Nat.add_zero] at qb
        clear hcb
        have hy1 := hdb b[i] (List.getElem_mem hib)
        have hyg : b.getD i 0 = b[i] := by rw [List.getD_eq_getElem?_getD, List.getElem?_eq_getElem hib]; rfl
        obtain ⟨y, hy⟩ : ∃ y, y = b[i] := ⟨_, rfl⟩
        rw [← hy] at qb hy1 hyg
        rw [hyg] at hS
        clear hy hyg
        have j1 : (i : Int) < (m : Int) := by omega
        go_wp2_with fail
        go_roundw
        case rel => exact ⟨i + 1, _, _, by omega, by go_num, by congr 1; omega, hS.out, uF_set hrow HA.out.2.1 (by omega), only_setCell honly _ _⟩
        case measure => simp [intOf]; omega
      · have j1 : ¬ (i : Int) < (m : Int) := by omega
        have hyg : b.getD i 0 = 0 := by rw [List.getD_eq_getElem?_getD, List.getElem?_eq_none (by have := Hb.out; omega)]; rfl
        rw [hyg] at hS
        clear hyg
        go_wp2_with fail
        go_roundw
        case rel => exact ⟨i + 1, _, _, by omega, by go_num, by congr 1; omega, hS.out, uF_set hrow HA.out.2.1 (by omega), only_setCell honly _ _⟩
        case measure => simp [intOf]; omega
    · have hin : i = n := by omega
      subst hin
      have hE := AddAt.end (a := a) (b := b) (pre := pre) (c := cr) (by have := HA.out; rwa [Ha.out])
      have hlen : (pre ++ [cr]).length = i + 1 := by rw [List.length_append, HA.out.2.1]; rfl
      have hval := addL_val a b 0 (by have := Ha.out; have := Hb.out; omega)
      have hdig := addL_dig a b 0 hda hdb (by omega)
      rw [hE] at hval hdig
      have hle := qdigs_le _ hdig
      rw [hlen] at hle
      rw [Nat.add_zero] at hval
      have qr := hrow.cell i (by omega)
      have fr := hrow.frozen i
      have i0 : (0 : Int) ≤ (i : Int) := by omega
      have i2 : (i : Int) < (i : Int) + 1 := by omega
      have hrow2 := (uF_set (d := cr) (v := (cr : Int)) hrow HA.out.2.1 rfl).words hlen
      have honly2 := only_setCell honly i (.int .u32 (cr : Int))
      have hb2 := below_only hb1 (Nat.le_refl _) (Nat.le_refl _) honly2
      clear hE
      go_wp2_with fail
      refine (qtrim_any _ hdig _ (i + 1) (i + 1) _ hrow2 (by omega) (by omega)).mono ?_
      rintro e w2 ⟨rfl, hr, k, rfl⟩
      rw [hval] at hr hle ⊢
      go_wp2_with fail
      go_ret
      exact ⟨_, _, rfl, hr.below (bdrewN (Below.refl _ _) k), hle, Nat.le_refl _, bdrewN hb2 k⟩
set_option maxHeartbeats 2000000 in
set_option maxRecDepth 100000 in
theorem qadd_lt (a b : List Nat) (A YA : Option Addr) (n c m d : Nat) (w : World) (hda : QDig a) (hdb : QDig b) (ha : Rd w 1 uEnc A n a) (hb : Rd w 1 uEnc YA m b) (hmn : m < n) (hn : n ≤ 999) :
    Calls Tryz.prog 131 #[.slice YA m d, .slice A n c] w
      fun e w' => ∃ g c', e = .returned (.slice (some ⟨g, 0, none⟩) (qdigs (qval a + qval b)).length c') ∧ Rd w' 1 uEnc (some ⟨g, 0, none⟩) (qdigs (qval a + qval b)).length (qdigs (qval a + qval b)) ∧ (qdigs (qval a + qval b)).length ≤ c' ∧ w.heap.size ≤ g ∧ Below w.heap.size w w' := by
  have hlt : (m : Int) < (n : Int) := by omega
  have hmk := mk_u32 (n + 1) (by omega)
  have Ha := hide ha.1
  have Hb := hide hb.1
  have hmk' : ∀ w : World, (Instr.makeSlice 77 (.int .i64 ((n : Int) + 1)) (.int .i64 ((n : Int) + 1))).run Tryz.prog w = .ok (.slice (some ⟨w.heap.size, 0, none⟩) (n + 1) (n + 1)) (w.alloc (.cells (Array.replicate (n + 1) (.int .u32 0)) 179)) := hmk
  clear hmk hmn
  go_enter Tryz.func131, Tryz.ntmps131
  go_wp2_with fail
  have hrow0 : VRow (w.alloc (.cells (Array.replicate (n + 1) (.int .u32 0)) 179)) w.heap.size 179 (n + 1) (uF []) := (VRow.made w 179 (n + 1) (.int .u32 0)).congr (fun j _ => by unfold uF; simp)
  have hb1 : Below w.heap.size w (w.alloc (.cells (Array.replicate (n + 1) (.int .u32 0)) 179)) := (Below.refl _ _).alloc (Nat.le_refl _) _
  generalize w.alloc (.cells (Array.replicate (n + 1) (.int .u32 0)) 179) = w1 at hrow0 hb1 ⊢
  go_loopw [6, 7] (fun cv iv wr => ∃ (i cr : Nat) (pre : List Nat), i ≤ n ∧ iv = .int .i64 i ∧ cv = .int .u64 (cr : Int) ∧ AddAt a b i cr pre ∧ VRow wr w.heap.size 179 (n + 1) (uF pre) ∧ w1.grownBy wr (some w.heap.size)) (fun _ iv _ => n - (intOf iv).toNat)
  case atStart => exact ⟨0, 0, [], by omega, rfl, rfl, AddAt.zero a b, hrow0, only_refl _ _⟩
  case round =>
    obtain ⟨i, cr, pre, hi, rfl, rfl, hadd, hrow, honly⟩ := hrel
    have HA := hide hadd
    have hcr := hadd.2.2
    have hbw := below_only hb1 (Nat.le_refl _) (Nat.le_refl _) honly
    clear hadd
    by_cases hlt' : i < n
    · have hia : i < a.length := by have := Ha.out; omega
      obtain ⟨ab, ao, rfl, hca⟩ := (ha.below hbw).2 (by omega)
      have qa := hca i 0 _ hia rfl
      rw [Nat.mul_one, Nat.add_zero] at qa
      clear hca
      have hx1 := hda a[i] (List.getElem_mem hia)
      have hS := hide (HA.out.succ hda hdb hia)
      obtain ⟨x, hx⟩ : ∃ x, x = a[i] := ⟨_, rfl⟩
      rw [← hx] at qa hx1 hS
      clear hx
      have i0 : (0 : Int) ≤ (i : Int) := by omega
      have i1 : (i : Int) < (n : Int) := by omega
      have i2 : (i : Int) < (n : Int) + 1 := by omega
      have qr := hrow.cell i (by omega)
      have fr := hrow.frozen i
      by_cases hbm : i < m
      · have hib : i < b.length := by have := Hb.out; omega
        obtain ⟨bb, bo, rfl, hcb⟩ := (hb.below hbw).2 (by omega)
        have qb := hcb i 0 _ hib rfl
        rw [Nat.mul_one, Nat.add_zero] at qb
        clear hcb
        have hy1 := hdb b[i] (List.getElem_mem hib)
        have hyg : b.getD i 0 = b[i] := by rw [List.getD_eq_getElem?_getD, List.getElem?_eq_getElem hib]; rfl
        obtain ⟨y, hy⟩ : ∃ y, y = b[i] := ⟨_, rfl⟩
        rw [← hy] at qb hy1 hyg
        rw [hyg] at hS
        clear hy hyg
        have j1 : (i : Int) < (m : Int) := by omega
        go_wp2_with fail
        go_roundw
        case rel => exact ⟨i + 1, _, _, by omega, by go_num, by congr 1; omega, hS.out, uF_set hrow HA.out.2.1 (by omega), only_setCell honly _ _⟩
        case measure => simp [intOf]; omega
      · have j1 : ¬ (i : Int) < (m : Int) := by omega
        have hyg : b.getD i 0 = 0 := by rw [List.getD_eq_getElem?_getD, List.getElem?_eq_none (by have := Hb.out; omega)]; rfl
        rw [hyg] at hS
        clear hyg
        go_wp2_with fail
        go_roundw
        case rel => exact ⟨i + 1, _, _, by omega, by go_num, by congr 1; omega, hS.out, uF_set hrow HA.out.2.1 (by omega), only_setCell honly _ _⟩
        case measure => simp [intOf]; omega
    · have hin : i = n := by omega
      subst hin
      have hE := AddAt.end (a := a) (b := b) (pre := pre) (c := cr) (by have := HA.out; rwa [Ha.out])
      have hlen : (pre ++ [cr]).length = i + 1 := by rw [List.length_append, HA.out.2.1]; rfl
      have hval := addL_val a b 0 (by have := Ha.out; have := Hb.out; omega)
      have hdig := addL_dig a b 0 hda hdb (by omega)
      rw [hE] at hval hdig
      have hle := qdigs_le _ hdig
      rw [hlen] at hle
      rw [Nat.add_zero] at hval
      have qr := hrow.cell i (by omega)
      have fr := hrow.frozen i
      have i0 : (0 : Int) ≤ (i : Int) := by omega
      have i2 : (i : Int) < (i : Int) + 1 := by omega
      have hrow2 := (uF_set (d := cr) (v := (cr : Int)) hrow HA.out.2.1 rfl).words hlen
      have honly2 := only_setCell honly i (.int .u32 (cr : Int))
      have hb2 := below_only hb1 (Nat.le_refl _) (Nat.le_refl _) honly2
      clear hE
      go_wp2_with fail
      refine (qtrim_any _ hdig _ (i + 1) (i + 1) _ hrow2 (by omega) (by omega)).mono ?_
      rintro e w2 ⟨rfl, hr, k, rfl⟩
      rw [hval] at hr hle ⊢
      go_wp2_with fail
      go_ret
      exact ⟨_, _, rfl, hr.below (bdrewN (Below.refl _ _) k), hle, Nat.le_refl _, bdrewN hb2 k⟩
theorem qadd_any (a b : List Nat) (A YA : Option Addr) (n c m d : Nat) (w : World) (hda : QDig a) (hdb : QDig b) (ha : Rd w 1 uEnc A n a) (hb : Rd w 1 uEnc YA m b) (hm : m ≤ 999) (hn : n ≤ 999) :
    Calls Tryz.prog 131 #[.slice A n c, .slice YA m d] w
      fun e w' => ∃ g c', e = .returned (.slice (some ⟨g, 0, none⟩) (qdigs (qval a + qval b)).length c') ∧ Rd w' 1 uEnc (some ⟨g, 0, none⟩) (qdigs (qval a + qval b)).length (qdigs (qval a + qval b)) ∧ (qdigs (qval a + qval b)).length ≤ c' ∧ w.heap.size ≤ g ∧ Below w.heap.size w w' := by
  rcases Nat.lt_or_ge n m with h | h
  · rw [Nat.add_comm (qval a) (qval b)]
    exact qadd_lt b a YA A m d n c w hdb hda hb ha h hm
  · exact qadd_ge a b A YA n c m d w hda hdb ha hb h hn

theorem wrap_u64 (x : Int) : IntKind.u64.wrap x = x % 18446744073709551616 := by
  simp only [IntKind.wrap, IntKind.bits, IntKind.signed]
  simp
theorem sub_lo (x y cr : Nat) (hx : x < 4294967296) (hy : y < 4294967296) (hc : cr ≤ 1) : IntKind.u64.wrap (IntKind.u64.wrap ((x : Int) - (cr : Int)) - (y : Int)) % 4294967296 = (((x + 4294967296 - y - cr) % 4294967296 : Nat) : Int) := by
  rw [wrap_u64, wrap_u64]; omega
theorem sub_hi (x y cr : Nat) (hx : x < 4294967296) (hy : y < 4294967296) (hc : cr ≤ 1) : IntKind.u64.wrap (IntKind.u64.wrap ((x : Int) - (cr : Int)) - (y : Int)) / 9223372036854775808 = ((if x < y + cr then 1 else 0 : Nat) : Int) := by
  rw [wrap_u64, wrap_u64]
  split <;> omega
theorem sub_lo0 (x cr : Nat) (hx : x < 4294967296) (hc : cr ≤ 1) : IntKind.u64.wrap ((x : Int) - (cr : Int)) % 4294967296 = (((x + 4294967296 - 0 - cr) % 4294967296 : Nat) : Int) := by
  rw [wrap_u64]; omega
theorem sub_hi0 (x cr : Nat) (hx : x < 4294967296) (hc : cr ≤ 1) : IntKind.u64.wrap ((x : Int) - (cr : Int)) / 9223372036854775808 = ((if x < 0 + cr then 1 else 0 : Nat) : Int) := by
  rw [wrap_u64]
  split <;> omega
set_option maxHeartbeats 2000000 in
set_option maxRecDepth 100000 in
theorem qsub_any (a b : List Nat) (A YA : Option Addr) (n c m d : Nat) (w : World) (hda : QDig a) (hdb : QDig b) (ha : Rd w 1 uEnc A n a) (hb : Rd w 1 uEnc YA m b) (hmn : m ≤ n) (hn : n ≤ 999) (hab : qval b ≤ qval a) :
    Calls Tryz.prog 132 #[.slice A n c, .slice YA m d] w
      fun e w' => ∃ g c', e = .returned (.slice (some ⟨g, 0, none⟩) (qdigs (qval a - qval b)).length c') ∧ Rd w' 1 uEnc (some ⟨g, 0, none⟩) (qdigs (qval a - qval b)).length (qdigs (qval a - qval b)) ∧ (qdigs (qval a - qval b)).length ≤ c' ∧ w.heap.size ≤ g ∧ Below w.heap.size w w' := by
  have hmk := mk_u32 n (by omega)
  have Ha := hide ha.1
  have Hb := hide hb.1
  have hlenba : Hid (b.length ≤ a.length) := by show _ ≤ _; have := ha.1; have := hb.1; omega
  have Hab := hide hab
  clear hmn hab
  go_enter Tryz.func132, Tryz.ntmps132
  go_wp2_with fail
  have hrow0 : VRow (w.alloc (.cells (Array.replicate n (.int .u32 0)) 179)) w.heap.size 179 n (uF []) := (VRow.made w 179 n (.int .u32 0)).congr (fun j _ => by unfold uF; simp)
  have hb1 : Below w.heap.size w (w.alloc (.cells (Array.replicate n (.int .u32 0)) 179)) := (Below.refl _ _).alloc (Nat.le_refl _) _
  generalize w.alloc (.cells (Array.replicate n (.int .u32 0)) 179) = w1 at hrow0 hb1 ⊢
  go_loopw [6, 7] (fun cv iv wr => ∃ (i cr : Nat) (pre : List Nat), i ≤ n ∧ iv = .int .i64 i ∧ cv = .int .u64 (cr : Int) ∧ SubAt a b i cr pre ∧ VRow wr w.heap.size 179 n (uF pre) ∧ w1.grownBy wr (some w.heap.size)) (fun _ iv _ => n - (intOf iv).toNat)
  case atStart => exact ⟨0, 0, [], by omega, rfl, rfl, SubAt.zero a b, hrow0, only_refl _ _⟩
  case round =>
    obtain ⟨i, cr, pre, hi, rfl, rfl, hadd, hrow, honly⟩ := hrel
    have HA := hide hadd
    have hcr := hadd.2.2
    have hbw := below_only hb1 (Nat.le_refl _) (Nat.le_refl _) honly
    clear hadd
    by_cases hlt' : i < n
    · have hia : i < a.length := by have := Ha.out; omega
      obtain ⟨ab, ao, rfl, hca⟩ := (ha.below hbw).2 (by omega)
      have qa := hca i 0 _ hia rfl
      rw [Nat.mul_one, Nat.add_zero] at qa
      clear hca
      have hx1 := hda a[i] (List.getElem_mem hia)
      have hS := hide (HA.out.succ hia)
      obtain ⟨x, hx⟩ : ∃ x, x = a[i] := ⟨_, rfl⟩
      rw [← hx] at qa hx1 hS
      clear hx
      have i0 : (0 : Int) ≤ (i : Int) := by omega
      have i1 : (i : Int) < (n : Int) := by omega
      have qr := hrow.cell i (by omega)
      have fr := hrow.frozen i
      by_cases hbm : i < m
      · have hib : i < b.length := by have := Hb.out; omega
        obtain ⟨bb, bo, rfl, hcb⟩ := (hb.below hbw).2 (by omega)
        have qb := hcb i 0 _ hib rfl
        rw [Nat.mul_one, Nat.add_zero] at qb
        clear hcb
        have hy1 := hdb b[i] (List.getElem_mem hib)
        have hyg : b.getD i 0 = b[i] := by rw [List.getD_eq_getElem?_getD, List.getElem?_eq_getElem hib]; rfl
        obtain ⟨y, hy⟩ : ∃ y, y = b[i] := ⟨_, rfl⟩
        rw [← hy] at qb hy1 hyg
        rw [hyg] at hS
        clear hy hyg
        have j1 : (i : Int) < (m : Int) := by omega
        go_wp2_with fail
        go_roundw
        case rel => exact ⟨i + 1, _, _, by omega, by go_num, by rw [sub_hi x y cr hx1 hy1 hcr], hS.out, uF_set hrow HA.out.2.1 (sub_lo x y cr hx1 hy1 hcr), only_setCell honly _ _⟩
        case measure => simp [intOf]; omega
      · have j1 : ¬ (i : Int) < (m : Int) := by omega
        have hyg : b.getD i 0 = 0 := by rw [List.getD_eq_getElem?_getD, List.getElem?_eq_none (by have := Hb.out; omega)]; rfl
        rw [hyg] at hS
        clear hyg
        go_wp2_with fail
        go_roundw
        case rel => exact ⟨i + 1, _, _, by omega, by go_num, by rw [sub_hi0 x cr hx1 hcr], hS.out, uF_set hrow HA.out.2.1 (sub_lo0 x cr hx1 hcr), only_setCell honly _ _⟩
        case measure => simp [intOf]; omega
    · have hin : i = n := by omega
      subst hin
      have hE := SubAt.end (a := a) (b := b) (pre := pre) (c := cr) (by have := HA.out; rwa [Ha.out])
      have hlen : pre.length = i := HA.out.2.1
      have hval := subL_val a b 0 hda hdb (by omega) hlenba.out (by have := Hab.out; omega)
      have hdig := subL_dig a b 0
      rw [hE] at hval hdig
      have hv : qval pre = qval a - qval b := by omega
      have hle := qdigs_le _ hdig
      rw [hlen] at hle
      have hb2 := below_only hb1 (Nat.le_refl _) (Nat.le_refl _) honly
      clear hE hval
      go_wp2_with fail
      refine (qtrim_any _ hdig _ i i _ (hrow.words hlen) (by omega) (by omega)).mono ?_
      rintro e w2 ⟨rfl, hr, k, rfl⟩
      rw [hv] at hr hle ⊢
      go_wp2_with fail
      go_ret
      exact ⟨_, _, rfl, hr.below (bdrewN (Below.refl _ _) k), hle, Nat.le_refl _, bdrewN hb2 k⟩

set_option maxRecDepth 100000 in
theorem qcmp_any (p q : Nat) (A YA : Option Addr) (n c m d : Nat) (w : World) (ha : Rd w 1 uEnc A n (qdigs p)) (hb : Rd w 1 uEnc YA m (qdigs q)) (hn : n ≤ 999) (hm : m ≤ 999) :
    Calls Tryz.prog 84 #[.slice A n c, .slice YA m d] w
      fun e w' => e = .returned (.int .i64 (qcmp p q)) ∧ Below w.heap.size w w' := by
  have Ha := hide ha.1
  have Hb := hide hb.1
  by_cases hne : n = m
  · subst hne
    have h1 : ((n : Int) != (n : Int)) = false := by simp
    go_enter Tryz.func84, Tryz.ntmps84
    go_wp2_with fail
    go_loopw [5] (fun iv wr => ∃ i : Nat, i ≤ n ∧ iv = .int .i64 ((i : Int) - 1) ∧ (qdigs p).drop i = (qdigs q).drop i ∧ Below w.heap.size w wr) (fun iv _ => (intOf iv + 1).toNat)
    case atStart => exact ⟨n, Nat.le_refl _, rfl, by rw [List.drop_of_length_le (by rw [Ha.out]; omega), List.drop_of_length_le (by rw [Hb.out]; omega)], Below.refl _ _⟩
    case round =>
      obtain ⟨i, hi, rfl, hdr, hbr⟩ := hrel
      have HD := hide hdr
      clear hdr
      by_cases hi0 : i = 0
      · subst hi0
        have he : p = q := qdigs_inj (by simpa using HD.out)
        have hq : qcmp p q = 0 := by unfold qcmp; rw [if_neg (by omega), if_pos he]
        have HQ := hide hq
        clear he hq
        go_wp2_with fail
        go_ret
        exact ⟨by rw [HQ.out]; rfl, hbr⟩
      · obtain ⟨j, rfl⟩ : ∃ j, i = j + 1 := ⟨i - 1, by omega⟩
        have hja : j < (qdigs p).length := by have := Ha.out; omega
        have hjb : j < (qdigs q).length := by have := Hb.out; omega
        obtain ⟨ab, ao, rfl, hca⟩ := (ha.below hbr).2 (by omega)
        have qa := hca j 0 _ hja rfl
        rw [Nat.mul_one, Nat.add_zero] at qa
        obtain ⟨bb, bo, rfl, hcb⟩ := (hb.below hbr).2 (by omega)
        have qb := hcb j 0 _ hjb rfl
        rw [Nat.mul_one, Nat.add_zero] at qb
        clear hca hcb
        have HL : Hid ((qdigs p)[j] < (qdigs q)[j] → qcmp p q = -1) := fun h => by
          have := qcmp_lt (qdigs_dig p) (qdigs_dig q) hja hjb HD.out h
          rw [qval_digs, qval_digs] at this
          unfold qcmp; rw [if_pos this]
        have HG : Hid ((qdigs q)[j] < (qdigs p)[j] → qcmp p q = 1) := fun h => by
          have := qcmp_lt (qdigs_dig q) (qdigs_dig p) hjb hja HD.out.symm h
          rw [qval_digs, qval_digs] at this
          unfold qcmp; rw [if_neg (by omega), if_neg (by omega)]
        have HS : Hid ((qdigs p)[j] = (qdigs q)[j] → (qdigs p).drop j = (qdigs q).drop j) := fun h => by
          rw [List.drop_eq_getElem_cons hja, List.drop_eq_getElem_cons hjb, h, HD.out]
        obtain ⟨x, hx⟩ : ∃ x, x = (qdigs p)[j] := ⟨_, rfl⟩
        obtain ⟨y, hy⟩ : ∃ y, y = (qdigs q)[j] := ⟨_, rfl⟩
        rw [← hx] at qa HL HG HS
        rw [← hy] at qb HL HG HS
        clear hx hy
        have j0 : (0 : Int) ≤ (j : Int) := by omega
        have j1 : (j : Int) < (n : Int) := by omega
        rw [show (((j + 1 : Nat) : Int) - 1) = (j : Int) from by omega]
        rcases Nat.lt_trichotomy x y with hxy | hxy | hxy
        · have e1 : ((x : Int) != (y : Int)) = true := by rw [bne_iff_ne]; omega
          have e2 : (x : Int) < (y : Int) := by omega
          have HQ := hide (HL.out hxy)
          clear hxy
          go_wp2_with fail
          go_quiet (fail)
          go_wp2_with fail
          go_quiet (fail)
          go_wp2_with fail
          go_ret
          exact ⟨by rw [HQ.out]; rfl, bdrewN (bdrewN hbr _) _⟩
        · subst hxy
          have HQ := hide (HS.out rfl)
          go_wp2_with fail
          go_quiet (fail)
          go_wp2_with fail
          go_roundw
          case rel => exact ⟨j, by omega, by go_num, HQ.out, bdrewN hbr _⟩
          case measure => simp [intOf]
        · have e1 : ((x : Int) != (y : Int)) = true := by rw [bne_iff_ne]; omega
          have e2 : ¬ (x : Int) < (y : Int) := by omega
          have HQ := hide (HG.out hxy)
          clear hxy
          go_wp2_with fail
          go_quiet (fail)
          go_wp2_with fail
          go_quiet (fail)
          go_wp2_with fail
          go_ret
          exact ⟨by rw [HQ.out]; rfl, bdrewN (bdrewN hbr _) _⟩
  · have h1 : ((n : Int) != (m : Int)) = true := by rw [bne_iff_ne]; omega
    by_cases hlt : n < m
    · have HQ : Hid (qcmp p q = -1) := by
        show _ = _
        unfold qcmp; rw [if_pos (qcmp_len_lt (by rw [Ha.out, Hb.out]; exact hlt))]
      have h2 : (n : Int) < (m : Int) := by omega
      clear hne hlt
      go_enter Tryz.func84, Tryz.ntmps84
      go_wp2_with fail
      go_ret
      exact ⟨by rw [HQ.out]; rfl, Below.refl _ _⟩
    · have HQ : Hid (qcmp p q = 1) := by
        show _ = _
        have := qcmp_len_lt (m := q) (n := p) (by rw [Ha.out, Hb.out]; omega)
        unfold qcmp; rw [if_neg (by omega), if_neg (by omega)]
      have h2 : ¬ (n : Int) < (m : Int) := by omega
      clear hne hlt
      go_enter Tryz.func84, Tryz.ntmps84
      go_wp2_with fail
      go_ret
      exact ⟨by rw [HQ.out]; rfl, Below.refl _ _⟩
end Go.Proofs.YtbdbpcllndajgaaGreatDoor

namespace Go.Proofs.YtbdbpcllndajgaaGreatDoor
open Go Go.RowKit
set_option linter.unusedVariables false

/-- a number by its sign and size -/
def sgn (s : Bool) (p : Nat) : Int := if s = true then -(p : Int) else (p : Int)
theorem sgn_of (x : Int) : sgn (decide (x < 0)) x.natAbs = x := by
  unfold sgn
  by_cases h : x < 0
  · rw [if_pos (by simpa using h)]; omega
  · rw [if_neg (by simpa using h)]; omega
theorem sgn_not (s : Bool) (p : Nat) : sgn (!s) p = -sgn s p := by
  unfold sgn; cases s <;> simp
/-- of a sum: what is handed back -/
def GivesQ (w : World) (r : Int) (e : Ending) (w' : World) : Prop :=
  ∃ (s : Bool) (M g c : Nat), e = .returned (.tuple #[.bool s, .slice (some ⟨g, 0, none⟩) (qdigs M).length c]) ∧ sgn s M = r ∧ Rd w' 1 uEnc (some ⟨g, 0, none⟩) (qdigs M).length (qdigs M) ∧ (qdigs M).length ≤ c ∧ w.heap.size ≤ g ∧ Below w.heap.size w w'

set_option maxRecDepth 100000 in
theorem qsum_any (s t : Bool) (p q : Nat) (A YA : Option Addr) (n c m d : Nat) (w : World) (ha : Rd w 1 uEnc A n (qdigs p)) (hb : Rd w 1 uEnc YA m (qdigs q)) (hn : n ≤ 900) (hm : m ≤ 900) :
    Calls Tryz.prog 81 #[.bool s, .slice A n c, .bool t, .slice YA m d] w (GivesQ w (sgn s p + sgn t q)) := by
  by_cases hst : s = t
  · subst hst
    have h1 : (s == s) = true := by cases s <;> rfl
    go_enter Tryz.func81, Tryz.ntmps81
    go_wp2_with fail
    refine (qadd_any (qdigs p) (qdigs q) A YA n c m d _ (qdigs_dig p) (qdigs_dig q) ha hb (by omega) (by omega)).mono ?_
    rintro e w1 ⟨g, c', rfl, hr, hc, hg, hb1⟩
    rw [qval_digs, qval_digs] at hr hc ⊢
    go_wp2_with fail
    go_ret2
    exact ⟨s, p + q, g, c', rfl, by unfold sgn; cases s <;> simp <;> omega, hr, hc, hg, hb1⟩
  · have h1 : (s == t) = false := by cases s <;> cases t <;> simp_all
    by_cases hpq : q ≤ p
    · have hc : (0 : Int) ≤ qcmp p q := by unfold qcmp; split <;> (try split) <;> omega
      have hmn : m ≤ n := by have e1 := ha.1; have e2 := hb.1; have := qdigs_mono p q hpq; omega
      obtain ⟨z, hz⟩ : ∃ z, z = qcmp p q := ⟨_, rfl⟩
      have HZ := hide hz
      rw [← hz] at hc
      clear hz
      go_enter Tryz.func81, Tryz.ntmps81
      go_wp2_with fail
      refine (qcmp_any p q A YA n c m d _ ha hb (by omega) (by omega)).mono ?_
      rintro e w1 ⟨rfl, hb1⟩
      rw [← HZ.out]
      go_wp2_with fail
      refine (qsub_any (qdigs p) (qdigs q) A YA n c m d _ (qdigs_dig p) (qdigs_dig q) (ha.below hb1) (hb.below hb1) hmn (by omega) (by rw [qval_digs, qval_digs]; exact hpq)).mono ?_
      rintro e w2 ⟨g, c', rfl, hr, hc', hg, hb2⟩
      rw [qval_digs, qval_digs] at hr hc' ⊢
      have hs1 := hb1.size
      go_wp2_with fail
      go_ret2
      exact ⟨s, p - q, g, c', rfl, by unfold sgn; cases s <;> cases t <;> simp_all <;> omega, hr, hc', by omega, bthen hb1 (Nat.le_refl _) hb2⟩
    · have hc : ¬ (0 : Int) ≤ qcmp p q := by unfold qcmp; rw [if_pos (by omega)]; omega
      have hmn : n ≤ m := by have e1 := ha.1; have e2 := hb.1; have := qdigs_mono q p (by omega); omega
      obtain ⟨z, hz⟩ : ∃ z, z = qcmp p q := ⟨_, rfl⟩
      have HZ := hide hz
      rw [← hz] at hc
      clear hz
      go_enter Tryz.func81, Tryz.ntmps81
      go_wp2_with fail
      refine (qcmp_any p q A YA n c m d _ ha hb (by omega) (by omega)).mono ?_
      rintro e w1 ⟨rfl, hb1⟩
      rw [← HZ.out]
      go_wp2_with fail
      refine (qsub_any (qdigs q) (qdigs p) YA A m d n c _ (qdigs_dig q) (qdigs_dig p) (hb.below hb1) (ha.below hb1) hmn (by omega) (by rw [qval_digs, qval_digs]; omega)).mono ?_
      rintro e w2 ⟨g, c', rfl, hr, hc', hg, hb2⟩
      rw [qval_digs, qval_digs] at hr hc' ⊢
      have hs1 := hb1.size
      go_wp2_with fail
      go_ret2
      exact ⟨t, q - p, g, c', rfl, by unfold sgn; cases s <;> cases t <;> simp_all <;> omega, hr, hc', by omega, bthen hb1 (Nat.le_refl _) hb2⟩

theorem qset_any (x : Int) (g : Nat) (u0 u1 : Value) (w : World) (B : Nat) (hB : B ≤ g) (h0 : -9223372036854775808 ≤ x) (h1 : x ≤ 9223372036854775807) (hu0 : u0.oneCell' = true) (hu1 : u1.oneCell' = true)
    (c0 : w.cell? ⟨g, 0, none⟩ = some u0) (c1 : w.cell? ⟨g, 1, none⟩ = some u1) (fr : ∀ o, w.frozen? ⟨g, o, none⟩ = false) :
    Calls Tryz.prog 123 #[.pointer (some ⟨g, 0, none⟩), .int .i64 x] w
      fun e w' => e = .returned (.pointer (some ⟨g, 0, none⟩)) ∧ QAt w' B g x ∧ Below B w w' := by
  have hg : g < w.heap.size := World.block_lt_of_cell? _ _ c0
  have hfin : ∀ (w1 : World) (c : Nat), Below w.heap.size w w1 → Rd w1 1 uEnc (some ⟨w.heap.size, 0, none⟩) (qdigs x.natAbs).length (qdigs x.natAbs) → (qdigs x.natAbs).length ≤ c →
      Calls Tryz.prog 77 #[.pointer (some ⟨g, 0, none⟩), .bool (decide (x < 0)), .slice (some ⟨w.heap.size, 0, none⟩) (qdigs x.natAbs).length c] w1
        fun e w' => e = .returned (.pointer (some ⟨g, 0, none⟩)) ∧ QAt w' B g x ∧ Below B w w' := by
    intro w1 c hb1 hr hc
    refine (qgive_any (decide (x < 0)) _ g c _ u0 u1 w1 hu0 hu1 (below_cell hb1 hg c0) (below_cell hb1 hg c1) (fun o => (hb1.frozen (p := ⟨g, o, none⟩) hg).trans (fr o))).mono ?_
    rintro e w2 ⟨rfl, k, rfl⟩
    have hQ := QAt.put (neg := decide (x < 0)) hB (below_cell hb1 hg c0) (below_cell hb1 hg c1) (fun o => (hb1.frozen (p := ⟨g, o, none⟩) hg).trans (fr o)) hr (fun a o s e => by injection e with e; injection e with e; omega) hc
    have hx := sgn_of x
    unfold sgn at hx
    rw [hx] at hQ
    exact ⟨rfl, hQ.below (bdrewN (Below.refl _ _) k), bdrewN (((hb1.mono (by omega)).setCell hB _).setCell hB _) k⟩
  by_cases hx : x < 0
  · have hd : decide (x < 0) = true := by simpa using hx
    have hw := wrap_neg x h0 hx
    rw [hd] at hfin
    have HF := hide hfin
    clear hfin
    go_enter Tryz.func123, Tryz.ntmps123
    go_wp2_with fail
    refine (qwords_any x.natAbs (by omega) _).mono ?_
    rintro e w1 ⟨c, rfl, hr, hc, hb1⟩
    go_wp2_with fail
    refine (HF.out w1 c hb1 hr hc).mono ?_
    rintro e w2 ⟨rfl, hQ, hb2⟩
    go_wp2_with fail
    go_ret
    exact ⟨rfl, hQ, hb2⟩
  · obtain ⟨m, rfl⟩ : ∃ m : Nat, x = m := ⟨x.natAbs, by omega⟩
    have hd : decide ((m : Int) < 0) = false := by simp
    rw [hd, Int.natAbs_natCast] at hfin
    have HF := hide hfin
    clear hfin
    go_enter Tryz.func123, Tryz.ntmps123
    go_wp2_with fail
    refine (qwords_any m (by omega) _).mono ?_
    rintro e w1 ⟨c, rfl, hr, hc, hb1⟩
    go_wp2_with fail
    refine (HF.out w1 c hb1 hr hc).mono ?_
    rintro e w2 ⟨rfl, hQ, hb2⟩
    go_wp2_with fail
    go_ret
    exact ⟨rfl, hQ, hb2⟩
theorem qnew_any (x : Int) (w : World) (h0 : -9223372036854775808 ≤ x) (h1 : x ≤ 9223372036854775807) :
    Calls Tryz.prog 76 #[.int .i64 x] w fun e w' => ∃ g, e = .returned (.pointer (some ⟨g, 0, none⟩)) ∧ QAt w' w.heap.size g x ∧ Below w.heap.size w w' := by
  go_enter Tryz.func76, Tryz.ntmps76
  go_wp2_with fail
  have c0 : (w.alloc (.cells #[.bool false, .slice none 0 0] 79)).cell? ⟨w.heap.size, 0, none⟩ = some (.bool false) := by simp
  have c1 : (w.alloc (.cells #[.bool false, .slice none 0 0] 79)).cell? ⟨w.heap.size, 1, none⟩ = some (.slice none 0 0) := by simp
  refine (qset_any x w.heap.size _ _ _ w.heap.size (Nat.le_refl _) h0 h1 rfl rfl c0 c1 (fun o => by simp)).mono ?_
  rintro e w1 ⟨rfl, hQ, hb⟩
  go_wp2_with fail
  go_ret
  exact ⟨_, rfl, hQ, ((Below.refl _ _).alloc (Nat.le_refl _) _).trans hb⟩
theorem refBig_any (x : Int) (w : World) (h0 : -9223372036854775808 ≤ x) (h1 : x ≤ 9223372036854775807) :
    Calls Tryz.prog 36 #[.int .i64 x] w fun e w' => ∃ g, e = .returned (.pointer (some ⟨g, 0, none⟩)) ∧ QAt w' w.heap.size g x ∧ Below w.heap.size w w' := by
  go_enter Tryz.func36, Tryz.ntmps36
  go_wp2_with fail
  refine (qnew_any x _ h0 h1).mono ?_
  rintro e w1 ⟨g, rfl, hQ, hb⟩
  go_wp2_with fail
  go_ret
  exact ⟨g, rfl, hQ, hb⟩
theorem qdigs_3 {n : Nat} (h : n < 79228162514264337593543950336) : (qdigs n).length ≤ 3 := by
  by_cases h0 : n = 0
  · subst h0; rw [qdigs_0]; decide
  · rw [qdigs_s h0, List.length_cons]
    by_cases h1 : n / 4294967296 = 0
    · rw [h1, qdigs_0]; decide
    · rw [qdigs_s h1, List.length_cons]
      by_cases h2 : n / 4294967296 / 4294967296 = 0
      · rw [h2, qdigs_0]; decide
      · rw [qdigs_s h2, List.length_cons, show n / 4294967296 / 4294967296 / 4294967296 = 0 from by omega, qdigs_0]; decide

set_option maxHeartbeats 4000000 in
set_option maxRecDepth 100000 in
theorem qSub_any {w : World} {B By g gy : Nat} {x y : Int} (hX : QAt w B g x) (hY : QAt w By gy y) (hB : B ≤ w.heap.size) (hx : x.natAbs < 79228162514264337593543950336) (hy : y.natAbs < 79228162514264337593543950336) :
    Calls Tryz.prog 40 #[.pointer (some ⟨g, 0, none⟩), .pointer (some ⟨g, 0, none⟩), .pointer (some ⟨gy, 0, none⟩)] w
      fun e w' => e = .returned (.pointer (some ⟨g, 0, none⟩)) ∧ QAt w' B g (x - y) ∧ Below B w w' := by
  have c0 := hX.c0
  obtain ⟨A, c, c1, ha, hne, hc⟩ := hX.wds
  have d0 := hY.c0
  obtain ⟨YA, d, d1, hb, hne2, hd⟩ := hY.wds
  have hn := qdigs_3 hx
  have hm := qdigs_3 hy
  have hSum := qsum_any (decide (x < 0)) (!decide (y < 0)) x.natAbs y.natAbs A YA _ c _ d w.drew (ha.below (bdrewN (Below.refl _ w) 1)) (hb.below (bdrewN (Below.refl _ w) 1)) (by omega) (by omega)
  rw [sgn_of, sgn_not, sgn_of, ← Int.sub_eq_add_neg] at hSum
  have HS := hide hSum
  have hgl : g < w.drew.heap.size := hX.lt
  have hgyl : gy < w.drew.heap.size := hY.lt
  clear hSum hx hy ha hb
  obtain ⟨bx, hbx⟩ : ∃ bx, bx = decide (x < 0) := ⟨_, rfl⟩
  obtain ⟨bY, hbY⟩ : ∃ bY, bY = decide (y < 0) := ⟨_, rfl⟩
  rw [← hbx] at c0 HS
  rw [← hbY] at d0 HS
  clear hbx hbY
  go_enter Tryz.func40, Tryz.ntmps40
  go_wp2_with fail
  go_region_law (first
      | (go_simp; go_at_call 81; refine HS.out.mono ?_; rintro e w1 ⟨s, M, g1, c', rfl, hsg, hr, hle, hg1, hb1⟩; have k0 := below_cell hb1 hgl c0; have k1 := below_cell hb1 hgl c1; have k2 := below_cell hb1 hgyl d0; have k3 := below_cell hb1 hgyl d1)
      | (go_simp; go_at_call 77; refine (qgive_any s _ g c' _ _ _ _ rfl rfl k0 k1 (fun o => (hb1.frozen (p := ⟨g, o, none⟩) hgl).trans (hX.fr o))).mono ?_; rintro e w2 ⟨rfl, k, rfl⟩))
  all_goals
    go_wp2_with fail
    go_ret
    have hbw : Below w.heap.size w w1 := (bdrewN (Below.refl _ w) 1).trans hb1
    have hQ := QAt.put (neg := s) hX.gB k0 k1 (fun o => (hb1.frozen (p := ⟨g, o, none⟩) hgl).trans (hX.fr o)) hr (fun a o z e => by injection e with e; injection e with e; have : g < w.heap.size := hgl; have : w.heap.size ≤ g1 := hg1; omega) hle
    unfold sgn at hsg
    rw [hsg] at hQ
    exact ⟨rfl, hQ.below (bdrewN (Below.refl _ _) k), bdrewN (((hbw.mono hB).setCell hX.gB _).setCell hX.gB _) k⟩

end Go.Proofs.YtbdbpcllndajgaaGreatDoor

namespace Go.Proofs.YtbdbpcllndajgaaGreatDoor
open Go Go.RowKit
set_option linter.unusedVariables false

/-- the number at g and its words lie in no block of this row -/
def QFree (w : World) (g : Nat) (r : Option Nat) : Prop := r ≠ some g ∧ ∀ A n c, w.cell? ⟨g, 1, none⟩ = some (.slice A n c) → 0 < n → ∀ a o s, A = some ⟨a, o, s⟩ → some a ≠ r
theorem QAt.free0 {w : World} {B g : Nat} (h : QAt w B g 0) {r : Option Nat} (hr : r ≠ some g) : QFree w g r := by
  obtain ⟨A, c, c1, _⟩ := h.wds
  refine ⟨hr, fun A2 n2 c2 hc2 hn => ?_⟩
  have e := c1.symm.trans hc2
  injection e with e
  injection e with _ e _
  rw [Int.natAbs_zero, qdigs_0] at e
  simp at e
  omega
theorem QFree.below {w w' : World} {B g : Nat} {x : Int} {r : Option Nat} (h : QFree w g r) (hQ : QAt w B g x) (hb : Below w.heap.size w w') : QFree w' g r := by
  refine ⟨h.1, fun A n c hc => h.2 A n c ?_⟩
  obtain ⟨A2, c2, c1, _⟩ := hQ.wds
  have e := below_cell hb hQ.lt c1
  rw [c1, ← e]; exact hc
theorem QAt.grown {w w' : World} {B g : Nat} {x : Int} {r : Option Nat} (h : QAt w B g x) (hf : QFree w g r) (hg : w.grownBy w' r) : QAt w' B g x ∧ ∀ r', QFree w g r' → QFree w' g r' := by
  obtain ⟨A, c, c1, hr, hne, hc⟩ := h.wds
  have c1' := hg.cell c1 (fun e => hf.1 e.symm)
  refine ⟨⟨h.gB, hg.cell h.c0 (fun e => hf.1 e.symm), fun o => ?_, A, c, c1', ⟨hr.1, fun hn => ?_⟩, hne, hc⟩, fun r' hf' => ⟨hf'.1, fun A2 n2 c2 hc2 => hf'.2 A2 n2 c2 (by rw [c1, ← c1']; exact hc2)⟩⟩
  · have y := hg.block g h.lt (fun e => hf.1 e.symm)
    have := h.fr o
    rw [← this]; unfold World.frozen?; simp only [y]
  · obtain ⟨b, off, e1, hcs⟩ := hr.2 hn
    exact ⟨b, off, e1, fun i j u hi hu => hg.cell (hcs i j u hi hu) (hf.2 A _ c c1 hn b off _ e1)⟩
theorem QFree.new {w : World} {B g q : Nat} {x : Int} (h : QAt w B g x) (hq : w.heap.size ≤ q) : QFree w g (some q) := by
  obtain ⟨A, c, c1, hr, hne, hc⟩ := h.wds
  refine ⟨fun e => by injection e with e; have := h.lt; omega, fun A2 n2 c2 hc2 hn a o s hA e => ?_⟩
  have e2 := c1.symm.trans hc2
  injection e2 with e2
  injection e2 with e3 e4 _
  obtain ⟨b, off, e1, hcs⟩ := hr.2 (by omega)
  rw [← e3, e1] at hA
  injection hA with hA
  injection hA with hA _ _
  have hl := hr.1
  have hcell := hcs 0 0 (.int .u32 ((qdigs x.natAbs)[0]'(by omega))) (by omega) rfl
  have := World.block_lt_of_cell? _ _ hcell
  injection e with e
  simp only at this
  omega

set_option maxHeartbeats 4000000 in
set_option maxRecDepth 100000 in
theorem qSub_frame {w : World} {B By g gy : Nat} {x y : Int} (hX : QAt w B g x) (hY : QAt w By gy y) (hB : B ≤ w.heap.size) (hx : x.natAbs < 79228162514264337593543950336) (hy : y.natAbs < 79228162514264337593543950336) :
    Calls Tryz.prog 40 #[.pointer (some ⟨g, 0, none⟩), .pointer (some ⟨g, 0, none⟩), .pointer (some ⟨gy, 0, none⟩)] w
      fun e w' => e = .returned (.pointer (some ⟨g, 0, none⟩)) ∧ QAt w' B g (x - y) ∧ Below B w w' ∧ w.grownBy w' (some g) ∧ (∀ r : Option Nat, r ≠ some g → (∀ q, r = some q → q < w.heap.size) → QFree w' g r) := by
  have c0 := hX.c0
  obtain ⟨A, c, c1, ha, hne, hc⟩ := hX.wds
  have d0 := hY.c0
  obtain ⟨YA, d, d1, hb, hne2, hd⟩ := hY.wds
  have hn := qdigs_3 hx
  have hm := qdigs_3 hy
  have hSum := qsum_any (decide (x < 0)) (!decide (y < 0)) x.natAbs y.natAbs A YA _ c _ d w.drew (ha.below (bdrewN (Below.refl _ w) 1)) (hb.below (bdrewN (Below.refl _ w) 1)) (by omega) (by omega)
  rw [sgn_of, sgn_not, sgn_of, ← Int.sub_eq_add_neg] at hSum
  have HS := hide hSum
  have hgl : g < w.drew.heap.size := hX.lt
  have hgyl : gy < w.drew.heap.size := hY.lt
  clear hSum hx hy ha hb
  obtain ⟨bx, hbx⟩ : ∃ bx, bx = decide (x < 0) := ⟨_, rfl⟩
  obtain ⟨bY, hbY⟩ : ∃ bY, bY = decide (y < 0) := ⟨_, rfl⟩
  rw [← hbx] at c0 HS
  rw [← hbY] at d0 HS
  clear hbx hbY
  go_enter Tryz.func40, Tryz.ntmps40
  go_wp2_with fail
  go_region_law (first
      | (go_simp; go_at_call 81; refine HS.out.mono ?_; rintro e w1 ⟨s, M, g1, c', rfl, hsg, hr, hle, hg1, hb1⟩; have k0 := below_cell hb1 hgl c0; have k1 := below_cell hb1 hgl c1; have k2 := below_cell hb1 hgyl d0; have k3 := below_cell hb1 hgyl d1)
      | (go_simp; go_at_call 77; refine (qgive_any s _ g c' _ _ _ _ rfl rfl k0 k1 (fun o => (hb1.frozen (p := ⟨g, o, none⟩) hgl).trans (hX.fr o))).mono ?_; rintro e w2 ⟨rfl, k, rfl⟩))
  all_goals
    go_wp2_with fail
    go_ret
    have hbw : Below w.heap.size w w1 := (bdrewN (Below.refl _ w) 1).trans hb1
    have hQ := QAt.put (neg := s) hX.gB k0 k1 (fun o => (hb1.frozen (p := ⟨g, o, none⟩) hgl).trans (hX.fr o)) hr (fun a o z e => by injection e with e; injection e with e; have : g < w.heap.size := hgl; have : w.heap.size ≤ g1 := hg1; omega) hle
    unfold sgn at hsg
    rw [hsg] at hQ
    refine ⟨rfl, hQ.below (bdrewN (Below.refl _ _) k), bdrewN (((hbw.mono hB).setCell hX.gB _).setCell hX.gB _) k, ?_, ?_⟩
    · exact only_drewN (only_setCell (only_setCell ⟨hbw.os, hbw.tape, hbw.output, hbw.size, fun i hi _ => hbw.block i hi⟩ _ _) _ _) k
    · intro r hr1 hr2
      refine ⟨hr1, fun A2 n2 c2 hc2 _ a o z hA e => ?_⟩
      have hgl' : g < w.heap.size := hgl
      have hg1' : w.heap.size ≤ g1 := hg1
      have hce : ((w1.setCell ⟨g, 1, none⟩ (.slice (some ⟨g1, 0, none⟩) (qdigs M).length c')).setCell ⟨g, 0, none⟩ (.bool (s && decide (0 < (qdigs M).length)))).cell? ⟨g, 1, none⟩ = some (.slice (some ⟨g1, 0, none⟩) (qdigs M).length c') := by
        rw [World.cell?_setCell_other _ _ _ _ (by simp), World.cell?_setCell_same _ _ _ k1]
      have hc3 := hce.symm.trans (show _ = some (Value.slice A2 n2 c2) from hc2)
      injection hc3 with hc3
      injection hc3 with hc4 _ _
      rw [← hc4] at hA
      injection hA with hA
      injection hA with hA _ _
      have := hr2 a e.symm
      omega

end Go.Proofs.YtbdbpcllndajgaaGreatDoor

namespace Go.Proofs.YtbdbpcllndajgaaGreatDoor
open Go Go.RowKit
set_option linter.unusedVariables false

/-- cells of the words -/
theorem qcell {w : World} {b o n : Nat} {l : List Nat} (h : Rd w 1 uEnc (some ⟨b, o, none⟩) n l) (k : Nat) (hk : k < l.length) : w.cell? ⟨b, o + k, none⟩ = some (.int .u32 (l[k] : Int)) := by
  obtain ⟨b', o', e, hc⟩ := h.2 (by have := h.1; omega)
  injection e with e
  injection e with e1 e2
  subst e1 e2
  have := hc k 0 _ hk rfl
  rwa [Nat.mul_one, Nat.add_zero] at this
theorem qdigs_one {p : Nat} (h0 : p ≠ 0) (h : p < 4294967296) : qdigs p = [p] := by
  rw [qdigs_s h0, show p / 4294967296 = 0 from by omega, qdigs_0, show p % 4294967296 = p from by omega]
theorem qdigs_two {p : Nat} (h1 : 4294967296 ≤ p) (h : p < 18446744073709551616) : qdigs p = [p % 4294967296, p / 4294967296] := by
  rw [qdigs_s (by omega), qdigs_one (by omega) (by omega)]
theorem qdigs_more {p : Nat} (h1 : 18446744073709551616 ≤ p) : 3 ≤ (qdigs p).length := by
  rw [qdigs_s (by omega), qdigs_s (by omega), qdigs_s (by omega)]
  simp only [List.length_cons]; omega

/-- how many bits the greatest word has -/
def Bits (t n : Nat) : Prop := n ≤ 32 ∧ t < 2 ^ n ∧ (0 < n → 2 ^ (n - 1) ≤ t)
def BitAt (t i s : Nat) : Prop := s = t / 2 ^ i ∧ i ≤ 32 ∧ (0 < i → 2 ^ (i - 1) ≤ t)
theorem BitAt.succ {t i s : Nat} (h : BitAt t i s) (ht : t < 4294967296) (h0 : s ≠ 0) : BitAt t (i + 1) (s / 2) := by
  obtain ⟨rfl, h2, h3⟩ := h
  have hp : 2 ^ i ≤ t := by
    rcases Nat.lt_or_ge t (2 ^ i) with h | h
    · exact absurd (Nat.div_eq_of_lt h) h0
    · exact h
  refine ⟨by rw [Nat.div_div_eq_div_mul, ← Nat.pow_succ], ?_, fun _ => by simpa using hp⟩
  have : (2 : Nat) ^ i < 2 ^ 32 := Nat.lt_of_le_of_lt hp (by omega)
  have := (Nat.pow_lt_pow_iff_right (by omega)).1 this
  omega
theorem BitAt.done {t i s : Nat} (h : BitAt t i s) (h0 : s = 0) : Bits t i := by
  obtain ⟨h1, h2, h3⟩ := h
  refine ⟨h2, ?_, h3⟩
  rcases Nat.lt_or_ge t (2 ^ i) with h | h
  · exact h
  · have := Nat.div_pos h (Nat.pow_pos (by omega) : 0 < 2 ^ i)
    omega
theorem qlength_any (l : List Nat) (hd : QDig l) (A : Option Addr) (n c : Nat) (w : World) (h : Rd w 1 uEnc A n l) (h0 : 0 < n) (hn : n ≤ 900) (t : Nat) (ht : ∃ hk : n - 1 < l.length, l[n - 1] = t) :
    Calls Tryz.prog 128 #[.slice A n c] w fun e w' => ∃ k : Nat, e = .returned (.int .i64 (((n : Int) - 1) * 32 + k)) ∧ Bits t k ∧ ∃ m, w' = w.drewN m := by
  obtain ⟨hk, ht⟩ := ht
  obtain ⟨b, o, rfl, _⟩ := h.2 h0
  have hc := qcell h (n - 1) hk
  have h32 := hd l[n - 1] (List.getElem_mem hk)
  rw [ht] at hc h32
  obtain ⟨j, rfl⟩ : ∃ j, n = j + 1 := ⟨n - 1, by omega⟩
  rw [Nat.add_sub_cancel] at hc
  have j0 : (0 : Int) ≤ (j : Int) := by omega
  have j1 : ((j + 1 : Nat) : Int) - 1 = (j : Int) := by omega
  have j2 : (j : Int) < ((j + 1 : Nat) : Int) := by omega
  have j3 : (((j + 1 : Nat) : Int) == 0) = false := by rw [beq_eq_false_iff_ne]; omega
  rw [j1]
  clear h hd ht hk
  go_enter Tryz.func128, Tryz.ntmps128
  go_wp2_with fail
  go_loopw [3, 4] (fun iv tv wr => ∃ i s : Nat, iv = .int .i64 i ∧ tv = .int .u32 s ∧ BitAt t i s ∧ ∃ m, wr = w.drewN m) (fun _ tv _ => (intOf tv).toNat)
  case atStart => exact ⟨0, t, rfl, rfl, ⟨by simp, by omega, fun h => absurd h (by omega)⟩, 0, rfl⟩
  case round =>
    obtain ⟨i, s, rfl, rfl, hB, m, rfl⟩ := hrel
    have HB := hide hB
    have hi32 := hB.2.1
    clear hB
    by_cases hs : s = 0
    · subst hs
      have HD := hide (HB.out.done rfl)
      go_wp2_with fail
      go_ret
      exact ⟨i, rfl, HD.out, m, rfl⟩
    · have HN := hide (HB.out.succ h32 hs)
      have e1 : ((s : Int) != 0) = true := by rw [bne_iff_ne]; omega
      have hs0 : 0 < s := by omega
      clear hs
      go_wp2_with fail
      go_roundw
      case rel => exact ⟨i + 1, s / 2, by go_num, by go_num, HN.out, m, rfl⟩
      case measure => simp [intOf]; omega

theorem u64_63 (n : Int) (h0 : 0 ≤ n) (h1 : n < 2 ^ 63) : IntKind.u64.wrap n = n := by rw [wrap_u64]; omega
theorem and_one (m : Nat) (h : m < 4294967296) : bits BinOp.and IntKind.u64 (IntKind.u64.wrap (m : Int)) 1 = ((m % 2 : Nat) : Int) := by
  have e := (bits_nat .u64 63 (by decide) u64_63 m 1 (by omega) (by decide)).1
  rw [u64_63 _ (by omega) (by omega)]
  rw [Nat.and_one_is_mod] at e
  simpa using e
theorem qbit_at (x : Nat) (hx : x < 4294967296) (b o c i : Nat) (w : World) (hc : w.cell? ⟨b, o + i / 32, none⟩ = some (.int .u32 (x : Int))) (hi64 : i < 64) :
    Calls Tryz.prog 169 #[.slice (some ⟨b, o, none⟩) 2 c, .int .i64 (i : Int)] w fun e w' => e = .returned (.int .u64 ((x / 2 ^ (i % 32) % 2 : Nat) : Int)) ∧ ∃ m, w' = w.drewN m := by
  have e1 : ¬ ((i : Int) < 0) := by omega
  have e2 : ¬ (2 : Int) ≤ (i : Int) / 32 := by omega
  have e3 : (i : Int) / 32 < 2 := by omega
  go_enter Tryz.func169, Tryz.ntmps169
  go_wp2_with fail
  go_ret
  refine ⟨?_, 0, rfl⟩
  have hk : x / 2 ^ (i % 32) ≤ x := Nat.div_le_self _ _
  have hc2 : ((x : Int) / 2 ^ (i % 32)) = ((x / 2 ^ (i % 32) : Nat) : Int) := by simp
  show Ending.returned (Value.int IntKind.u64 (bits BinOp.and IntKind.u64 (IntKind.u64.wrap ((x : Int) / 2 ^ (i % 32))) 1)) = _
  rw [hc2, and_one _ (by omega)]
  simp

/-- the word that bit i is in -/
def wordAt (p i : Nat) : Nat := if i < 32 then p % 4294967296 else p / 4294967296
theorem word_bit (p i : Nat) (hi : i < 64) : wordAt p i / 2 ^ (i % 32) % 2 = p / 2 ^ i % 2 := by
  rw [← Nat.toNat_testBit, ← Nat.toNat_testBit]
  congr 1
  have e : p = 2 ^ 32 * (p / 4294967296) + p % 4294967296 := by omega
  have h := Nat.testBit_two_pow_mul_add (p / 4294967296) (b := p % 4294967296) (i := 32) (by omega) i
  rw [← e] at h
  rw [h]
  unfold wordAt
  by_cases h32 : i < 32
  · rw [if_pos h32, if_pos h32, show i % 32 = i from by omega]
  · rw [if_neg h32, if_neg h32, show i % 32 = i - 32 from by omega]
theorem low_zero {p : Nat} (h : ∀ j, j < 63 → p / 2 ^ j % 2 = 0) : p % 9223372036854775808 = 0 := by
  have e : p % 2 ^ 63 = 0 := by
    apply Nat.eq_of_testBit_eq
    intro j
    rw [Nat.testBit_mod_two_pow, Nat.zero_testBit]
    by_cases hj : j < 63
    · have := h j hj
      rw [← Nat.toNat_testBit] at this
      cases hb : p.testBit j with
      | false => simp
      | true => rw [hb] at this; cases this
    · simp [hj]
  have e2 : (2 : Nat) ^ 63 = 9223372036854775808 := by decide
  rw [e2] at e
  exact e
theorem top_bit {p : Nat} (h1 : 9223372036854775808 ≤ p) (h2 : p < 18446744073709551616) : p / 2 ^ 63 % 2 = 1 := by
  have e2 : (2 : Nat) ^ 63 = 9223372036854775808 := by decide
  rw [e2]; omega
theorem one_bit (i : Nat) (hi : i < 63) : 9223372036854775808 / 2 ^ i % 2 = 0 := by
  rw [← Nat.toNat_testBit, show (9223372036854775808 : Nat) = 2 ^ 63 from by decide, Nat.testBit_two_pow]
  simp; omega

theorem qtzb_any {w : World} {B g : Nat} {x : Int} (h : QAt w B g x) (h1 : 9223372036854775808 ≤ x.natAbs) (h2 : x.natAbs < 18446744073709551616) :
    Calls Tryz.prog 133 #[.pointer (some ⟨g, 0, none⟩)] w fun e w' => ∃ i : Nat, e = .returned (.int .u64 i) ∧ (i = 63 ↔ x.natAbs = 9223372036854775808) ∧ ∃ m, w' = w.drewN m := by
  obtain ⟨A, c, c1, hr, _, hc⟩ := h.wds
  obtain ⟨p, hp⟩ : ∃ p, p = x.natAbs := ⟨_, rfl⟩
  rw [← hp] at c1 hr hc h1 h2 ⊢
  rw [qdigs_two (by omega) h2] at c1 hr hc
  simp only [List.length_cons, List.length_nil, Nat.zero_add, Nat.reduceAdd] at c1 hr hc
  obtain ⟨b, o, rfl, _⟩ := hr.2 (by omega)
  have d0 := qcell hr 0 (by simp)
  have d1 := qcell hr 1 (by simp)
  rw [Nat.add_zero] at d0
  simp only [List.getElem_cons_zero, List.getElem_cons_succ] at d0 d1
  have hwd : ∀ i, i < 64 → w.cell? ⟨b, o + i / 32, none⟩ = some (.int .u32 (wordAt p i : Int)) := by
    intro i hi
    unfold wordAt
    by_cases h32 : i < 32
    · rw [if_pos h32, show i / 32 = 0 from by omega, Nat.add_zero]; exact d0
    · rw [if_neg h32, show i / 32 = 1 from by omega]; exact d1
  have hwl : ∀ i, wordAt p i < 4294967296 := by intro i; unfold wordAt; split <;> omega
  clear d0 d1 hp hr
  go_enter Tryz.func133, Tryz.ntmps133
  go_wp2_with fail
  go_loopw [3] (fun iv wr => ∃ i : Nat, i ≤ 63 ∧ iv = .int .u64 i ∧ (∀ j, j < i → p / 2 ^ j % 2 = 0) ∧ ∃ m, wr = w.drewN m) (fun iv _ => 64 - (intOf iv).toNat)
  case atStart => exact ⟨0, by omega, rfl, (fun j hj => absurd hj (by omega)), 0, rfl⟩
  case round =>
    obtain ⟨i, hi, rfl, hz, m, rfl⟩ := hrel
    have HZ := hide hz
    clear hz
    have hcd : (w.drewN m).cell? ⟨b, o + i / 32, none⟩ = some (.int .u32 (wordAt p i : Int)) := hwd i (by omega)
    have hc1 : (w.drewN m).cell? ⟨g, 1, none⟩ = some (.slice (some ⟨b, o, none⟩) 2 c) := c1
    have hB := qbit_at (wordAt p i) (hwl i) b o c i _ hcd (by omega)
    rw [word_bit p i (by omega)] at hB
    have HB := hide hB
    have hi' : (i : Int) ≤ 63 := by omega
    clear hB hcd
    by_cases hb : p / 2 ^ i % 2 = 0
    · have h63 : i < 63 := by
        rcases Nat.lt_or_ge i 63 with h | h
        · exact h
        · have : i = 63 := by omega
          subst this
          rw [top_bit h1 h2] at hb; omega
      rw [hb] at HB
      have HN : Hid (∀ j, j < i + 1 → p / 2 ^ j % 2 = 0) := by
        intro j hj
        by_cases e : j = i
        · subst e; exact hb
        · exact HZ.out j (by omega)
      clear hb
      go_wp2_with fail
      refine HB.out.mono ?_
      rintro e w2 ⟨rfl, m2, rfl⟩
      go_wp2_with fail
      go_roundw
      case rel => exact ⟨i + 1, by omega, by go_num, HN.out, m + m2, rfl⟩
      case measure => simp [intOf]; omega
    · have hb1 : p / 2 ^ i % 2 = 1 := by omega
      have HI : Hid (i = 63 ↔ p = 9223372036854775808) := by
        show _ ↔ _
        constructor
        · rintro rfl
          have := low_zero HZ.out
          omega
        · intro e
          rcases Nat.lt_or_ge i 63 with h | h
          · rw [e, one_bit i h] at hb; omega
          · omega
      rw [hb1] at HB
      clear hb hb1
      go_wp2_with fail
      refine HB.out.mono ?_
      rintro e w2 ⟨rfl, m2, rfl⟩
      go_wp2_with fail
      go_ret
      exact ⟨i, rfl, HI.out, m + m2, rfl⟩

theorem u64_64 (n : Int) (h0 : 0 ≤ n) (h1 : n < 2 ^ 64) : IntKind.u64.wrap n = n := by rw [wrap_u64]; omega
theorem or_words (lo hi : Nat) (h1 : lo < 4294967296) (h2 : hi < 4294967296) : lo ||| (hi * 4294967296) = lo + 4294967296 * hi := by
  have h := Nat.two_pow_add_eq_or_of_lt (i := 32) (b := lo) (by omega) hi
  rw [Nat.or_comm, Nat.mul_comm hi]
  rw [show (2 : Nat) ^ 32 = 4294967296 from by decide] at h
  omega
theorem qu64_0 {w : World} {g : Nat} {A : Option Addr} {c : Nat} (c1 : w.cell? ⟨g, 1, none⟩ = some (.slice A 0 c)) :
    Calls Tryz.prog 134 #[.pointer (some ⟨g, 0, none⟩)] w fun e w' => e = .returned (.int .u64 0) ∧ ∃ m, w' = w.drewN m := by
  go_enter Tryz.func134, Tryz.ntmps134
  go_wp2_with fail
  go_ret
  exact ⟨rfl, 0, rfl⟩
theorem qu64_1 {w : World} {g b o c p : Nat} (c1 : w.cell? ⟨g, 1, none⟩ = some (.slice (some ⟨b, o, none⟩) 1 c)) (d0 : w.cell? ⟨b, o, none⟩ = some (.int .u32 (p : Int))) (hp : p < 4294967296) :
    Calls Tryz.prog 134 #[.pointer (some ⟨g, 0, none⟩)] w fun e w' => e = .returned (.int .u64 (p : Int)) ∧ ∃ m, w' = w.drewN m := by
  go_enter Tryz.func134, Tryz.ntmps134
  go_wp2_with fail
  go_ret
  exact ⟨rfl, 0, rfl⟩
theorem qu64_2 {w : World} {g b o c lo hi : Nat} (c1 : w.cell? ⟨g, 1, none⟩ = some (.slice (some ⟨b, o, none⟩) 2 c)) (d0 : w.cell? ⟨b, o, none⟩ = some (.int .u32 (lo : Int))) (d1 : w.cell? ⟨b, o + 1, none⟩ = some (.int .u32 (hi : Int))) (h1 : lo < 4294967296) (h2 : hi < 4294967296) :
    Calls Tryz.prog 134 #[.pointer (some ⟨g, 0, none⟩)] w fun e w' => e = .returned (.int .u64 ((lo + 4294967296 * hi : Nat) : Int)) ∧ ∃ m, w' = w.drewN m := by
  go_enter Tryz.func134, Tryz.ntmps134
  go_wp2_with fail
  go_ret
  refine ⟨?_, 0, rfl⟩
  show Ending.returned (Value.int IntKind.u64 (bits BinOp.or IntKind.u64 (lo : Int) ((hi : Int) * 4294967296))) = _
  have e := (bits_nat .u64 64 (by decide) u64_64 lo (hi * 4294967296) (by omega) (by omega)).2
  rw [or_words lo hi h1 h2] at e
  rw [show ((hi : Int) * 4294967296) = ((hi * 4294967296 : Nat) : Int) from by omega, e]

theorem qu64_any {w : World} {B g : Nat} {x : Int} (h : QAt w B g x) (hp : x.natAbs < 18446744073709551616) :
    Calls Tryz.prog 134 #[.pointer (some ⟨g, 0, none⟩)] w fun e w' => e = .returned (.int .u64 (x.natAbs : Int)) ∧ ∃ m, w' = w.drewN m := by
  obtain ⟨A, c, c1, hr, _, hc⟩ := h.wds
  obtain ⟨p, hp'⟩ : ∃ p, p = x.natAbs := ⟨_, rfl⟩
  rw [← hp'] at c1 hr hp ⊢
  by_cases h0 : p = 0
  · subst h0
    rw [qdigs_0] at c1
    exact qu64_0 c1
  · by_cases h1 : p < 4294967296
    · rw [qdigs_one h0 h1] at c1 hr
      obtain ⟨b, o, rfl, _⟩ := hr.2 (by simp)
      have d0 := qcell hr 0 (by simp)
      rw [Nat.add_zero] at d0
      exact qu64_1 c1 d0 h1
    · rw [qdigs_two (by omega) hp] at c1 hr
      obtain ⟨b, o, rfl, _⟩ := hr.2 (by simp)
      have d0 := qcell hr 0 (by simp)
      have d1 := qcell hr 1 (by simp)
      rw [Nat.add_zero] at d0
      have hq := qu64_2 (lo := p % 4294967296) (hi := p / 4294967296) c1 d0 d1 (by omega) (by omega)
      rwa [show p % 4294967296 + 4294967296 * (p / 4294967296) = p from by omega] at hq

theorem qint64_any {w : World} {B g : Nat} {x : Int} (h : QAt w B g x) (hx : in64 x = true) :
    Calls Tryz.prog 83 #[.pointer (some ⟨g, 0, none⟩)] w fun e w' => e = .returned (.int .i64 x) ∧ ∃ m, w' = w.drewN m := by
  have hr : -9223372036854775808 ≤ x ∧ x ≤ 9223372036854775807 := by unfold in64 at hx; simpa using hx
  clear hx
  have c0 := h.c0
  have h2' : x.natAbs < 18446744073709551616 := by omega
  by_cases hs : x < 0
  · have hd : decide (x < 0) = true := by simpa using hs
    rw [hd] at c0
    have hwr := hide (show wrap64 (-wrap64 (x.natAbs : Int)) = x by simp only [wrap64]; omega)
    clear hd
    go_enter Tryz.func83, Tryz.ntmps83
    go_wp2_with fail
    refine (qu64_any h h2').mono ?_
    rintro e w1 ⟨rfl, m, rfl⟩
    have c0' : (w.drewN m).cell? ⟨g, 0, none⟩ = some (.bool true) := c0
    go_wp2_with fail
    go_ret
    exact ⟨ret_int (by first | exact hwr.out | omega), m, rfl⟩
  · have hd : decide (x < 0) = false := by simpa using hs
    rw [hd] at c0
    have hwr := hide (show wrap64 (x.natAbs : Int) = x by simp only [wrap64]; omega)
    clear hd
    go_enter Tryz.func83, Tryz.ntmps83
    go_wp2_with fail
    refine (qu64_any h h2').mono ?_
    rintro e w1 ⟨rfl, m, rfl⟩
    have c0' : (w.drewN m).cell? ⟨g, 0, none⟩ = some (.bool false) := c0
    go_wp2_with fail
    go_ret
    exact ⟨ret_int (by first | exact hwr.out | omega), m, rfl⟩

theorem qlength_0 (A : Option Addr) (c : Nat) (w : World) : Calls Tryz.prog 128 #[.slice A 0 c] w fun e w' => e = .returned (.int .i64 0) ∧ ∃ m, w' = w.drewN m := by
  go_enter Tryz.func128, Tryz.ntmps128
  go_wp2_with fail
  go_ret
  exact ⟨rfl, 0, rfl⟩
/-- the length in bits, near 64 -/
theorem qlen_any {w : World} {B g : Nat} {x : Int} (h : QAt w B g x) (hp : x.natAbs < 79228162514264337593543950336) :
    ∃ A n c, w.cell? ⟨g, 1, none⟩ = some (.slice A n c) ∧ Calls Tryz.prog 128 #[.slice A n c] w fun e w' => ∃ L : Int, e = .returned (.int .i64 L) ∧ (L < 64 ↔ x.natAbs < 9223372036854775808) ∧ (L = 64 ↔ 9223372036854775808 ≤ x.natAbs ∧ x.natAbs < 18446744073709551616) ∧ ∃ m, w' = w.drewN m := by
  obtain ⟨A, c, c1, hr, _, hc⟩ := h.wds
  obtain ⟨p, hp'⟩ : ∃ p, p = x.natAbs := ⟨_, rfl⟩
  rw [← hp'] at c1 hr hp ⊢
  refine ⟨A, _, c, c1, ?_⟩
  by_cases h0 : p = 0
  · subst h0
    rw [qdigs_0]
    refine (qlength_0 A c w).mono ?_
    rintro e w1 ⟨rfl, m, rfl⟩
    exact ⟨0, rfl, by omega, by omega, m, rfl⟩
  · by_cases h1 : p < 4294967296
    · rw [qdigs_one h0 h1] at hr ⊢
      refine (qlength_any [p] (fun y hy => by simp at hy; omega) A 1 c w hr (by omega) (by omega) p ⟨by simp, rfl⟩).mono ?_
      rintro e w1 ⟨k, rfl, hk, m, rfl⟩
      have := hk.1
      exact ⟨_, rfl, by omega, by omega, m, rfl⟩
    · by_cases h2 : p < 18446744073709551616
      · have hd := qdigs_dig p
        rw [qdigs_two (by omega) h2] at hr hd ⊢
        refine (qlength_any _ hd A 2 c w hr (by omega) (by omega) (p / 4294967296) ⟨by simp, rfl⟩).mono ?_
        rintro e w1 ⟨k, rfl, ⟨hk1, hk2, hk3⟩, m, rfl⟩
        have hlow : p < 9223372036854775808 → k ≤ 31 := by
          intro hp1
          rcases Nat.lt_or_ge 31 k with h | h
          · have : k = 32 := by omega
            subst this
            have := hk3 (by omega)
            omega
          · exact h
        have hhigh : ¬ p < 9223372036854775808 → k = 32 := by
          intro hp1
          rcases Nat.lt_or_ge k 32 with h | h
          · have : 2 ^ k ≤ 2 ^ 31 := Nat.pow_le_pow_right (by omega) (by omega)
            omega
          · omega
        refine ⟨_, rfl, ?_, ?_, m, rfl⟩ <;> omega
      · have hd := qdigs_dig p
        have e3 : qdigs p = [p % 4294967296, p / 4294967296 % 4294967296, p / 4294967296 / 4294967296] := by
          rw [qdigs_s (by omega), qdigs_two (by omega) (by omega)]
        rw [e3] at hr hd ⊢
        refine (qlength_any _ hd A 3 c w hr (by omega) (by omega) (p / 4294967296 / 4294967296) ⟨by simp, rfl⟩).mono ?_
        rintro e w1 ⟨k, rfl, ⟨hk1, hk2, hk3⟩, m, rfl⟩
        have hk0 : 0 < k := by
          rcases Nat.eq_zero_or_pos k with h | h
          · subst h; omega
          · exact h
        refine ⟨_, rfl, ?_, ?_, m, rfl⟩ <;> omega

theorem in64_iff (x : Int) : in64 x = true ↔ x.natAbs < 9223372036854775808 ∨ (x < 0 ∧ x.natAbs = 9223372036854775808) := by
  unfold in64
  rw [Bool.and_eq_true, decide_eq_true_eq, decide_eq_true_eq]
  omega
theorem qis64_any {w : World} {B g : Nat} {x : Int} (h : QAt w B g x) (hp : x.natAbs < 79228162514264337593543950336) :
    Calls Tryz.prog 82 #[.pointer (some ⟨g, 0, none⟩)] w fun e w' => e = .returned (.bool (in64 x)) ∧ ∃ m, w' = w.drewN m := by
  obtain ⟨A, n, c, c1, hlen⟩ := qlen_any h hp
  have c0 := h.c0
  have HL := hide hlen
  clear hlen
  by_cases h1 : x.natAbs < 9223372036854775808
  · have hi : in64 x = true := (in64_iff x).2 (.inl h1)
    have HI := hide hi
    clear hi
    go_enter Tryz.func82, Tryz.ntmps82
    go_wp2_with fail
    refine HL.out.mono ?_
    rintro e w1 ⟨L, rfl, hL1, hL2, m, rfl⟩
    have hL := hL1.2 h1
    clear hL1 hL2
    go_wp2_with fail
    go_ret
    exact ⟨by rw [HI.out]; rfl, m, rfl⟩
  · by_cases h2 : x.natAbs < 18446744073709551616
    · by_cases hs : x < 0
      · have hd : decide (x < 0) = true := by simpa using hs
        rw [hd] at c0
        go_enter Tryz.func82, Tryz.ntmps82
        go_wp2_with fail
        refine HL.out.mono ?_
        rintro e w1 ⟨L, rfl, hL1, hL2, m, rfl⟩
        obtain rfl := hL2.2 ⟨by omega, h2⟩
        clear hL1 hL2
        have c0' : (w.drewN m).cell? ⟨g, 0, none⟩ = some (.bool true) := c0
        have hm := h.below (bdrewN (Below.refl _ w) m)
        go_wp2_with fail
        refine (qtzb_any hm (by omega) h2).mono ?_
        rintro e w2 ⟨i, rfl, hi, m2, rfl⟩
        have HI : Hid (in64 x = decide (i = 63)) := by
          show _ = _
          rw [Bool.eq_iff_iff, in64_iff, decide_eq_true_eq, hi]
          omega
        clear hi
        go_wp2_with fail
        go_ret
        refine ⟨?_, m + m2, rfl⟩
        rw [HI.out]
        show Ending.returned (Value.bool ((i : Int) == 63)) = _
        rw [show ((i : Int) == 63) = decide (i = 63) from by rw [Bool.eq_iff_iff, beq_iff_eq, decide_eq_true_eq]; omega]
      · have hi : in64 x = false := by rw [Bool.eq_false_iff]; intro e; have := (in64_iff x).1 e; omega
        have HI := hide hi
        have hd : decide (x < 0) = false := by simpa using hs
        rw [hd] at c0
        clear hi
        go_enter Tryz.func82, Tryz.ntmps82
        go_wp2_with fail
        refine HL.out.mono ?_
        rintro e w1 ⟨L, rfl, hL1, hL2, m, rfl⟩
        obtain rfl := hL2.2 ⟨by omega, h2⟩
        clear hL1 hL2
        have c0' : (w.drewN m).cell? ⟨g, 0, none⟩ = some (.bool false) := c0
        go_wp2_with fail
        go_ret
        exact ⟨by rw [HI.out]; rfl, m, rfl⟩
    · have hi : in64 x = false := by rw [Bool.eq_false_iff]; intro e; have := (in64_iff x).1 e; omega
      have HI := hide hi
      clear hi
      go_enter Tryz.func82, Tryz.ntmps82
      go_wp2_with fail
      refine HL.out.mono ?_
      rintro e w1 ⟨L, rfl, hL1, hL2, m, rfl⟩
      have hL : ¬ L < 64 := fun e => h1 (hL1.1 e)
      have hLe : (L == 64) = false := by rw [beq_eq_false_iff_ne]; intro e; have := hL2.1 e; omega
      clear hL1 hL2
      go_wp2_with fail
      go_ret
      refine ⟨?_, m, rfl⟩
      rw [HI.out]
      show Ending.returned (Value.bool (decide (L < 64))) = _
      rw [decide_eq_false (by omega)]

theorem refSmall_any {w : World} {B g : Nat} {x : Int} (h : QAt w B g x) (hp : x.natAbs < 79228162514264337593543950336) :
    Calls Tryz.prog 41 #[.pointer (some ⟨g, 0, none⟩)] w fun e w' => e = .returned (.tuple #[.int .i64 (smV x), .int .i64 (smE x)]) ∧ Below w.heap.size w w' := by
  cases hx : in64 x with
  | true =>
    have HX := hide hx
    have h1 : Hid (smV x = x) := if_pos hx
    have h2 : Hid (smE x = 0) := if_pos hx
    clear hx
    go_enter Tryz.func41, Tryz.ntmps41
    go_wp2_with fail
    refine (qis64_any h hp).mono ?_
    rintro e w1 ⟨rfl, n1, rfl⟩
    rw [HX.out]
    go_wp2_with fail
    refine (qint64_any (h.below (bdrewN (Below.refl _ w) n1)) HX.out).mono ?_
    rintro e w2 ⟨rfl, n2, rfl⟩
    go_wp2_with fail
    go_ret2
    exact ⟨by rw [h1.out, h2.out]; rfl, bdrewN (Below.refl _ w) (n1 + n2)⟩
  | false =>
    have HX := hide hx
    have h1 : Hid (smV x = 0) := if_neg (by rw [hx]; decide)
    have h2 : Hid (smE x = 10) := if_neg (by rw [hx]; decide)
    clear hx
    go_enter Tryz.func41, Tryz.ntmps41
    go_wp2_with fail
    refine (qis64_any h hp).mono ?_
    rintro e w1 ⟨rfl, n1, rfl⟩
    rw [HX.out]
    go_wp2_with fail
    go_ret2
    exact ⟨by rw [h1.out, h2.out]; rfl, bdrewN (Below.refl _ w) n1⟩
end Go.Proofs.YtbdbpcllndajgaaGreatDoor
