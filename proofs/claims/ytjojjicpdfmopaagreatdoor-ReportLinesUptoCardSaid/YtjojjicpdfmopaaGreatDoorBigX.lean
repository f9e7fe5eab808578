/- Great numbers: make, norm, set, cmp of words. -/
import Derived.Test.YtjojjicpdfmopaaGreatDoorBigA
import Derived.Test.YtjojjicpdfmopaaGreatDoorChartX
import Derived.Lib.Builder
import Derived.Laws.CopyRow
import Derived.StillTailTactics
namespace Go.Proofs.YtjojjicpdfmopaaGreatDoor
open Go Go.RowKit
set_option linter.unusedVariables false

theorem setCell_drewN (w : World) (a : Addr) (v : Value) (n : Nat) : (w.setCell a v).drewN n = (w.drewN n).setCell a v := rfl
theorem drewN_add (w : World) (a b : Nat) : (w.drewN a).drewN b = w.drewN (a + b) := by
  simp [World.drewN, Nat.add_assoc]
theorem word_info : (Tryz.prog.info? 110).map (fun i => (i.zero, i.size, i.bytes)) = some (some (.int .u64 0), 1, 8) := by kernel_rfl
theorem ptr_same (a : Addr) (w : World) : (binOp .neq 151 (.pointer (some a)) (.pointer (some a))).run Tryz.prog w = .ok (.bool false) w := by
  obtain ⟨i0, hi0, _⟩ := info_parts word_info
  exact Lib.run_neq_ptr_same w a Tryz.underlying151 hi0

theorem addVW1 (zb zo zc xc : Nat) (x y s : Nat) (hx : x < W64) (hy : y < W64) (hs : (x + y + 0) % W64 = s) (hd : (x + y + 0) / W64 = 0) (w : World)
    (hf : w.frozen? ⟨zb, zo, none⟩ = false) (hcx : w.cell? ⟨zb, zo, none⟩ = some (.int .u64 (x : Int))) :
    Calls Tryz.prog 85 #[.slice (some ⟨zb, zo, none⟩) 1 zc, .slice (some ⟨zb, zo, none⟩) 1 xc, .int .u64 (y : Int)] w
      fun e w' => e = .returned (.int .u64 0) ∧ ∃ n, w' = (w.drewN n).setCell ⟨zb, zo, none⟩ (.int .u64 (s : Int)) := by
  have hs1 : s < W64 := by subst hs; exact Nat.mod_lt _ (by decide)
  have hs2 : s < 18446744073709551616 := hs1
  go_enter Tryz.func85, Tryz.ntmps85
  go_wp2_with fail
  refine (bitsAdd_any x y 0 s 0 hx hy (by omega) hs hd _).mono ?_
  rintro e w1 ⟨rfl, n1, rfl⟩
  have hf1 : (w.drewN n1).frozen? ⟨zb, zo, none⟩ = false := hf
  have hcx1 : (w.drewN n1).cell? ⟨zb, zo, none⟩ = some (.int .u64 (x : Int)) := hcx
  have hps := ptr_same ⟨zb, zo, none⟩
  clear hf hcx
  go_wp2_with fail
  go_quiet (fail)
  go_wp2_with fail
  go_ret
  exact ⟨rfl, n1 + nq, by rw [setCell_drewN, drewN_add]⟩
theorem subVW1 (zb zo zc xc : Nat) (x y s : Nat) (hx : x < W64) (hy : y < W64) (hs : (x + W64 - y - 0) % W64 = s) (hd : (if x < y + 0 then 1 else 0 : Nat) = 0) (w : World)
    (hf : w.frozen? ⟨zb, zo, none⟩ = false) (hcx : w.cell? ⟨zb, zo, none⟩ = some (.int .u64 (x : Int))) :
    Calls Tryz.prog 89 #[.slice (some ⟨zb, zo, none⟩) 1 zc, .slice (some ⟨zb, zo, none⟩) 1 xc, .int .u64 (y : Int)] w
      fun e w' => e = .returned (.int .u64 0) ∧ ∃ n, w' = (w.drewN n).setCell ⟨zb, zo, none⟩ (.int .u64 (s : Int)) := by
  have hs1 : s < W64 := by subst hs; exact Nat.mod_lt _ (by decide)
  have hs2 : s < 18446744073709551616 := hs1
  go_enter Tryz.func89, Tryz.ntmps89
  go_wp2_with fail
  refine (bitsSub_any x y 0 s 0 hx hy (by omega) hs hd _).mono ?_
  rintro e w1 ⟨rfl, n1, rfl⟩
  have hf1 : (w.drewN n1).frozen? ⟨zb, zo, none⟩ = false := hf
  have hcx1 : (w.drewN n1).cell? ⟨zb, zo, none⟩ = some (.int .u64 (x : Int)) := hcx
  have hps := ptr_same ⟨zb, zo, none⟩
  clear hf hcx
  go_wp2_with fail
  go_quiet (fail)
  go_wp2_with fail
  go_ret
  exact ⟨rfl, n1 + nq, by rw [setCell_drewN, drewN_add]⟩

/-- all from k on are 0 -/
def ZeroFrom (ws : List Nat) (k : Nat) : Prop := ∀ (i : Nat) (hi : i < ws.length), k ≤ i → ws[i] = 0
theorem natNorm (ws : List Nat) (g c : Nat) (w : World) (h : Rd w 1 wEnc (some ⟨g, 0, none⟩) ws.length ws) (hn : ws.length ≤ 100) (hnc : ws.length ≤ c) :
    Calls Tryz.prog 86 #[.slice (some ⟨g, 0, none⟩) ws.length c] w
      fun e w' => (∃ k, k ≤ ws.length ∧ e = .returned (.slice (some ⟨g, 0, none⟩) k c) ∧ ZeroFrom ws k ∧ (0 < k → ∃ hk : k - 1 < ws.length, ws[k - 1] ≠ 0)) ∧ ∃ n, w' = w.drewN n := by
  have hcell : ∀ (i : Nat) (hi : i < ws.length), w.cell? ⟨g, i, none⟩ = some (.int .u64 (ws[i] : Int)) := by
    intro i hi
    obtain ⟨b, off, e, hc⟩ := h.2 (by omega)
    injection e with e
    injection e with e1 e2
    subst e1 e2
    have := hc i 0 _ hi rfl
    rwa [Nat.zero_add, Nat.mul_one, Nat.add_zero] at this
  go_enter Tryz.func86, Tryz.ntmps86
  go_wp2_with fail
  go_loopw [3] (fun iv wr => ∃ k : Nat, k ≤ ws.length ∧ iv = .int .i64 k ∧ ZeroFrom ws k ∧ ∃ n, wr = w.drewN n) (fun iv _ => (intOf iv).toNat)
  case atStart => exact ⟨ws.length, Nat.le_refl _, rfl, (fun i hi h => absurd h (by omega)), 0, rfl⟩
  case round =>
    obtain ⟨k, hk, rfl, hz, n, rfl⟩ := hrel
    have HZ := hide hz
    clear hz
    by_cases hk0 : k = 0
    · subst hk0
      go_wp2_with fail
      go_ret
      exact ⟨⟨0, hk, rfl, HZ.out, fun h => absurd h (by omega)⟩, n, rfl⟩
    · obtain ⟨j, rfl⟩ : ∃ j, k = j + 1 := ⟨k - 1, by omega⟩
      have hc : (w.drewN n).cell? ⟨g, j, none⟩ = some (.int .u64 (ws[j] : Int)) := hcell j (by omega)
      have j0 : (0 : Int) < ((j + 1 : Nat) : Int) := by omega
      have j1 : (0 : Int) ≤ (j : Int) := by omega
      have j2 : (j : Int) < (ws.length : Int) := by omega
      by_cases hw : ws[j] = 0
      · rw [hw] at hc
        have HS : Hid (ZeroFrom ws j) := by
          intro i hi hji
          by_cases e : i = j
          · subst e; exact hw
          · exact HZ.out i hi (by omega)
        clear hw
        go_wp2_with fail
        go_roundw
        case rel => exact ⟨j, by omega, by go_num, HS.out, n, rfl⟩
        case measure => simp [intOf]
      · have hb : ((ws[j] : Int) == 0) = false := by rw [beq_eq_false_iff_ne]; omega
        have hb2 : (ws[j] == 0) = false := by rw [beq_eq_false_iff_ne]; exact hw
        have HW := hide hw
        have hjc : (j : Int) + 1 ≤ (c : Int) := by omega
        clear hw
        go_wp2_with fail
        go_ret
        exact ⟨⟨j + 1, by omega, rfl, HZ.out, fun _ => ⟨by omega, HW.out⟩⟩, n, rfl⟩

theorem natMake_fits (A : Option Addr) (zn zc n : Nat) (w : World) (hn : n ≤ zc) (hz : zc ≤ maxLen) :
    Calls Tryz.prog 83 #[.slice A zn zc, .int .i64 (n : Int)] w fun e w' => e = .returned (.slice A n zc) ∧ ∃ n, w' = w.drewN n := by
  go_enter Tryz.func83, Tryz.ntmps83
  go_wp2_with fail
  go_ret
  exact ⟨rfl, 0, rfl⟩
/-- so many words of 0 -/
def zeros (n : Nat) : Array Value := Array.replicate n (.int .u64 0)
theorem mk_words (n c : Nat) (hnc : n ≤ c) (hc : c ≤ 100) (w : World) :
    (Instr.makeSlice 63 (.int .i64 (n : Int)) (.int .i64 (c : Int))).run Tryz.prog w = .ok (.slice (some ⟨w.heap.size, 0, none⟩) n c) (w.alloc (.cells (Array.replicate c (.int .u64 0)) 110)) := by
  obtain ⟨i0, hi0, hz0, hz1, hz2⟩ := info_parts word_info
  have hr := run_make (P := Tryz.prog) w 63 110 i0 _ Tryz.underlying63 hi0 hz0 .i64 .i64 n c (by omega) (by omega) (by rw [hz2]; omega) (by omega)
  simp only [Int.toNat_natCast, hz1, Nat.mul_one, show (Value.int .u64 0).cells = #[.int .u64 0] from rfl, madeCells_one] at hr
  exact hr
set_option maxRecDepth 100000 in
theorem natMake_1 (A : Option Addr) (zn : Nat) (w : World) :
    Calls Tryz.prog 83 #[.slice A zn 0, .int .i64 1] w fun e w' => e = .returned (.slice (some ⟨w.heap.size, 0, none⟩) 1 1) ∧ w' = w.alloc (.cells (zeros 1) 110) := by
  have hmk : ∀ w : World, (Instr.makeSlice 63 (.int .i64 1) (.int .i64 1)).run Tryz.prog w = .ok (.slice (some ⟨w.heap.size, 0, none⟩) 1 1) (w.alloc (.cells (zeros 1) 110)) := fun w => mk_words 1 1 (by omega) (by omega) w
  go_enter Tryz.func83, Tryz.ntmps83
  go_wp2_with fail
  go_ret
  exact ⟨rfl, rfl⟩
set_option maxRecDepth 100000 in
theorem natMake_2 (A : Option Addr) (zn zc : Nat) (w : World) (hz : zc ≤ 1) :
    Calls Tryz.prog 83 #[.slice A zn zc, .int .i64 2] w fun e w' => e = .returned (.slice (some ⟨w.heap.size, 0, none⟩) 2 6) ∧ w' = w.alloc (.cells (zeros 6) 110) := by
  have hmk : ∀ w : World, (Instr.makeSlice 63 (.int .i64 2) (.int .i64 6)).run Tryz.prog w = .ok (.slice (some ⟨w.heap.size, 0, none⟩) 2 6) (w.alloc (.cells (zeros 6) 110)) := fun w => mk_words 2 6 (by omega) (by omega) w
  have hz' : ¬ (2 : Int) ≤ (zc : Int) := by omega
  go_enter Tryz.func83, Tryz.ntmps83
  go_wp2_with fail
  go_ret
  exact ⟨rfl, rfl⟩
end Go.Proofs.YtjojjicpdfmopaaGreatDoor

namespace Go.Proofs.YtjojjicpdfmopaaGreatDoor
open Go Go.RowKit
set_option linter.unusedVariables false

/-- block g is these cells -/
def RowIs (w : World) (g : Nat) (cur : Array Value) : Prop := w.heap[g]? = some (.cells cur 110 (0, 0))
section
variable {w : World} {g : Nat} {cur : Array Value}
theorem RowIs.lt (h : RowIs w g cur) : g < w.heap.size := by
  rcases Nat.lt_or_ge g w.heap.size with hlt | hge
  · exact hlt
  · unfold RowIs at h; rw [Array.getElem?_eq_none hge] at h; cases h
theorem RowIs.cell (h : RowIs w g cur) (i : Nat) : w.cell? ⟨g, i, none⟩ = cur[i]? := cell_of_row w g i cur _ (0, 0) h
theorem RowIs.fr (h : RowIs w g cur) (i : Nat) : w.frozen? ⟨g, i, none⟩ = false := frozen_of_row w g i cur _ h
theorem RowIs.drewN (h : RowIs w g cur) (n : Nat) : RowIs (w.drewN n) g cur := h
theorem RowIs.set_ (h : RowIs w g cur) (i : Nat) (v : Value) : RowIs (w.setCell ⟨g, i, none⟩ v) g (cur.setIfInBounds i v) := heap_setCell_same w g i cur _ v h
theorem RowIs.made (w : World) (n : Nat) : RowIs (w.alloc (.cells (zeros n) 110)) w.heap.size (zeros n) := by
  unfold RowIs; rw [heap_alloc_new]
end

/-- a number's words in a slice of the call's own: nil, of one word, or with room for six -/
structure Wds (w : World) (B : Nat) (V : Value) (ws : List Nat) : Prop where
  own : Own w B 110 1 wEnc V ws
  cap : ∃ A c, V = .slice A ws.length c ∧ (c ≤ 1 ∨ 6 ≤ c)
theorem Wds.row {w : World} {B g n c : Nat} {ws : List Nat} (h : Wds w B (.slice (some ⟨g, 0, none⟩) n c) ws) : ∃ cur, RowIs w g cur ∧ cur.size = c ∧ cur.toList.take ws.length = ws.flatMap wEnc ∧ B ≤ g ∧ ws.length ≤ c ∧ c ≤ maxLen := by
  rcases h.own.2 with ⟨hv, h0⟩ | ⟨g', cap, cur, hv, hB, hg, hc, hm, hs, ht⟩
  · cases hv
  · injection hv with e1 e2 e3
    injection e1 with e1
    injection e1 with e1
    subst e1 e3
    refine ⟨cur, hg, by omega, ?_, hB, hc, hm⟩
    rw [Nat.mul_one] at ht; exact ht
theorem Wds.ofRow {w : World} {B g c : Nat} {cur : Array Value} {ws : List Nat} (h : RowIs w g cur) (hs : cur.size = c) (ht : cur.toList.take ws.length = ws.flatMap wEnc) (hB : B ≤ g) (hl : ws.length ≤ c) (hm : c ≤ maxLen) (hc : c ≤ 1 ∨ 6 ≤ c) : Wds w B (.slice (some ⟨g, 0, none⟩) ws.length c) ws := by
  refine ⟨⟨by rw [flatMap_len wEnc_ok], .inr ⟨g, c, cur, rfl, hB, h, hl, hm, by omega, by rw [Nat.mul_one]; exact ht⟩⟩, _, _, rfl, hc⟩

/-- what a reckoning leaves: the words ws in V', where V was; nothing else has turned -/
structure Gave (w w' : World) (B : Nat) (V V' : Value) (ws : List Nat) : Prop where
  wds : Wds w' B V' ws
  grown : w.grownBy w' V.ownBlock
  at_ : V'.ownBlock = V.ownBlock ∨ ∃ k, V'.ownBlock = some k ∧ w.heap.size ≤ k

/-- a number's words, the least first -/
def wordsOf (n : Nat) : List Nat := if n = 0 then [] else if n < W64 then [n] else [n % W64, n / W64]
theorem only_set {w : World} {a : World} {row : Option Nat} {g : Nat} (h : a.grownBy w row) (hr : row = some g ∨ a.heap.size ≤ g) (i : Nat) (v : Value) : a.grownBy (w.setCell ⟨g, i, none⟩ v) row := by
  refine ⟨h.os, h.tape, h.output, by simpa [World.setCell] using h.size, fun k hk hne => ?_⟩
  refine (Below.heap_setCell w ⟨g, i, none⟩ v k ?_).trans (h.block k hk hne)
  rintro rfl
  rcases hr with h1 | h1
  · exact hne h1.symm
  · omega

def valOf : List Nat → Nat
  | [] => 0
  | x :: l => x + W64 * valOf l
/-- what is left behind trimming are the number's words -/
theorem norm_words {ws : List Nat} {v k : Nat} (hw : ∀ x, x ∈ ws → x < W64) (hv : valOf ws = v) (hv2 : v < W64 * W64) (h3 : ws.length ≤ 3) (hk : k ≤ ws.length) (hz : ZeroFrom ws k) (hl : 0 < k → ∃ hk : k - 1 < ws.length, ws[k - 1] ≠ 0) : wordsOf v = ws.take k := by
  unfold wordsOf W64 at *
  match ws, h3 with
  | [], _ =>
    simp [valOf] at hv
    subst hv
    simp
  | [a], _ =>
    have ha := hw a (by simp)
    simp only [valOf, W64, Nat.mul_zero, Nat.add_zero] at hv
    match k, hk with
    | 0, _ =>
      have h0 := hz 0 (by simp) (by omega)
      simp only [List.getElem_cons_zero] at h0
      simp; omega
    | 1, _ =>
      obtain ⟨_, h0⟩ := hl (by omega)
      simp at h0
      rw [if_neg (by omega), if_pos (by omega)]; simp; omega
  | [a, b], _ =>
    have ha := hw a (by simp)
    have hb := hw b (by simp)
    simp only [valOf, W64, Nat.mul_zero, Nat.add_zero] at hv
    match k, hk with
    | 0, _ =>
      have h0 := hz 0 (by simp) (by omega)
      have h1 := hz 1 (by simp) (by omega)
      simp at h0 h1
      subst h0 h1
      simp at hv
      subst hv; simp
    | 1, _ =>
      obtain ⟨_, h0⟩ := hl (by omega)
      have h1 := hz 1 (by simp) (by omega)
      simp at h0 h1
      subst h1
      rw [if_neg (by omega), if_pos (by omega)]; simp; omega
    | 2, _ =>
      obtain ⟨_, h0⟩ := hl (by omega)
      simp at h0
      rw [if_neg (by omega), if_neg (by omega)]
      simp
      constructor <;> omega
  | [a, b, c], _ =>
    have ha := hw a (by simp)
    have hb := hw b (by simp)
    simp only [valOf, W64, Nat.mul_zero, Nat.add_zero] at hv
    have hc : c = 0 := by omega
    subst hc
    match k, hk with
    | 0, _ =>
      have h0 := hz 0 (by simp) (by omega)
      have h1 := hz 1 (by simp) (by omega)
      simp at h0 h1
      subst h0 h1
      simp at hv
      subst hv; simp
    | 1, _ =>
      obtain ⟨_, h0⟩ := hl (by omega)
      have h1 := hz 1 (by simp) (by omega)
      simp at h0 h1
      subst h1
      rw [if_neg (by omega), if_pos (by omega)]; simp; omega
    | 2, _ =>
      obtain ⟨_, h0⟩ := hl (by omega)
      simp at h0
      rw [if_neg (by omega), if_neg (by omega)]
      simp
      constructor <;> omega
    | 3, _ =>
      obtain ⟨_, h0⟩ := hl (by omega)
      simp at h0

theorem rd_row {w : World} {g : Nat} {cur : Array Value} {ws : List Nat} (h : RowIs w g cur) (ht : cur.toList.take ws.length = ws.flatMap wEnc) : Rd w 1 wEnc (some ⟨g, 0, none⟩) ws.length ws := by
  refine ⟨rfl, fun hn => ⟨g, 0, rfl, fun k j u hk hu => ?_⟩⟩
  have hj : j < 1 := by
    have := (List.getElem?_eq_some_iff.1 hu).1
    rwa [wEnc_ok.len] at this
  obtain rfl : j = 0 := by omega
  have e : 0 + k * 1 + 0 = k := by omega
  rw [e, h.cell k, ← Array.getElem?_toList]
  have h1 : (cur.toList.take ws.length)[k]? = cur.toList[k]? := by rw [List.getElem?_take, if_pos hk]
  rw [← h1, ht, ← hu]
  have h2 := flatMap_get wEnc_ok ws k 0 hk (by omega)
  rw [show k * 1 + 0 = k from by omega] at h2
  exact h2

/-- the end of each reckoning: trimmed, what lies in the row are the words of v -/
theorem gave_row {w w' : World} {B g c k : Nat} {V : Value} {cur : Array Value} {ws : List Nat} {v : Nat} (hg : w.grownBy w' V.ownBlock) (hr : RowIs w' g cur) (ht : cur.toList.take ws.length = ws.flatMap wEnc) (hs : cur.size = c) (hB : B ≤ g) (hm : c ≤ maxLen) (hc : c ≤ 1 ∨ 6 ≤ c)
    (hat : V.ownBlock = some g ∨ w.heap.size ≤ g) (hw : ∀ x, x ∈ ws → x < W64) (hv : valOf ws = v) (hv2 : v < W64 * W64) (h3 : ws.length ≤ 3) (hwc : ws.length ≤ c) (hk : k ≤ ws.length) (hz : ZeroFrom ws k) (hl : 0 < k → ∃ hk : k - 1 < ws.length, ws[k - 1] ≠ 0) :
    Gave w w' B V (.slice (some ⟨g, 0, none⟩) k c) (wordsOf v) := by
  have hnw := norm_words hw hv hv2 h3 hk hz hl
  have hlen : (wordsOf v).length = k := by rw [hnw, List.length_take]; omega
  have htk : cur.toList.take (wordsOf v).length = (wordsOf v).flatMap wEnc := by
    have e1 : cur.toList.take k = (cur.toList.take ws.length).take k := by rw [List.take_take, Nat.min_eq_left hk]
    rw [hlen, e1, ht, hnw]
    have e2 : ∀ (l : List Nat), (l.flatMap wEnc) = l.map (fun (n : Nat) => Value.int .u64 (n : Int)) := by
      intro l
      induction l with
      | nil => rfl
      | cons a l ih => rw [List.flatMap_cons, ih]; rfl
    rw [e2, e2, List.map_take]
  have hW := Wds.ofRow hr hs htk hB (by omega) hm hc
  rw [hlen] at hW
  refine ⟨hW, hg, ?_⟩
  rcases hat with h | h
  · exact .inl h.symm
  · exact .inr ⟨g, rfl, h⟩

theorem take_set2 (l : List Value) (a b : Value) (h : 2 ≤ l.length) : ((l.set 0 a).set 1 b).take 2 = [a, b] := by
  match l, h with
  | p :: q :: r, _ => rfl
theorem cell_head {w : World} {g : Nat} {cur : Array Value} {ws : List Nat} (h : RowIs w g cur) (ht : cur.toList.take ws.length = ws.flatMap wEnc) (i : Nat) (hi : i < ws.length) : w.cell? ⟨g, i, none⟩ = some (.int .u64 (ws[i] : Int)) := by
  obtain ⟨b, off, e, hc⟩ := (rd_row h ht).2 (by omega)
  injection e with e
  injection e with e1 e2
  subst e1 e2
  have := hc i 0 _ hi rfl
  rwa [show 0 + i * 1 + 0 = i from by omega] at this

set_option maxHeartbeats 1000000 in
set_option maxRecDepth 100000 in
theorem natAdd_11 (B : Nat) (g c : Nat) (x y yb yo yc : Nat) (w : World) (hx : x < W64) (hy : y < W64) (hBw : B ≤ w.heap.size) (h : Wds w B (.slice (some ⟨g, 0, none⟩) 1 c) [x]) (hcy : w.cell? ⟨yb, yo, none⟩ = some (.int .u64 (y : Int))) (hyc : 1 ≤ yc) :
    Calls Tryz.prog 59 #[.slice (some ⟨g, 0, none⟩) 1 c, .slice (some ⟨g, 0, none⟩) 1 c, .slice (some ⟨yb, yo, none⟩) 1 yc] w
      fun e w' => ∃ V', e = .returned V' ∧ Gave w w' B (.slice (some ⟨g, 0, none⟩) 1 c) V' (wordsOf (x + y)) := by
  have eg := addVV_enters
  obtain ⟨cur, hrow, hcs, hct, hBg, hlc, hcm⟩ := h.row
  have hcap : c ≤ 1 ∨ 6 ≤ c := by
    obtain ⟨A, c', e, h'⟩ := h.cap
    injection e with _ _ e; subst e; exact h'
  have hl1 : ([x] : List Nat).length = 1 := rfl
  have hxw := cell_head hrow hct 0 (by simp)
  simp only [List.getElem_cons_zero] at hxw
  rw [hl1] at hlc
  obtain ⟨s, hs⟩ : ∃ s, (x + y + 0) % W64 = s := ⟨_, rfl⟩
  obtain ⟨d, hd⟩ : ∃ d, (x + y + 0) / W64 = d := ⟨_, rfl⟩
  have hs1 : s < W64 := by subst hs; exact Nat.mod_lt _ (by decide)
  have hd1 : d < W64 := by unfold W64 at *; omega
  have hval : valOf [s, d] = x + y := by simp only [valOf]; unfold W64 at *; omega
  have hc1i : (1 : Int) ≤ (c : Int) := by omega
  have hyi : (1 : Int) ≤ (yc : Int) := by omega
  rcases hcap with hc1 | hc6
  · go_enter Tryz.func59, Tryz.ntmps59
    go_wp2_with fail
    refine (natMake_2 _ 1 c _ hc1).mono ?_
    rintro e w1 ⟨rfl, rfl⟩
    have hga : w.grownBy (w.alloc (.cells (zeros 6) 110)) (some g) := World.grownBy_alloc w _ _
    have hra := RowIs.made w 6
    have hcya : (w.alloc (.cells (zeros 6) 110)).cell? ⟨yb, yo, none⟩ = some (.int .u64 (y : Int)) := below_cell ((Below.refl w.heap.size w).alloc (Nat.le_refl _) _) (World.block_lt_of_cell? _ _ hcy) hcy
    have hxa : (w.alloc (.cells (zeros 6) 110)).cell? ⟨g, 0, none⟩ = some (.int .u64 (x : Int)) := below_cell ((Below.refl w.heap.size w).alloc (Nat.le_refl _) _) (World.block_lt_of_cell? _ _ hxw) hxw
    generalize w.alloc (.cells (zeros 6) 110) = wa at hga hra hcya hxa ⊢
    go_wp2_with fail
    refine wp_region_still_tail 9 (by kernel_rfl) (by kernel_rfl) ?_
    simp only [List.take_succ_cons, List.take_zero, List.drop_succ_cons, List.drop_zero]
    change wpStill _ _ wa.drew _ _ _
    repeat still_step
    refine wpStill_nil ?_
    change wpList _ _ _ _ _ wa.drew
    have hga : w.grownBy wa.drew (some g) := only_drewN hga 1
    have hra : RowIs wa.drew w.heap.size (zeros 6) := hra
    have hcya : wa.drew.cell? ⟨yb, yo, none⟩ = some (.int .u64 (y : Int)) := hcya
    have hxa : wa.drew.cell? ⟨g, 0, none⟩ = some (.int .u64 (x : Int)) := hxa
    generalize wa.drew = wb at hga hra hcya hxa ⊢
    go_wp2_with fail
    have hz0 : ∃ u, wb.cell? ⟨w.heap.size, 0, none⟩ = some u ∧ u.oneCell' = true := by
      exact ⟨.int .u64 0, by rw [hra.cell 0]; rfl, rfl⟩
    obtain ⟨u0, hz0, hu0⟩ := hz0
    refine (addVV1 w.heap.size 0 _ g 0 _ yb yo _ u0 x y s d hx hy hs hd _ hz0 hu0 (hra.fr 0) hxa hcya).mono ?_
    rintro e w2 ⟨rfl, n2, rfl⟩
    have hgc := only_set (only_drewN hga n2) (.inr (Nat.le_refl _)) 0 (.int .u64 (s : Int))
    have hrc := (hra.drewN n2).set_ 0 (.int .u64 (s : Int))
    generalize (wb.drewN n2).setCell ⟨w.heap.size, 0, none⟩ (.int .u64 (s : Int)) = wc at hgc hrc ⊢
    have c1 : ∃ u, wc.cell? ⟨w.heap.size, 1, none⟩ = some u := ⟨_, (hrc.cell 1).trans (Array.getElem?_eq_getElem (by simp [zeros]; try omega))⟩
    obtain ⟨u1, c1⟩ := c1
    have f1 := hrc.fr 1
    go_wp2_with fail
    have hgd := only_set hgc (.inr (Nat.le_refl _)) 1 (.int .u64 (d : Int))
    have hrd := hrc.set_ 1 (.int .u64 (d : Int))
    generalize wc.setCell ⟨w.heap.size, 1, none⟩ (.int .u64 (d : Int)) = wd at hgd hrd ⊢
    have htk : (((zeros 6).setIfInBounds 0 (.int .u64 (s : Int))).setIfInBounds 1 (.int .u64 (d : Int))).toList.take ([s, d] : List Nat).length = [s, d].flatMap wEnc := by
      rw [Array.toList_setIfInBounds, Array.toList_setIfInBounds]
      exact take_set2 _ _ _ (by simp [zeros]; try omega)
    refine (natNorm [s, d] w.heap.size 6 _ (rd_row hrd htk) (by simp) (by simp; try omega)).mono ?_
    rintro e w5 ⟨⟨k, hk, rfl, hz, hl⟩, n5, rfl⟩
    go_wp2_with fail
    go_ret
    exact ⟨_, rfl, gave_row (only_drewN hgd n5) (hrd.drewN n5) htk (by simp [zeros]; try omega) hBw (by unfold maxLen; omega) (by omega) (.inr (Nat.le_refl _)) (by
      intro z hz'
      simp only [List.mem_cons, List.not_mem_nil, or_false] at hz'
      rcases hz' with rfl | rfl
      · exact hs1
      · exact hd1) hval (by unfold W64 at *; omega) (by simp) (by simp; try omega) hk hz hl⟩
  · have hc2 : (2 : Int) ≤ (c : Int) := by omega
    go_enter Tryz.func59, Tryz.ntmps59
    go_wp2_with fail
    refine (natMake_fits _ 1 c 2 _ (by omega) hcm).mono ?_
    rintro e w1 ⟨rfl, n1, rfl⟩
    have hga : w.grownBy (w.drewN n1) (some g) := only_drewN (only_refl w (some g)) n1
    have hra := hrow.drewN n1
    have hcya : (w.drewN n1).cell? ⟨yb, yo, none⟩ = some (.int .u64 (y : Int)) := hcy
    have hxa : (w.drewN n1).cell? ⟨g, 0, none⟩ = some (.int .u64 (x : Int)) := hxw
    generalize w.drewN n1 = wa at hga hra hcya hxa ⊢
    go_wp2_with fail
    refine wp_region_still_tail 9 (by kernel_rfl) (by kernel_rfl) ?_
    simp only [List.take_succ_cons, List.take_zero, List.drop_succ_cons, List.drop_zero]
    change wpStill _ _ wa.drew _ _ _
    repeat still_step
    refine wpStill_nil ?_
    change wpList _ _ _ _ _ wa.drew
    have hga : w.grownBy wa.drew (some g) := only_drewN hga 1
    have hra : RowIs wa.drew g cur := hra
    have hcya : wa.drew.cell? ⟨yb, yo, none⟩ = some (.int .u64 (y : Int)) := hcya
    have hxa : wa.drew.cell? ⟨g, 0, none⟩ = some (.int .u64 (x : Int)) := hxa
    generalize wa.drew = wb at hga hra hcya hxa ⊢
    go_wp2_with fail
    have hz0 : ∃ u, wb.cell? ⟨g, 0, none⟩ = some u ∧ u.oneCell' = true := by
      exact ⟨_, hxa, rfl⟩
    obtain ⟨u0, hz0, hu0⟩ := hz0
    refine (addVV1 g 0 _ g 0 _ yb yo _ u0 x y s d hx hy hs hd _ hz0 hu0 (hra.fr 0) hxa hcya).mono ?_
    rintro e w2 ⟨rfl, n2, rfl⟩
    have hgc := only_set (only_drewN hga n2) (.inl rfl) 0 (.int .u64 (s : Int))
    have hrc := (hra.drewN n2).set_ 0 (.int .u64 (s : Int))
    generalize (wb.drewN n2).setCell ⟨g, 0, none⟩ (.int .u64 (s : Int)) = wc at hgc hrc ⊢
    have c1 : ∃ u, wc.cell? ⟨g, 1, none⟩ = some u := ⟨_, (hrc.cell 1).trans (Array.getElem?_eq_getElem (by simp; try omega))⟩
    obtain ⟨u1, c1⟩ := c1
    have f1 := hrc.fr 1
    go_wp2_with fail
    have hgd := only_set hgc (.inl rfl) 1 (.int .u64 (d : Int))
    have hrd := hrc.set_ 1 (.int .u64 (d : Int))
    generalize wc.setCell ⟨g, 1, none⟩ (.int .u64 (d : Int)) = wd at hgd hrd ⊢
    have htk : (((cur).setIfInBounds 0 (.int .u64 (s : Int))).setIfInBounds 1 (.int .u64 (d : Int))).toList.take ([s, d] : List Nat).length = [s, d].flatMap wEnc := by
      rw [Array.toList_setIfInBounds, Array.toList_setIfInBounds]
      exact take_set2 _ _ _ (by simp; try omega)
    refine (natNorm [s, d] g c _ (rd_row hrd htk) (by simp) (by simp; try omega)).mono ?_
    rintro e w5 ⟨⟨k, hk, rfl, hz, hl⟩, n5, rfl⟩
    go_wp2_with fail
    go_ret
    exact ⟨_, rfl, gave_row (only_drewN hgd n5) (hrd.drewN n5) htk (by simp; try omega) hBg hcm (by omega) (.inl rfl) (by
      intro z hz'
      simp only [List.mem_cons, List.not_mem_nil, or_false] at hz'
      rcases hz' with rfl | rfl
      · exact hs1
      · exact hd1) hval (by unfold W64 at *; omega) (by simp) (by simp; try omega) hk hz hl⟩
end Go.Proofs.YtjojjicpdfmopaaGreatDoor

namespace Go.Proofs.YtjojjicpdfmopaaGreatDoor
open Go Go.RowKit
set_option linter.unusedVariables false

theorem capOf {w : World} {B n c : Nat} {A : Option Addr} {ws : List Nat} (h : Wds w B (.slice A n c) ws) : c ≤ 1 ∨ 6 ≤ c := by
  obtain ⟨A', c', e, h'⟩ := h.cap
  injection e with _ _ e; subst e; exact h'
theorem take_set3 (l : List Value) (a b d : Value) (h : 3 ≤ l.length) : (((l.set 0 a).set 1 b).set 2 d).take 3 = [a, b, d] := by
  match l, h with
  | p :: q :: r :: t, _ => rfl
theorem take_set1 (l : List Value) (a : Value) (h : 1 ≤ l.length) : (l.set 0 a).take 1 = [a] := by
  match l, h with
  | p :: r, _ => rfl

set_option maxHeartbeats 1000000 in
set_option maxRecDepth 100000 in
theorem natAdd_21 (B : Nat) (g c : Nat) (x0 x1 y yb yo yc : Nat) (w : World) (hx : x0 < W64) (hx1 : x1 < W64) (hy : y < W64) (hv2 : x0 + W64 * x1 + y < W64 * W64) (h : Wds w B (.slice (some ⟨g, 0, none⟩) 2 c) [x0, x1]) (hcy : w.cell? ⟨yb, yo, none⟩ = some (.int .u64 (y : Int))) (hyc : 1 ≤ yc) :
    Calls Tryz.prog 59 #[.slice (some ⟨g, 0, none⟩) 2 c, .slice (some ⟨g, 0, none⟩) 2 c, .slice (some ⟨yb, yo, none⟩) 1 yc] w
      fun e w' => ∃ V', e = .returned V' ∧ Gave w w' B (.slice (some ⟨g, 0, none⟩) 2 c) V' (wordsOf (x0 + W64 * x1 + y)) := by
  have eg := addVV_enters
  have hcapc := capOf h
  obtain ⟨cur, hrow, hcs, hct, hBg, hlc, hcm⟩ := h.row
  have hl2 : ([x0, x1] : List Nat).length = 2 := rfl
  have hxw := cell_head hrow hct 0 (by simp)
  have hxw1 := cell_head hrow hct 1 (by simp)
  simp only [List.getElem_cons_zero, List.getElem_cons_succ] at hxw hxw1
  rw [hl2] at hlc
  have hc6 : 6 ≤ c := by omega
  obtain ⟨s, hs⟩ : ∃ s, (x0 + y + 0) % W64 = s := ⟨_, rfl⟩
  obtain ⟨d, hd⟩ : ∃ d, (x0 + y + 0) / W64 = d := ⟨_, rfl⟩
  have hs1 : s < W64 := by subst hs; exact Nat.mod_lt _ (by decide)
  have hd1 : d < W64 := by unfold W64 at *; omega
  obtain ⟨s1, hs2⟩ : ∃ s1, (x1 + d + 0) % W64 = s1 := ⟨_, rfl⟩
  have hd2 : (x1 + d + 0) / W64 = 0 := by unfold W64 at *; omega
  have hs3 : s1 < W64 := by subst hs2; exact Nat.mod_lt _ (by decide)
  have hval : valOf [s, s1, 0] = x0 + W64 * x1 + y := by simp only [valOf]; unfold W64 at *; omega
  have hc1i : (1 : Int) ≤ (c : Int) := by omega
  have hc2i : (2 : Int) ≤ (c : Int) := by omega
  have hc3i : (3 : Int) ≤ (c : Int) := by omega
  have hyi : (1 : Int) ≤ (yc : Int) := by omega
  have hk1 : ¬ c = 1 := by omega
  have hk2 : ¬ c = 2 := by omega
  go_enter Tryz.func59, Tryz.ntmps59
  go_wp2_with fail
  refine (natMake_fits _ 2 c 3 _ (by omega) hcm).mono ?_
  rintro e w1 ⟨rfl, n1, rfl⟩
  have hga : w.grownBy (w.drewN n1) (some g) := only_drewN (only_refl w (some g)) n1
  have hra := hrow.drewN n1
  have hcya : (w.drewN n1).cell? ⟨yb, yo, none⟩ = some (.int .u64 (y : Int)) := hcy
  have hxa : (w.drewN n1).cell? ⟨g, 0, none⟩ = some (.int .u64 (x0 : Int)) := hxw
  have hxa1 : (w.drewN n1).cell? ⟨g, 1, none⟩ = some (.int .u64 (x1 : Int)) := hxw1
  generalize w.drewN n1 = wa at hga hra hcya hxa hxa1 ⊢
  go_wp2_with fail
  refine wp_region_still_tail 9 (by kernel_rfl) (by kernel_rfl) ?_
  simp only [List.take_succ_cons, List.take_zero, List.drop_succ_cons, List.drop_zero]
  change wpStill _ _ wa.drew _ _ _
  repeat still_step
  refine wpStill_nil ?_
  change wpList _ _ _ _ _ wa.drew
  have hga : w.grownBy wa.drew (some g) := only_drewN hga 1
  have hra : RowIs wa.drew g cur := hra
  have hcya : wa.drew.cell? ⟨yb, yo, none⟩ = some (.int .u64 (y : Int)) := hcya
  have hxa : wa.drew.cell? ⟨g, 0, none⟩ = some (.int .u64 (x0 : Int)) := hxa
  have hxa1 : wa.drew.cell? ⟨g, 1, none⟩ = some (.int .u64 (x1 : Int)) := hxa1
  generalize wa.drew = wb at hga hra hcya hxa hxa1 ⊢
  go_wp2_with fail
  refine (addVV1 g 0 _ g 0 _ yb yo _ _ x0 y s d hx hy hs hd _ hxa rfl (hra.fr 0) hxa hcya).mono ?_
  rintro e w2 ⟨rfl, n2, rfl⟩
  have hgc := only_set (only_drewN hga n2) (.inl rfl) 0 (.int .u64 (s : Int))
  have hrc := (hra.drewN n2).set_ 0 (.int .u64 (s : Int))
  have hxc : ((wb.drewN n2).setCell ⟨g, 0, none⟩ (.int .u64 (s : Int))).cell? ⟨g, 1, none⟩ = some (.int .u64 (x1 : Int)) := (World.cell?_setCell_other _ _ _ _ (by simp)).trans hxa1
  generalize (wb.drewN n2).setCell ⟨g, 0, none⟩ (.int .u64 (s : Int)) = wa at hgc hrc hxc ⊢
  go_wp2_with fail
  refine wp_region_still_tail 8 (by kernel_rfl) (by kernel_rfl) ?_
  simp only [List.take_succ_cons, List.take_zero, List.drop_succ_cons, List.drop_zero]
  change wpStill _ _ wa.drew _ _ _
  repeat still_step
  refine wpStill_nil ?_
  change wpList _ _ _ _ _ wa.drew
  have hgc : w.grownBy wa.drew (some g) := only_drewN hgc 1
  have hrc : RowIs wa.drew g (cur.setIfInBounds 0 (.int .u64 (s : Int))) := hrc
  have hxc : wa.drew.cell? ⟨g, 1, none⟩ = some (.int .u64 (x1 : Int)) := hxc
  generalize wa.drew = wb at hgc hrc hxc ⊢
  go_wp2_with fail
  refine (addVW1 g 1 _ _ x1 d s1 hx1 hd1 hs2 hd2 _ (hrc.fr 1) hxc).mono ?_
  rintro e w3 ⟨rfl, n3, rfl⟩
  have hgc := only_set (only_drewN hgc n3) (.inl rfl) 1 (.int .u64 (s1 : Int))
  have hrc := (hrc.drewN n3).set_ 1 (.int .u64 (s1 : Int))
  generalize (wb.drewN n3).setCell ⟨g, 1, none⟩ (.int .u64 (s1 : Int)) = wc at hgc hrc ⊢
  have c1 : ∃ u, wc.cell? ⟨g, 2, none⟩ = some u := ⟨_, (hrc.cell 2).trans (Array.getElem?_eq_getElem (by simp; omega))⟩
  obtain ⟨u1, c1⟩ := c1
  have f1 := hrc.fr 2
  go_wp2_with fail
  have hgd := only_set hgc (.inl rfl) 2 (.int .u64 0)
  have hrd := hrc.set_ 2 (.int .u64 0)
  generalize wc.setCell ⟨g, 2, none⟩ (.int .u64 0) = wd at hgd hrd ⊢
  have htk : (((cur.setIfInBounds 0 (.int .u64 (s : Int))).setIfInBounds 1 (.int .u64 (s1 : Int))).setIfInBounds 2 (.int .u64 0)).toList.take ([s, s1, 0] : List Nat).length = [s, s1, 0].flatMap wEnc := by
    rw [Array.toList_setIfInBounds, Array.toList_setIfInBounds, Array.toList_setIfInBounds]
    exact take_set3 _ _ _ _ (by simp; omega)
  refine (natNorm [s, s1, 0] g c _ (rd_row hrd htk) (by simp) (by simp; omega)).mono ?_
  rintro e w5 ⟨⟨k, hk, rfl, hz, hl⟩, n5, rfl⟩
  go_wp2_with fail
  go_ret
  exact ⟨_, rfl, gave_row (only_drewN hgd n5) (hrd.drewN n5) htk (by simp; omega) hBg hcm (by omega) (.inl rfl) (by
    intro z hz'
    simp only [List.mem_cons, List.not_mem_nil, or_false] at hz'
    rcases hz' with rfl | rfl | rfl
    · exact hs1
    · exact hs3
    · decide) hval hv2 (by simp) (by simp; omega) hk hz hl⟩

set_option maxHeartbeats 1000000 in
set_option maxRecDepth 100000 in
theorem natSub_11 (B : Nat) (g c : Nat) (x y yb yo yc : Nat) (w : World) (hx : x < W64) (hy : y < W64) (hxy : y ≤ x) (h : Wds w B (.slice (some ⟨g, 0, none⟩) 1 c) [x]) (hcy : w.cell? ⟨yb, yo, none⟩ = some (.int .u64 (y : Int))) (hyc : 1 ≤ yc) :
    Calls Tryz.prog 61 #[.slice (some ⟨g, 0, none⟩) 1 c, .slice (some ⟨g, 0, none⟩) 1 c, .slice (some ⟨yb, yo, none⟩) 1 yc] w
      fun e w' => ∃ V', e = .returned V' ∧ Gave w w' B (.slice (some ⟨g, 0, none⟩) 1 c) V' (wordsOf (x - y)) := by
  have eg := subVV_enters
  have hcapc := capOf h
  obtain ⟨cur, hrow, hcs, hct, hBg, hlc, hcm⟩ := h.row
  have hl1 : ([x] : List Nat).length = 1 := rfl
  have hxw := cell_head hrow hct 0 (by simp)
  simp only [List.getElem_cons_zero] at hxw
  rw [hl1] at hlc
  obtain ⟨s, hs⟩ : ∃ s, (x + W64 - y - 0) % W64 = s := ⟨_, rfl⟩
  have hd : (if x < y + 0 then 1 else 0 : Nat) = 0 := if_neg (by omega)
  have hs1 : s < W64 := by subst hs; exact Nat.mod_lt _ (by decide)
  have hval : valOf [s] = x - y := by simp only [valOf]; unfold W64 at *; omega
  have hc1i : (1 : Int) ≤ (c : Int) := by omega
  have hyi : (1 : Int) ≤ (yc : Int) := by omega
  go_enter Tryz.func61, Tryz.ntmps61
  go_wp2_with fail
  refine (natMake_fits _ 1 c 1 _ (by omega) hcm).mono ?_
  rintro e w1 ⟨rfl, n1, rfl⟩
  have hga : w.grownBy (w.drewN n1) (some g) := only_drewN (only_refl w (some g)) n1
  have hra := hrow.drewN n1
  have hcya : (w.drewN n1).cell? ⟨yb, yo, none⟩ = some (.int .u64 (y : Int)) := hcy
  have hxa : (w.drewN n1).cell? ⟨g, 0, none⟩ = some (.int .u64 (x : Int)) := hxw
  generalize w.drewN n1 = wa at hga hra hcya hxa ⊢
  go_wp2_with fail
  refine wp_region_still_tail 9 (by kernel_rfl) (by kernel_rfl) ?_
  simp only [List.take_succ_cons, List.take_zero, List.drop_succ_cons, List.drop_zero]
  change wpStill _ _ wa.drew _ _ _
  repeat still_step
  refine wpStill_nil ?_
  change wpList _ _ _ _ _ wa.drew
  have hga : w.grownBy wa.drew (some g) := only_drewN hga 1
  have hra : RowIs wa.drew g cur := hra
  have hcya : wa.drew.cell? ⟨yb, yo, none⟩ = some (.int .u64 (y : Int)) := hcya
  have hxa : wa.drew.cell? ⟨g, 0, none⟩ = some (.int .u64 (x : Int)) := hxa
  generalize wa.drew = wb at hga hra hcya hxa ⊢
  go_wp2_with fail
  refine (subVV1 g 0 _ g 0 _ yb yo _ _ x y s 0 hx hy hs hd _ hxa rfl (hra.fr 0) hxa hcya).mono ?_
  rintro e w2 ⟨rfl, n2, rfl⟩
  have hgd := only_set (only_drewN hga n2) (.inl rfl) 0 (.int .u64 (s : Int))
  have hrd := (hra.drewN n2).set_ 0 (.int .u64 (s : Int))
  generalize (wb.drewN n2).setCell ⟨g, 0, none⟩ (.int .u64 (s : Int)) = wd at hgd hrd ⊢
  have htk : (cur.setIfInBounds 0 (.int .u64 (s : Int))).toList.take ([s] : List Nat).length = [s].flatMap wEnc := by
    rw [Array.toList_setIfInBounds]
    exact take_set1 _ _ (by simp; omega)
  go_wp2_with fail
  refine (natNorm [s] g c _ (rd_row hrd htk) (by simp) (by simp; omega)).mono ?_
  rintro e w5 ⟨⟨k, hk, rfl, hz, hl⟩, n5, rfl⟩
  go_wp2_with fail
  go_ret
  exact ⟨_, rfl, gave_row (only_drewN hgd n5) (hrd.drewN n5) htk (by simp; omega) hBg hcm (by omega) (.inl rfl) (by
    intro z hz'
    simp only [List.mem_cons, List.not_mem_nil, or_false] at hz'
    rcases hz' with rfl
    exact hs1) hval (by unfold W64 at *; omega) (by simp) (by simp; omega) hk hz hl⟩

set_option maxHeartbeats 1000000 in
set_option maxRecDepth 100000 in
theorem natSub_t (B : Nat) (g c : Nat) (x y yb yo yc : Nat) (w : World) (hx : x < W64) (hy : y < W64) (hxy : x ≤ y) (h : Wds w B (.slice (some ⟨g, 0, none⟩) 1 c) [x]) (hcy : w.cell? ⟨yb, yo, none⟩ = some (.int .u64 (y : Int))) (hyc : 1 ≤ yc) :
    Calls Tryz.prog 61 #[.slice (some ⟨g, 0, none⟩) 1 c, .slice (some ⟨yb, yo, none⟩) 1 yc, .slice (some ⟨g, 0, none⟩) 1 c] w
      fun e w' => ∃ V', e = .returned V' ∧ Gave w w' B (.slice (some ⟨g, 0, none⟩) 1 c) V' (wordsOf (y - x)) := by
  have eg := subVV_enters
  have hcapc := capOf h
  obtain ⟨cur, hrow, hcs, hct, hBg, hlc, hcm⟩ := h.row
  have hl1 : ([x] : List Nat).length = 1 := rfl
  have hxw := cell_head hrow hct 0 (by simp)
  simp only [List.getElem_cons_zero] at hxw
  rw [hl1] at hlc
  obtain ⟨s, hs⟩ : ∃ s, (y + W64 - x - 0) % W64 = s := ⟨_, rfl⟩
  have hd : (if y < x + 0 then 1 else 0 : Nat) = 0 := if_neg (by omega)
  have hs1 : s < W64 := by subst hs; exact Nat.mod_lt _ (by decide)
  have hval : valOf [s] = y - x := by simp only [valOf]; unfold W64 at *; omega
  have hc1i : (1 : Int) ≤ (c : Int) := by omega
  have hyi : (1 : Int) ≤ (yc : Int) := by omega
  go_enter Tryz.func61, Tryz.ntmps61
  go_wp2_with fail
  refine (natMake_fits _ 1 c 1 _ (by omega) hcm).mono ?_
  rintro e w1 ⟨rfl, n1, rfl⟩
  have hga : w.grownBy (w.drewN n1) (some g) := only_drewN (only_refl w (some g)) n1
  have hra := hrow.drewN n1
  have hcya : (w.drewN n1).cell? ⟨yb, yo, none⟩ = some (.int .u64 (y : Int)) := hcy
  have hxa : (w.drewN n1).cell? ⟨g, 0, none⟩ = some (.int .u64 (x : Int)) := hxw
  generalize w.drewN n1 = wa at hga hra hcya hxa ⊢
  go_wp2_with fail
  refine wp_region_still_tail 9 (by kernel_rfl) (by kernel_rfl) ?_
  simp only [List.take_succ_cons, List.take_zero, List.drop_succ_cons, List.drop_zero]
  change wpStill _ _ wa.drew _ _ _
  repeat still_step
  refine wpStill_nil ?_
  change wpList _ _ _ _ _ wa.drew
  have hga : w.grownBy wa.drew (some g) := only_drewN hga 1
  have hra : RowIs wa.drew g cur := hra
  have hcya : wa.drew.cell? ⟨yb, yo, none⟩ = some (.int .u64 (y : Int)) := hcya
  have hxa : wa.drew.cell? ⟨g, 0, none⟩ = some (.int .u64 (x : Int)) := hxa
  generalize wa.drew = wb at hga hra hcya hxa ⊢
  go_wp2_with fail
  refine (subVV1 g 0 _ yb yo _ g 0 _ _ y x s 0 hy hx hs hd _ hxa rfl (hra.fr 0) hcya hxa).mono ?_
  rintro e w2 ⟨rfl, n2, rfl⟩
  have hgd := only_set (only_drewN hga n2) (.inl rfl) 0 (.int .u64 (s : Int))
  have hrd := (hra.drewN n2).set_ 0 (.int .u64 (s : Int))
  generalize (wb.drewN n2).setCell ⟨g, 0, none⟩ (.int .u64 (s : Int)) = wd at hgd hrd ⊢
  have htk : (cur.setIfInBounds 0 (.int .u64 (s : Int))).toList.take ([s] : List Nat).length = [s].flatMap wEnc := by
    rw [Array.toList_setIfInBounds]
    exact take_set1 _ _ (by simp; omega)
  go_wp2_with fail
  refine (natNorm [s] g c _ (rd_row hrd htk) (by simp) (by simp; omega)).mono ?_
  rintro e w5 ⟨⟨k, hk, rfl, hz, hl⟩, n5, rfl⟩
  go_wp2_with fail
  go_ret
  exact ⟨_, rfl, gave_row (only_drewN hgd n5) (hrd.drewN n5) htk (by simp; omega) hBg hcm (by omega) (.inl rfl) (by
    intro z hz'
    simp only [List.mem_cons, List.not_mem_nil, or_false] at hz'
    rcases hz' with rfl
    exact hs1) hval (by unfold W64 at *; omega) (by simp) (by simp; omega) hk hz hl⟩

set_option maxHeartbeats 1000000 in
set_option maxRecDepth 100000 in
theorem natSub_21 (B : Nat) (g c : Nat) (x0 x1 y yb yo yc : Nat) (w : World) (hx : x0 < W64) (hx1 : x1 < W64) (h1 : x1 ≠ 0) (hy : y < W64) (h : Wds w B (.slice (some ⟨g, 0, none⟩) 2 c) [x0, x1]) (hcy : w.cell? ⟨yb, yo, none⟩ = some (.int .u64 (y : Int))) (hyc : 1 ≤ yc) :
    Calls Tryz.prog 61 #[.slice (some ⟨g, 0, none⟩) 2 c, .slice (some ⟨g, 0, none⟩) 2 c, .slice (some ⟨yb, yo, none⟩) 1 yc] w
      fun e w' => ∃ V', e = .returned V' ∧ Gave w w' B (.slice (some ⟨g, 0, none⟩) 2 c) V' (wordsOf (x0 + W64 * x1 - y)) := by
  have eg := subVV_enters
  have hcapc := capOf h
  obtain ⟨cur, hrow, hcs, hct, hBg, hlc, hcm⟩ := h.row
  have hl2 : ([x0, x1] : List Nat).length = 2 := rfl
  have hxw := cell_head hrow hct 0 (by simp)
  have hxw1 := cell_head hrow hct 1 (by simp)
  simp only [List.getElem_cons_zero, List.getElem_cons_succ] at hxw hxw1
  rw [hl2] at hlc
  have hc6 : 6 ≤ c := by omega
  obtain ⟨s, hs⟩ : ∃ s, (x0 + W64 - y - 0) % W64 = s := ⟨_, rfl⟩
  obtain ⟨d, hd⟩ : ∃ d, (if x0 < y + 0 then 1 else 0 : Nat) = d := ⟨_, rfl⟩
  have hs1 : s < W64 := by subst hs; exact Nat.mod_lt _ (by decide)
  have hdd : (x0 < y ∧ d = 1) ∨ (y ≤ x0 ∧ d = 0) := by
    subst hd
    by_cases hq : x0 < y + 0
    · rw [if_pos hq]; exact .inl ⟨hq, rfl⟩
    · rw [if_neg hq]; exact .inr ⟨by omega, rfl⟩
  have hd1 : d < W64 := by unfold W64 at *; omega
  obtain ⟨s1, hs2⟩ : ∃ s1, (x1 + W64 - d - 0) % W64 = s1 := ⟨_, rfl⟩
  have hd2 : (if x1 < d + 0 then 1 else 0 : Nat) = 0 := if_neg (by omega)
  have hs3 : s1 < W64 := by subst hs2; exact Nat.mod_lt _ (by decide)
  have hval : valOf [s, s1] = x0 + W64 * x1 - y := by simp only [valOf]; unfold W64 at *; omega
  have hc1i : (1 : Int) ≤ (c : Int) := by omega
  have hc2i : (2 : Int) ≤ (c : Int) := by omega
  have hyi : (1 : Int) ≤ (yc : Int) := by omega
  have hk1 : ¬ c = 1 := by omega
  have hk2 : ¬ c = 2 := by omega
  go_enter Tryz.func61, Tryz.ntmps61
  go_wp2_with fail
  refine (natMake_fits _ 2 c 2 _ (by omega) hcm).mono ?_
  rintro e w1 ⟨rfl, n1, rfl⟩
  have hga : w.grownBy (w.drewN n1) (some g) := only_drewN (only_refl w (some g)) n1
  have hra := hrow.drewN n1
  have hcya : (w.drewN n1).cell? ⟨yb, yo, none⟩ = some (.int .u64 (y : Int)) := hcy
  have hxa : (w.drewN n1).cell? ⟨g, 0, none⟩ = some (.int .u64 (x0 : Int)) := hxw
  have hxa1 : (w.drewN n1).cell? ⟨g, 1, none⟩ = some (.int .u64 (x1 : Int)) := hxw1
  generalize w.drewN n1 = wa at hga hra hcya hxa hxa1 ⊢
  go_wp2_with fail
  refine wp_region_still_tail 9 (by kernel_rfl) (by kernel_rfl) ?_
  simp only [List.take_succ_cons, List.take_zero, List.drop_succ_cons, List.drop_zero]
  change wpStill _ _ wa.drew _ _ _
  repeat still_step
  refine wpStill_nil ?_
  change wpList _ _ _ _ _ wa.drew
  have hga : w.grownBy wa.drew (some g) := only_drewN hga 1
  have hra : RowIs wa.drew g cur := hra
  have hcya : wa.drew.cell? ⟨yb, yo, none⟩ = some (.int .u64 (y : Int)) := hcya
  have hxa : wa.drew.cell? ⟨g, 0, none⟩ = some (.int .u64 (x0 : Int)) := hxa
  have hxa1 : wa.drew.cell? ⟨g, 1, none⟩ = some (.int .u64 (x1 : Int)) := hxa1
  generalize wa.drew = wb at hga hra hcya hxa hxa1 ⊢
  go_wp2_with fail
  refine (subVV1 g 0 _ g 0 _ yb yo _ _ x0 y s d hx hy hs hd _ hxa rfl (hra.fr 0) hxa hcya).mono ?_
  rintro e w2 ⟨rfl, n2, rfl⟩
  have hgc := only_set (only_drewN hga n2) (.inl rfl) 0 (.int .u64 (s : Int))
  have hrc := (hra.drewN n2).set_ 0 (.int .u64 (s : Int))
  have hxc : ((wb.drewN n2).setCell ⟨g, 0, none⟩ (.int .u64 (s : Int))).cell? ⟨g, 1, none⟩ = some (.int .u64 (x1 : Int)) := (World.cell?_setCell_other _ _ _ _ (by simp)).trans hxa1
  generalize (wb.drewN n2).setCell ⟨g, 0, none⟩ (.int .u64 (s : Int)) = wa at hgc hrc hxc ⊢
  go_wp2_with fail
  refine wp_region_still_tail 7 (by kernel_rfl) (by kernel_rfl) ?_
  simp only [List.take_succ_cons, List.take_zero, List.drop_succ_cons, List.drop_zero]
  change wpStill _ _ wa.drew _ _ _
  repeat still_step
  refine wpStill_nil ?_
  change wpList _ _ _ _ _ wa.drew
  have hgc : w.grownBy wa.drew (some g) := only_drewN hgc 1
  have hrc : RowIs wa.drew g (cur.setIfInBounds 0 (.int .u64 (s : Int))) := hrc
  have hxc : wa.drew.cell? ⟨g, 1, none⟩ = some (.int .u64 (x1 : Int)) := hxc
  generalize wa.drew = wb at hgc hrc hxc ⊢
  go_wp2_with fail
  refine (subVW1 g 1 _ _ x1 d s1 hx1 hd1 hs2 hd2 _ (hrc.fr 1) hxc).mono ?_
  rintro e w3 ⟨rfl, n3, rfl⟩
  have hgd := only_set (only_drewN hgc n3) (.inl rfl) 1 (.int .u64 (s1 : Int))
  have hrd := (hrc.drewN n3).set_ 1 (.int .u64 (s1 : Int))
  generalize (wb.drewN n3).setCell ⟨g, 1, none⟩ (.int .u64 (s1 : Int)) = wd at hgd hrd ⊢
  have htk : ((cur.setIfInBounds 0 (.int .u64 (s : Int))).setIfInBounds 1 (.int .u64 (s1 : Int))).toList.take ([s, s1] : List Nat).length = [s, s1].flatMap wEnc := by
    rw [Array.toList_setIfInBounds, Array.toList_setIfInBounds]
    exact take_set2 _ _ _ (by simp; omega)
  go_wp2_with fail
  refine (natNorm [s, s1] g c _ (rd_row hrd htk) (by simp) (by simp; omega)).mono ?_
  rintro e w5 ⟨⟨k, hk, rfl, hz, hl⟩, n5, rfl⟩
  go_wp2_with fail
  go_ret
  exact ⟨_, rfl, gave_row (only_drewN hgd n5) (hrd.drewN n5) htk (by simp; omega) hBg hcm (by omega) (.inl rfl) (by
    intro z hz'
    simp only [List.mem_cons, List.not_mem_nil, or_false] at hz'
    rcases hz' with rfl | rfl
    · exact hs1
    · exact hs3) hval (by unfold W64 at *; omega) (by simp) (by simp; omega) hk hz hl⟩
end Go.Proofs.YtjojjicpdfmopaaGreatDoor

namespace Go.Proofs.YtjojjicpdfmopaaGreatDoor
open Go Go.RowKit
set_option linter.unusedVariables false

theorem word_size : (Tryz.prog.info? 110).map (·.size) = some 1 := by kernel_rfl

theorem setRow_only (w : World) (g : Nat) (r : Array Value) : w.grownBy (w.setRow g r) (some g) := ⟨rfl, rfl, rfl, by simp, fun k _ hk => setRow_other w g k _ (fun e => hk (by rw [e]))⟩

set_option maxRecDepth 100000 in
theorem natSet_self (B g n c : Nat) (ws : List Nat) (w : World) (h : Wds w B (.slice (some ⟨g, 0, none⟩) n c) ws) (hn : ws.length = n) (h0 : 0 < n) :
    Calls Tryz.prog 71 #[.slice (some ⟨g, 0, none⟩) n c, .slice (some ⟨g, 0, none⟩) n c] w
      fun e w' => e = .returned (.slice (some ⟨g, 0, none⟩) n c) ∧ ∃ n, w' = w.drewN n := by
  obtain ⟨cur, hrow, hcs, hct, hBg, hlc, hcm⟩ := h.row
  rw [hn] at hct hlc
  have hlen : (ws.flatMap wEnc).length = n := by rw [flatMap_len wEnc_ok, hn, Nat.mul_one]
  have hcp : ∀ (k : Nat) (ty : TypeId), (Builtin.copy_ #[63, 63] ty #[.slice (some ⟨g, 0, none⟩) n c, .slice (some ⟨g, 0, none⟩) n c]).run Tryz.prog (w.drewN k) = .ok (goInt n) (w.drewN k) := by
    intro k ty
    have hr := run_copy_row (P := Tryz.prog) (w.drewN k) 63 63 ty 110 g 0 n c ⟨g, 0, none⟩ n c cur 110 (ws.flatMap wEnc) Tryz.underlying63 word_size hrow (by rw [hlen]; simp)
      (fun j v hv => by
        have hj : j < n := by rw [← hlen]; exact (List.getElem?_eq_some_iff.1 hv).1
        have h1 : cur.toList[j]? = some v := by
          rw [← hv, ← hct, List.getElem?_take, if_pos hj]
        have e : (⟨g, 0, none⟩ : Addr).add j = ⟨g, j, none⟩ := by unfold Addr.add; split <;> simp_all
        rw [e, (hrow.drewN k).cell j, ← Array.getElem?_toList, h1]) (by rw [hlen]; omega) (fun v hv => by
        obtain ⟨a, _, ha⟩ := List.mem_flatMap.1 hv
        exact wEnc_ok.one a v ha)
    rw [hr, hlen]
    congr 1
    rw [List.take_zero, List.nil_append, Nat.zero_add, ← hct, List.take_append_drop, Array.toArray_toList]
    exact setRow_self _ _ _ _ _ hrow
  have hn63 : (n : Int) ≤ (c : Int) := by omega
  go_enter Tryz.func71, Tryz.ntmps71
  go_wp2_with fail
  refine (natMake_fits _ n c n _ hlc hcm).mono ?_
  rintro e w1 ⟨rfl, n1, rfl⟩
  have hcp1 := hcp n1
  go_wp2_with fail
  go_ret
  exact ⟨rfl, n1, rfl⟩

/-- one word is copied to the head of a row -/
theorem run_copy1 (w : World) (g c yb yo yn : Nat) (cur : Array Value) (y : Nat) (hrow : RowIs w g cur) (hc : 1 ≤ cur.size) (hcy : w.cell? ⟨yb, yo, none⟩ = some (.int .u64 (y : Int))) (ty : TypeId) :
    (Builtin.copy_ #[63, 63] ty #[.slice (some ⟨g, 0, none⟩) 1 c, .slice (some ⟨yb, yo, none⟩) 1 yn]).run Tryz.prog w = .ok (goInt 1) (w.setRow g (Value.int .u64 (y : Int) :: cur.toList.tail).toArray) := by
  have hr := run_copy_row (P := Tryz.prog) w 63 63 ty 110 g 0 1 c ⟨yb, yo, none⟩ 1 yn cur 110 [.int .u64 (y : Int)] Tryz.underlying63 word_size hrow (by simp)
    (fun j v hv => by
      match j, hv with
      | 0, hv =>
        simp at hv
        subst hv
        exact hcy) (by simp; omega) (fun v hv => by
      simp only [List.mem_singleton] at hv
      subst hv; rfl)
  rw [hr]
  simp

theorem wordsOf_1 {y : Nat} (h0 : y ≠ 0) (hy : y < W64) : wordsOf y = [y] := by unfold wordsOf; rw [if_neg h0, if_pos hy]
theorem wordsOf_0 : wordsOf 0 = [] := rfl
theorem take_head (a : Value) (l : List Value) : ((a :: l).toArray).toList.take 1 = [a] := by simp

set_option maxRecDepth 100000 in
theorem natSet_from (B n c : Nat) (A : Option Addr) (y yb yo yc : Nat) (w : World) (hBw : B ≤ w.heap.size) (hy : y < W64) (hy0 : y ≠ 0) (hn : n = 0) (h : Wds w B (.slice A n c) []) (hcy : w.cell? ⟨yb, yo, none⟩ = some (.int .u64 (y : Int))) :
    Calls Tryz.prog 71 #[.slice A n c, .slice (some ⟨yb, yo, none⟩) 1 yc] w
      fun e w' => ∃ V', e = .returned V' ∧ Gave w w' B (.slice A n c) V' (wordsOf y) := by
  subst hn
  rw [wordsOf_1 hy0 hy]
  have hcapc := capOf h
  have hcm : c ≤ maxLen := by
    obtain ⟨A', c', e1, e2, e3⟩ := h.own.form
    injection e1 with _ _ e1
    omega
  by_cases hc0 : c = 0
  · subst hc0
    have hcp := fun (W : World) (hr : RowIs W w.heap.size (zeros 1)) (hy : W.cell? ⟨yb, yo, none⟩ = some (.int .u64 (y : Int))) ty => run_copy1 W w.heap.size 1 yb yo yc (zeros 1) y hr (by simp [zeros]) hy ty
    have hcp1 := hcp (w.alloc (.cells (zeros 1) 110)) (RowIs.made w 1) (below_cell ((Below.refl w.heap.size w).alloc (Nat.le_refl _) _) (World.block_lt_of_cell? _ _ hcy) hcy)
    go_enter Tryz.func71, Tryz.ntmps71
    go_wp2_with fail
    refine (natMake_1 _ 0 _).mono ?_
    rintro e w1 ⟨rfl, rfl⟩
    generalize hwa : w.alloc (.cells (zeros 1) 110) = wa at hcp1 ⊢
    have hra : RowIs wa w.heap.size (zeros 1) := by rw [← hwa]; exact RowIs.made w 1
    have hga : w.grownBy wa (Value.slice A 0 0).ownBlock := by rw [← hwa]; exact World.grownBy_alloc w _ _
    clear hwa hcp
    go_wp2_with fail
    go_ret
    have hrs : RowIs (wa.setRow w.heap.size (Value.int .u64 (y : Int) :: (zeros 1).toList.tail).toArray) w.heap.size (Value.int .u64 (y : Int) :: (zeros 1).toList.tail).toArray := setRow_heap wa _ _ _ _ _ hra
    refine ⟨_, rfl, Wds.ofRow (ws := [y]) hrs (by simp [zeros]) (take_head _ _) hBw (by simp) (by unfold maxLen; omega) (by omega), ?_, .inr ⟨_, rfl, Nat.le_refl _⟩⟩
    refine ⟨hga.os, hga.tape, hga.output, by simpa using hga.size, fun i hi hne => ?_⟩
    exact (setRow_other wa _ i _ (by omega)).trans (hga.block i hi hne)
  · obtain ⟨g, rfl⟩ : ∃ g, A = some ⟨g, 0, none⟩ := by
      rcases h.own.2 with ⟨hv, _⟩ | ⟨g', cap, cur, hv, _⟩
      · injection hv with e1 e2 e3; omega
      · injection hv with e1; exact ⟨g', e1⟩
    obtain ⟨cur, hrow, hcs, hct, hBg, hlc, hcm'⟩ := h.row
    have hcp := fun (k : Nat) ty => run_copy1 (w.drewN k) g c yb yo yc cur y hrow (by omega) hcy ty
    have hc1 : (1 : Int) ≤ (c : Int) := by omega
    go_enter Tryz.func71, Tryz.ntmps71
    go_wp2_with fail
    refine (natMake_fits _ 0 c 1 _ (by omega) hcm).mono ?_
    rintro e w1 ⟨rfl, n1, rfl⟩
    have hcp1 := hcp n1
    have hra := hrow.drewN n1
    have hga : w.grownBy (w.drewN n1) (some g) := only_drewN (only_refl w (some g)) n1
    generalize w.drewN n1 = wa at hcp1 hra hga ⊢
    clear hcp
    go_wp2_with fail
    go_ret
    have hrs : RowIs (wa.setRow g (Value.int .u64 (y : Int) :: cur.toList.tail).toArray) g (Value.int .u64 (y : Int) :: cur.toList.tail).toArray := setRow_heap wa _ _ _ _ _ hra
    exact ⟨_, rfl, Wds.ofRow (ws := [y]) hrs (by simp; omega) (take_head _ _) hBg (by simp; omega) hcm hcapc, hga.trans (setRow_only wa g _), .inl rfl⟩
end Go.Proofs.YtjojjicpdfmopaaGreatDoor

namespace Go.Proofs.YtjojjicpdfmopaaGreatDoor
open Go Go.RowKit
set_option linter.unusedVariables false

theorem Gave.same {w : World} {B : Nat} {V : Value} {ws : List Nat} (h : Wds w B V ws) (n : Nat) : Gave w (w.drewN n) B V V ws :=
  ⟨⟨h.own.below (bdrewN (Below.refl _ w) n), h.cap⟩, only_drewN (only_refl w V.ownBlock) n, .inl rfl⟩
theorem Wds.drewN {w : World} {B : Nat} {V : Value} {ws : List Nat} (h : Wds w B V ws) (n : Nat) : Wds (w.drewN n) B V ws := ⟨h.own.below (bdrewN (Below.refl _ w) n), h.cap⟩
theorem Wds.addr {w : World} {B n c : Nat} {A : Option Addr} {ws : List Nat} (h : Wds w B (.slice A n c) ws) (h0 : 0 < ws.length) : ∃ g, A = some ⟨g, 0, none⟩ := by
  rcases h.own.2 with ⟨hv, h1⟩ | ⟨g', cap, cur, hv, _⟩
  · omega
  · injection hv with e1; exact ⟨g', e1⟩
theorem wordsOf_2 {v : Nat} (h : W64 ≤ v) : wordsOf v = [v % W64, v / W64] := by
  unfold wordsOf
  rw [if_neg (by unfold W64 at h; omega), if_neg (by omega)]

set_option maxRecDepth 100000 in
theorem natAdd_00 (B c yc : Nat) (A YA : Option Addr) (w : World) (h : Wds w B (.slice A 0 c) []) :
    Calls Tryz.prog 59 #[.slice A 0 c, .slice A 0 c, .slice YA 0 yc] w fun e w' => ∃ V', e = .returned V' ∧ Gave w w' B (.slice A 0 c) V' [] := by
  go_enter Tryz.func59, Tryz.ntmps59
  go_wp2_with fail
  go_ret
  exact ⟨_, rfl, Gave.same h 0⟩
set_option maxRecDepth 100000 in
theorem natAdd_self (B g n c yc : Nat) (YA : Option Addr) (ws : List Nat) (w : World) (h : Wds w B (.slice (some ⟨g, 0, none⟩) n c) ws) (hn : ws.length = n) (h0 : 0 < n) (h2 : n ≤ 2) :
    Calls Tryz.prog 59 #[.slice (some ⟨g, 0, none⟩) n c, .slice (some ⟨g, 0, none⟩) n c, .slice YA 0 yc] w fun e w' => ∃ V', e = .returned V' ∧ Gave w w' B (.slice (some ⟨g, 0, none⟩) n c) V' ws := by
  have hn1 : ¬ (n : Int) < 0 := by omega
  have hn2 : ((n : Int) == 0) = false := by rw [beq_eq_false_iff_ne]; omega
  have hn3 : ¬ n = 0 := by omega
  go_enter Tryz.func59, Tryz.ntmps59
  go_wp2_with fail
  refine (natSet_self B g n c ws _ h hn h0).mono ?_
  rintro e w1 ⟨rfl, n1, rfl⟩
  go_wp2_with fail
  go_ret
  exact ⟨_, rfl, Gave.same h n1⟩
set_option maxRecDepth 100000 in
theorem natAdd_y0 (B c y yb yo yc : Nat) (A : Option Addr) (w : World) (hBw : B ≤ w.heap.size) (hy : y < W64) (hy0 : y ≠ 0) (h : Wds w B (.slice A 0 c) []) (hcy : w.cell? ⟨yb, yo, none⟩ = some (.int .u64 (y : Int))) :
    Calls Tryz.prog 59 #[.slice A 0 c, .slice (some ⟨yb, yo, none⟩) 1 yc, .slice A 0 c] w fun e w' => ∃ V', e = .returned V' ∧ Gave w w' B (.slice A 0 c) V' (wordsOf y) := by
  go_enter Tryz.func59, Tryz.ntmps59
  go_wp2_with fail
  refine (natSet_from B 0 c A y yb yo yc _ hBw hy hy0 rfl h hcy).mono ?_
  rintro e w1 ⟨V', rfl, hG⟩
  go_wp2_with fail
  go_ret
  exact ⟨_, rfl, hG⟩
set_option maxRecDepth 100000 in
theorem natAdd_01 (B c y yb yo yc : Nat) (A : Option Addr) (w : World) (hBw : B ≤ w.heap.size) (hy : y < W64) (hy0 : y ≠ 0) (h : Wds w B (.slice A 0 c) []) (hcy : w.cell? ⟨yb, yo, none⟩ = some (.int .u64 (y : Int))) :
    Calls Tryz.prog 59 #[.slice A 0 c, .slice A 0 c, .slice (some ⟨yb, yo, none⟩) 1 yc] w fun e w' => ∃ V', e = .returned V' ∧ Gave w w' B (.slice A 0 c) V' (wordsOf y) := by
  go_enter Tryz.func59, Tryz.ntmps59
  go_wp2_with fail
  refine (natAdd_y0 B c y yb yo yc A _ hBw hy hy0 h hcy).mono ?_
  rintro e w1 ⟨V', rfl, hG⟩
  go_wp2_with fail
  go_ret
  exact ⟨_, rfl, hG⟩
set_option maxRecDepth 100000 in
theorem natSub_self (B g n c yc : Nat) (YA : Option Addr) (ws : List Nat) (w : World) (h : Wds w B (.slice (some ⟨g, 0, none⟩) n c) ws) (hn : ws.length = n) (h0 : 0 < n) (h2 : n ≤ 2) :
    Calls Tryz.prog 61 #[.slice (some ⟨g, 0, none⟩) n c, .slice (some ⟨g, 0, none⟩) n c, .slice YA 0 yc] w fun e w' => ∃ V', e = .returned V' ∧ Gave w w' B (.slice (some ⟨g, 0, none⟩) n c) V' ws := by
  have hn1 : ¬ (n : Int) < 0 := by omega
  have hn2 : ((n : Int) == 0) = false := by rw [beq_eq_false_iff_ne]; omega
  have hn3 : ¬ n = 0 := by omega
  go_enter Tryz.func61, Tryz.ntmps61
  go_wp2_with fail
  refine (natSet_self B g n c ws _ h hn h0).mono ?_
  rintro e w1 ⟨rfl, n1, rfl⟩
  go_wp2_with fail
  go_ret
  exact ⟨_, rfl, Gave.same h n1⟩
set_option maxRecDepth 100000 in
theorem natSub_y0 (B c y yb yo yc : Nat) (A : Option Addr) (w : World) (hBw : B ≤ w.heap.size) (hy : y < W64) (hy0 : y ≠ 0) (h : Wds w B (.slice A 0 c) []) (hcy : w.cell? ⟨yb, yo, none⟩ = some (.int .u64 (y : Int))) :
    Calls Tryz.prog 61 #[.slice A 0 c, .slice (some ⟨yb, yo, none⟩) 1 yc, .slice A 0 c] w fun e w' => ∃ V', e = .returned V' ∧ Gave w w' B (.slice A 0 c) V' (wordsOf y) := by
  go_enter Tryz.func61, Tryz.ntmps61
  go_wp2_with fail
  refine (natSet_from B 0 c A y yb yo yc _ hBw hy hy0 rfl h hcy).mono ?_
  rintro e w1 ⟨V', rfl, hG⟩
  go_wp2_with fail
  go_ret
  exact ⟨_, rfl, hG⟩

set_option maxRecDepth 100000 in
theorem natCmp_len (m n c yc : Nat) (A YA : Option Addr) (w : World) (hm : m ≤ 2) (hn : n ≤ 1) (h : m ≠ n ∨ m = 0) :
    Calls Tryz.prog 60 #[.slice A m c, .slice YA n yc] w fun e w' => e = .returned (.int .i64 (if m < n then -1 else if n < m then 1 else 0)) ∧ ∃ n, w' = w.drewN n := by
  have hc : (m = 0 ∧ n = 0) ∨ (m = 0 ∧ n = 1) ∨ (m = 1 ∧ n = 0) ∨ (m = 2 ∧ n = 0) ∨ (m = 2 ∧ n = 1) := by omega
  rcases hc with ⟨rfl, rfl⟩ | ⟨rfl, rfl⟩ | ⟨rfl, rfl⟩ | ⟨rfl, rfl⟩ | ⟨rfl, rfl⟩
  all_goals
    go_enter Tryz.func60, Tryz.ntmps60
    go_wp2_with fail
    go_ret
    exact ⟨rfl, 0, rfl⟩
end Go.Proofs.YtjojjicpdfmopaaGreatDoor

namespace Go.Proofs.YtjojjicpdfmopaaGreatDoor
open Go Go.RowKit
set_option linter.unusedVariables false

/-- three ways two numbers can lie -/
def cmpN (a b : Nat) : Int := if a < b then -1 else if b < a then 1 else 0

theorem drewN_sum3 {w : World} {a b c : Nat} : ((w.drewN a).drewN b).drewN c = w.drewN (a + b + c) := by rw [drewN_add, drewN_add, Nat.add_assoc]
theorem drewN_sum4 {w : World} {a b c d : Nat} : (((w.drewN a).drewN b).drewN c).drewN d = w.drewN (a + b + c + d) := by rw [drewN_add, drewN_add, drewN_add, Nat.add_assoc, Nat.add_assoc]
set_option maxRecDepth 100000 in
theorem natCmp_11 (g c yb yo yc x y : Nat) (w : World) (hcx : w.cell? ⟨g, 0, none⟩ = some (.int .u64 (x : Int))) (hcy : w.cell? ⟨yb, yo, none⟩ = some (.int .u64 (y : Int))) :
    Calls Tryz.prog 60 #[.slice (some ⟨g, 0, none⟩) 1 c, .slice (some ⟨yb, yo, none⟩) 1 yc] w fun e w' => e = .returned (.int .i64 (cmpN x y)) ∧ ∃ n, w' = w.drewN n := by
  by_cases h1 : x < y
  · have hf : cmpN x y = -1 := if_pos h1
    rw [hf]; clear hf
    have h1' : (x : Int) < (y : Int) := by omega
    have h1d : decide ((x : Int) < (y : Int)) = true := by simpa using h1
    go_enter Tryz.func60, Tryz.ntmps60
    go_wp2_with fail
    go_loopw [7] (fun iv wr => iv = .int .i64 0 ∧ ∃ n, wr = w.drewN n) (fun _ _ => 0)
    case atStart => exact ⟨rfl, 0, rfl⟩
    case round =>
      obtain ⟨rfl, n0, rfl⟩ := hrel
      have hcx0 : (w.drewN n0).cell? ⟨g, 0, none⟩ = some (.int .u64 (x : Int)) := hcx
      have hcy0 : (w.drewN n0).cell? ⟨yb, yo, none⟩ = some (.int .u64 (y : Int)) := hcy
      go_wp2_with fail
      go_quiet (fail)
      go_wp2_with fail
      go_quiet (fail)
      go_wp2_with fail
      go_ret
      exact ⟨rfl, _, drewN_sum3⟩
  · by_cases h2 : y < x
    · have hf : cmpN x y = 1 := by unfold cmpN; rw [if_neg h1, if_pos h2]
      rw [hf]; clear hf
      have h1' : ¬ (x : Int) < (y : Int) := by omega
      have h2' : (y : Int) < (x : Int) := by omega
      go_enter Tryz.func60, Tryz.ntmps60
      go_wp2_with fail
      go_loopw [7] (fun iv wr => iv = .int .i64 0 ∧ ∃ n, wr = w.drewN n) (fun _ _ => 0)
      case atStart => exact ⟨rfl, 0, rfl⟩
      case round =>
        obtain ⟨rfl, n0, rfl⟩ := hrel
        have hcx0 : (w.drewN n0).cell? ⟨g, 0, none⟩ = some (.int .u64 (x : Int)) := hcx
        have hcy0 : (w.drewN n0).cell? ⟨yb, yo, none⟩ = some (.int .u64 (y : Int)) := hcy
        go_wp2_with fail
        go_quiet (fail)
        go_wp2_with fail
        go_quiet (fail)
        go_wp2_with fail
        go_quiet (fail)
        go_wp2_with fail
        go_ret
        exact ⟨rfl, _, drewN_sum4⟩
    · have hf : cmpN x y = 0 := by unfold cmpN; rw [if_neg h1, if_neg h2]
      rw [hf]; clear hf
      have h1' : ¬ (x : Int) < (y : Int) := by omega
      have h2' : ¬ (y : Int) < (x : Int) := by omega
      go_enter Tryz.func60, Tryz.ntmps60
      go_wp2_with fail
      go_loopw [7] (fun iv wr => iv = .int .i64 0 ∧ ∃ n, wr = w.drewN n) (fun _ _ => 0)
      case atStart => exact ⟨rfl, 0, rfl⟩
      case round =>
        obtain ⟨rfl, n0, rfl⟩ := hrel
        have hcx0 : (w.drewN n0).cell? ⟨g, 0, none⟩ = some (.int .u64 (x : Int)) := hcx
        have hcy0 : (w.drewN n0).cell? ⟨yb, yo, none⟩ = some (.int .u64 (y : Int)) := hcy
        go_wp2_with fail
        go_quiet (fail)
        go_wp2_with fail
        go_quiet (fail)
        go_wp2_with fail
        go_quiet (fail)
        go_wp2_with fail
        go_ret
        exact ⟨rfl, _, drewN_sum4⟩

/-- a slice that reads as a number's words -/
def YWds (w : World) (YA : Option Addr) (yn : Nat) (b : Nat) : Prop := Rd w 1 wEnc YA yn (wordsOf b) ∧ b < W64
theorem YWds.cases {w : World} {YA : Option Addr} {yn b : Nat} (h : YWds w YA yn b) : (b = 0 ∧ yn = 0) ∨ (b ≠ 0 ∧ yn = 1 ∧ ∃ yb yo, YA = some ⟨yb, yo, none⟩ ∧ w.cell? ⟨yb, yo, none⟩ = some (.int .u64 (b : Int))) := by
  by_cases hb : b = 0
  · subst hb
    exact .inl ⟨rfl, h.1.1.symm⟩
  · have hw := wordsOf_1 hb h.2
    have h1 := h.1
    rw [hw] at h1
    have hl : yn = 1 := h1.1.symm
    obtain ⟨yb, yo, e, hc⟩ := h1.2 (by omega)
    have := hc 0 0 _ (by simp) rfl
    rw [show yo + 0 * 1 + 0 = yo from by omega] at this
    exact .inr ⟨hb, hl, yb, yo, e, this⟩

theorem natAddV (B a b n c yn yc : Nat) (A YA : Option Addr) (w : World) (hBw : B ≤ w.heap.size) (ha : a + b < W64 * W64) (h : Wds w B (.slice A n c) (wordsOf a)) (hn : n = (wordsOf a).length) (hy : YWds w YA yn b) (hyc : yn ≤ yc) :
    Calls Tryz.prog 59 #[.slice A n c, .slice A n c, .slice YA yn yc] w fun e w' => ∃ V', e = .returned V' ∧ Gave w w' B (.slice A n c) V' (wordsOf (a + b)) := by
  by_cases h0 : a = 0
  · subst h0
    rw [wordsOf_0] at h hn
    have hn' : n = 0 := hn
    subst hn'
    rw [Nat.zero_add]
    rcases hy.cases with ⟨rfl, rfl⟩ | ⟨hb, rfl, yb, yo, rfl, hcy⟩
    · exact natAdd_00 B c yc A YA w h
    · exact natAdd_01 B c b yb yo yc A w hBw hy.2 hb h hcy
  · by_cases h1 : a < W64
    · have hw := wordsOf_1 h0 h1
      rw [hw] at h hn
      have hn' : n = 1 := hn
      subst hn'
      obtain ⟨g, rfl⟩ := h.addr (by simp)
      rcases hy.cases with ⟨rfl, rfl⟩ | ⟨hb, rfl, yb, yo, rfl, hcy⟩
      · rw [Nat.add_zero, hw]
        exact natAdd_self B g 1 c yc YA [a] w h rfl (by omega) (by omega)
      · exact natAdd_11 B g c a b yb yo yc w h1 hy.2 hBw h hcy hyc
    · have hw := wordsOf_2 (Nat.le_of_not_lt h1)
      have hs : a % W64 + W64 * (a / W64) = a := Nat.mod_add_div a W64
      have hx0 : a % W64 < W64 := Nat.mod_lt _ (by decide)
      have hx1 : a / W64 < W64 := by unfold W64 at *; omega
      rw [hw] at h hn
      have hn' : n = 2 := hn
      subst hn'
      obtain ⟨g, rfl⟩ := h.addr (by simp)
      rcases hy.cases with ⟨rfl, rfl⟩ | ⟨hb, rfl, yb, yo, rfl, hcy⟩
      · rw [Nat.add_zero, hw]
        exact natAdd_self B g 2 c yc YA _ w h rfl (by omega) (by omega)
      · have := natAdd_21 B g c (a % W64) (a / W64) b yb yo yc w hx0 hx1 hy.2 (by rw [hs]; exact ha) h hcy hyc
        rwa [hs] at this

theorem natSubV (B a b n c yn yc : Nat) (A YA : Option Addr) (w : World) (ha : a < W64 * W64) (hab : b ≤ a) (h0 : a ≠ 0) (h : Wds w B (.slice A n c) (wordsOf a)) (hn : n = (wordsOf a).length) (hy : YWds w YA yn b) (hyc : yn ≤ yc) :
    Calls Tryz.prog 61 #[.slice A n c, .slice A n c, .slice YA yn yc] w fun e w' => ∃ V', e = .returned V' ∧ Gave w w' B (.slice A n c) V' (wordsOf (a - b)) := by
  by_cases h1 : a < W64
  · have hw := wordsOf_1 h0 h1
    rw [hw] at h hn
    have hn' : n = 1 := hn
    subst hn'
    obtain ⟨g, rfl⟩ := h.addr (by simp)
    rcases hy.cases with ⟨rfl, rfl⟩ | ⟨hb, rfl, yb, yo, rfl, hcy⟩
    · rw [Nat.sub_zero, hw]
      exact natSub_self B g 1 c yc YA [a] w h rfl (by omega) (by omega)
    · exact natSub_11 B g c a b yb yo yc w h1 hy.2 hab h hcy hyc
  · have hw := wordsOf_2 (Nat.le_of_not_lt h1)
    have hs : a % W64 + W64 * (a / W64) = a := Nat.mod_add_div a W64
    have hx0 : a % W64 < W64 := Nat.mod_lt _ (by decide)
    have hx1 : a / W64 < W64 := by unfold W64 at *; omega
    have hx2 : a / W64 ≠ 0 := by unfold W64 at *; omega
    rw [hw] at h hn
    have hn' : n = 2 := hn
    subst hn'
    obtain ⟨g, rfl⟩ := h.addr (by simp)
    rcases hy.cases with ⟨rfl, rfl⟩ | ⟨hb, rfl, yb, yo, rfl, hcy⟩
    · rw [Nat.sub_zero, hw]
      exact natSub_self B g 2 c yc YA _ w h rfl (by omega) (by omega)
    · have := natSub_21 B g c (a % W64) (a / W64) b yb yo yc w hx0 hx1 hx2 hy.2 h hcy hyc
      rwa [hs] at this

theorem natSubT (B a b n c yn yc : Nat) (A YA : Option Addr) (w : World) (hBw : B ≤ w.heap.size) (hab : a < b) (h : Wds w B (.slice A n c) (wordsOf a)) (hn : n = (wordsOf a).length) (hy : YWds w YA yn b) (hyc : yn ≤ yc) :
    Calls Tryz.prog 61 #[.slice A n c, .slice YA yn yc, .slice A n c] w fun e w' => ∃ V', e = .returned V' ∧ Gave w w' B (.slice A n c) V' (wordsOf (b - a)) := by
  have hb64 := hy.2
  rcases hy.cases with ⟨rfl, rfl⟩ | ⟨hb, rfl, yb, yo, rfl, hcy⟩
  · omega
  · by_cases h0 : a = 0
    · subst h0
      rw [wordsOf_0] at h hn
      have hn' : n = 0 := hn
      subst hn'
      exact natSub_y0 B c b yb yo yc A w hBw hy.2 hb h hcy
    · have hw := wordsOf_1 h0 (show a < W64 by omega)
      rw [hw] at h hn
      have hn' : n = 1 := hn
      subst hn'
      obtain ⟨g, rfl⟩ := h.addr (by simp)
      exact natSub_t B g c a b yb yo yc w (by omega) hy.2 (by omega) h hcy hyc

theorem natCmpV (B a b n c yn yc : Nat) (A YA : Option Addr) (w : World) (ha : a < W64 * W64) (h : Wds w B (.slice A n c) (wordsOf a)) (hn : n = (wordsOf a).length) (hy : YWds w YA yn b) (hyc : yn ≤ yc) :
    Calls Tryz.prog 60 #[.slice A n c, .slice YA yn yc] w fun e w' => e = .returned (.int .i64 (cmpN a b)) ∧ ∃ n, w' = w.drewN n := by
  have hb64 := hy.2
  by_cases h0 : a = 0
  · subst h0
    have hn' : n = 0 := hn
    subst hn'
    rcases hy.cases with ⟨rfl, rfl⟩ | ⟨hb, rfl, yb, yo, rfl, hcy⟩
    · exact natCmp_len 0 0 c yc A YA w (by omega) (by omega) (by omega)
    · have := natCmp_len 0 1 c yc A (some ⟨yb, yo, none⟩) w (by omega) (by omega) (by omega)
      rwa [show cmpN 0 b = -1 from if_pos (by omega)]
  · by_cases h1 : a < W64
    · have hw := wordsOf_1 h0 h1
      rw [hw] at h hn
      have hn' : n = 1 := hn
      subst hn'
      obtain ⟨g, rfl⟩ := h.addr (by simp)
      rcases hy.cases with ⟨rfl, rfl⟩ | ⟨hb, rfl, yb, yo, rfl, hcy⟩
      · have := natCmp_len 1 0 c yc (some ⟨g, 0, none⟩) YA w (by omega) (by omega) (by omega)
        rwa [show cmpN a 0 = 1 from by unfold cmpN; rw [if_neg (by omega), if_pos (by omega)]]
      · obtain ⟨cur, hrow, hcs, hct, _⟩ := h.row
        have hx := cell_head hrow hct 0 (by simp)
        exact natCmp_11 g c yb yo yc a b w hx hcy
    · have hw := wordsOf_2 (Nat.le_of_not_lt h1)
      rw [hw] at hn
      have hn' : n = 2 := hn
      subst hn'
      rcases hy.cases with ⟨rfl, rfl⟩ | ⟨hb, rfl, yb, yo, rfl, hcy⟩
      · have := natCmp_len 2 0 c yc A YA w (by omega) (by omega) (by omega)
        rwa [show cmpN a 0 = 1 from by unfold cmpN; rw [if_neg (by omega), if_pos (by omega)]]
      · have := natCmp_len 2 1 c yc A (some ⟨yb, yo, none⟩) w (by omega) (by omega) (by omega)
        rwa [show cmpN a b = 1 from by unfold cmpN; rw [if_neg (by omega), if_pos (by omega)]]
end Go.Proofs.YtjojjicpdfmopaaGreatDoor
