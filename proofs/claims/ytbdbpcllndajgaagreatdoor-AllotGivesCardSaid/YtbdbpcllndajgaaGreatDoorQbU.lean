/- Numbers of 32-bit words: three words by two, a limb of the quotient at a time. -/
import Derived.Test.YtbdbpcllndajgaaGreatDoorQbY
import Derived.Laws.CopyOwn
import Derived.Deep.CutBlock
import Derived.Deep.LoopGhost
import Derived.LoopN
namespace Go.Proofs.YtbdbpcllndajgaaGreatDoor
open Go Go.RowKit
set_option linter.unusedVariables false

/-- what a division hands back: both in memory of their own -/
def Gives2 (w : World) (x y : Nat) (e : Ending) (w' : World) : Prop :=
  ∃ (A' A2 : Option Addr) (c' c2 : Nat), e = .returned (.tuple #[.slice A' (qdigs x).length c', .slice A2 (qdigs y).length c2]) ∧ Rd w' 1 uEnc A' (qdigs x).length (qdigs x) ∧ Rd w' 1 uEnc A2 (qdigs y).length (qdigs y) ∧
    (∀ a o s, A' = some ⟨a, o, s⟩ → w.heap.size ≤ a) ∧ (∀ a o s, A2 = some ⟨a, o, s⟩ → w.heap.size ≤ a) ∧ (qdigs x).length ≤ c' ∧ (qdigs y).length ≤ c2 ∧ (A2 = none → c2 = 0) ∧ Below w.heap.size w w'

theorem qdigs_getD : ∀ (j x : Nat), (qdigs x).getD j 0 = x / 4294967296 ^ j % 4294967296
  | j, x => by
    induction j generalizing x with
    | zero =>
      by_cases h : x = 0
      · subst h; rw [qdigs_0]; rfl
      · rw [qdigs_s h]; simp
    | succ j ih =>
      by_cases h : x = 0
      · subst h; rw [qdigs_0]; simp
      · rw [qdigs_s h, List.getD_cons_succ, ih, Nat.pow_succ, Nat.mul_comm, Nat.div_div_eq_div_mul]
/-- four words -/
def four (x : Nat) : List Nat := [x % 4294967296, x / 4294967296 % 4294967296, x / 18446744073709551616 % 4294967296, x / 79228162514264337593543950336 % 4294967296]
theorem four_dig (x : Nat) : QDig (four x) := by
  intro y hy
  simp only [four, List.mem_cons, List.not_mem_nil, or_false] at hy
  omega
theorem four_val {x : Nat} (h : x < 340282366920938463463374607431768211456) : qval (four x) = x := by
  simp only [four, qval]
  omega
theorem four_getD {x j : Nat} (h : x < 340282366920938463463374607431768211456) (hj : j < 5) : (qdigs x).getD j 0 = (four x).getD j 0 := by
  rw [qdigs_getD]
  rcases (show j = 0 ∨ j = 1 ∨ j = 2 ∨ j = 3 ∨ j = 4 by omega) with rfl | rfl | rfl | rfl | rfl
  · simp [four]
  · simp [four]
  · simp [four]
  · simp [four]
  · simp [four]; omega
theorem VRow.otherQ {w : World} {g e n : Nat} {F : Nat → Value} (h : VRow w g e n F) {q : Nat} (hne : g ≠ q) (i : Nat) (v : Value) : VRow (w.setCell ⟨q, i, none⟩ v) g e n F := (Below.heap_setCell w ⟨q, i, none⟩ v g hne).trans h
theorem u32_sz : (Tryz.prog.info? 179).map (·.size) = some 1 := by kernel_rfl
theorem guess_of {top next R u0 : Nat} (ht : 0 < top) (hn : next < KB) (hu : u0 < KB) : Guess R (top * KB + next) (R * KB + u0) top (R / top) (R % top) := by
  have e : R / KB * KB + R % KB = R := by rw [Nat.mul_comm]; exact Nat.div_add_mod _ _
  rcases guess_start (u2 := R / KB) (u1 := R % KB) (u0 := u0) ht hn with h | h
  · rwa [e] at h
  · omega

/-- the division's state: the limbs i and more of the quotient are there -/
structure KnuI (w0 w : World) (gu gq gv : Nat) (U : List Nat) (v1 v0 i R : Nat) (qs : List Nat) : Prop where
  le : i ≤ 3
  dv : DivAt U (v1 * 4294967296 + v0) i R qs
  len : qs.length + i = 3
  u : VRow w gu 179 5 (uF (U.take i ++ [R % 4294967296, R / 4294967296]))
  q : VRow w gq 179 3 (uF (List.replicate i 0 ++ qs))
  c0 : w.cell? ⟨gv, 0, none⟩ = some (.int .u32 (v0 : Int))
  c1 : w.cell? ⟨gv, 1, none⟩ = some (.int .u32 (v1 : Int))
  bel : Below w0.heap.size w0 w
section
variable {w0 w : World} {gu gq gv : Nat} {U : List Nat} {v1 v0 i R : Nat} {qs : List Nat}
theorem KnuI.drewN (h : KnuI w0 w gu gq gv U v1 v0 i R qs) (k : Nat) : KnuI w0 (w.drewN k) gu gq gv U v1 v0 i R qs := ⟨h.le, h.dv, h.len, h.u, h.q, h.c0, h.c1, bdrewN h.bel k⟩
theorem four_take {U : List Nat} {i a b : Nat} (hi : i < U.length) : U.take (i + 1) ++ [a, b] = U.take i ++ [U[i], a, b] := by
  rw [List.take_succ_eq_append_getElem hi, List.append_assoc]; rfl
theorem getD_app {pre l : List Nat} {i k : Nat} (h : pre.length = i) : (pre ++ l).getD (i + k) 0 = l.getD k 0 := by
  subst h
  rw [List.getD_eq_getElem?_getD, List.getElem?_append_right (by omega), Nat.add_sub_cancel_left, ← List.getD_eq_getElem?_getD]
theorem uF_ms {g e n a b c x0 x1 i : Nat} {pre : List Nat} (h : VRow w g e n (uF (pre ++ [a, b, c]))) (hl : pre.length = i) :
    VRow (((w.setCell ⟨g, i, none⟩ (.int .u32 (x0 : Int))).setCell ⟨g, i + 1, none⟩ (.int .u32 (x1 : Int))).setCell ⟨g, i + 2, none⟩ (.int .u32 0)) g e n (uF (pre ++ [x0, x1])) := by
  refine (((h.set_ i _).set_ (i + 1) _).set_ (i + 2) _).congr fun j _ => ?_
  by_cases h2 : j = i + 2
  · subst h2
    rw [if_pos rfl]
    unfold uF
    rw [getD_app hl]; rfl
  · rw [if_neg h2]
    by_cases h1 : j = i + 1
    · subst h1
      rw [if_pos rfl]
      unfold uF
      rw [getD_app hl]; rfl
    · rw [if_neg h1]
      by_cases h0 : j = i
      · subst h0
        rw [if_pos rfl]
        unfold uF
        have := getD_app (pre := pre) (l := [x0, x1]) (k := 0) hl
        rw [Nat.add_zero] at this
        rw [this]; rfl
      · rw [if_neg h0]
        unfold uF
        rcases Nat.lt_or_ge j i with h3 | h3
        · rw [List.getD_eq_getElem?_getD, List.getD_eq_getElem?_getD, List.getElem?_append_left (by omega), List.getElem?_append_left (by omega)]
        · rw [getD_past (by simp; omega), getD_past (by simp; omega)]
theorem KnuI.step (h : KnuI w0 w gu gq gv U v1 v0 (i + 1) R qs) (hU : U.length = 4) (hUd : QDig U) {l x0 x1 Q : Nat} (hl : ∃ hi : i < U.length, l = U[i]) (hQ : Q = (R * 4294967296 + l) / (v1 * 4294967296 + v0))
    (hx0 : x0 = (R * 4294967296 + l) % (v1 * 4294967296 + v0) % 4294967296) (hx1 : x1 = (R * 4294967296 + l) % (v1 * 4294967296 + v0) / 4294967296) (hg1 : gu ≠ gq) (hg2 : gv ≠ gu) (hg3 : gv ≠ gq) (hb1 : w0.heap.size ≤ gu) (hb2 : w0.heap.size ≤ gq) :
    KnuI w0 ((((w.setCell ⟨gu, i, none⟩ (.int .u32 (x0 : Int))).setCell ⟨gu, i + 1, none⟩ (.int .u32 (x1 : Int))).setCell ⟨gu, i + 2, none⟩ (.int .u32 0)).setCell ⟨gq, i, none⟩ (.int .u32 (Q : Int))) gu gq gv U v1 v0 i ((R * 4294967296 + l) % (v1 * 4294967296 + v0)) (Q :: qs) := by
  obtain ⟨hi, rfl⟩ := hl
  subst hQ hx0 hx1
  have hu := h.u
  rw [four_take hi] at hu
  have hpl : (U.take i).length = i := by rw [List.length_take]; omega
  refine ⟨by have := h.le; omega, h.dv.step hUd hi, by have := h.len; simp; omega, ?_, ?_, ?_, ?_, ?_⟩
  · exact VRow.otherQ (uF_ms hu hpl) hg1 _ _
  · exact uF_put (VRow.otherQ (VRow.otherQ (VRow.otherQ h.q (fun e => hg1 e.symm) _ _) (fun e => hg1 e.symm) _ _) (fun e => hg1 e.symm) _ _) rfl
  · have := h.c0
    simpa [World.cell?_setCell_other, hg2, hg3] using this
  · have := h.c1
    simpa [World.cell?_setCell_other, hg2, hg3] using this
  · exact (((h.bel.setCell hb1 _).setCell hb1 _).setCell hb1 _).setCell hb2 _
end
/-- one copied row of words -/
theorem splice_words {x : Nat} (hx : x < 340282366920938463463374607431768211456) {w : World} {g e : Nat} (h : w.heap[g]? = some (.cells (splice (List.replicate 5 (Value.int .u32 0)) 0 ((qdigs x).map fun (d : Nat) => Value.int .u32 (d : Int))).toArray e (0, 0))) (hl : (qdigs x).length ≤ 5) : VRow w g e 5 (uF (four x)) := by
  unfold VRow
  rw [h]
  congr 2
  apply congrArg List.toArray
  apply List.ext_getElem?
  intro j
  unfold splice
  rw [List.take_zero, List.nil_append, List.length_map, Nat.zero_add]
  by_cases hj : j < 5
  · rw [List.getElem?_map, List.getElem?_range hj]
    simp only [Option.map_some]
    unfold uF
    rw [← four_getD hx hj]
    rcases Nat.lt_or_ge j (qdigs x).length with h1 | h1
    · rw [List.getElem?_append_left (by simpa using h1), List.getElem?_map, List.getD_eq_getElem?_getD, List.getElem?_eq_getElem h1]
      rfl
    · rw [List.getElem?_append_right (by simpa using h1), List.length_map, List.getElem?_drop, List.getElem?_replicate, if_pos (by omega), getD_past h1]
      rfl
  · rw [List.getElem?_eq_none (by simp; omega), List.getElem?_eq_none (by simp; omega)]

set_option maxHeartbeats 4000000 in
set_option maxRecDepth 100000 in
theorem qknuth_any (m p : Nat) (A YA : Option Addr) (c d : Nat) (w : World) (hm0 : 18446744073709551616 ≤ m) (hm : m < 79228162514264337593543950336) (hp0 : 4294967296 ≤ p) (hp : p < 34359738368) (ha : Rd w 1 uEnc A 3 (qdigs m)) (hb : Rd w 1 uEnc YA 2 (qdigs p)) :
    Calls Tryz.prog 79 #[.slice A 3 c, .slice YA 2 d] w (Gives2 w (m / p) (m % p)) := by
  have hlt : ¬ m < p := by omega
  have hq : 0 ≤ qcmp m p := by unfold qcmp; rw [if_neg hlt]; split <;> omega
  have HC := qcmp_any m p A YA 3 c 2 d w ha hb (by omega) (by omega)
  generalize qcmp m p = z at HC hq
  have HC1 := hide HC
  have HL : Hid (∀ W : World, Below w.heap.size w W → Calls Tryz.prog 128 #[.slice YA 2 d] W fun e w' => ∃ s : Nat, e = .returned (.int .i64 (64 - (s : Int))) ∧ 29 ≤ s ∧ s ≤ 31 ∧ 9223372036854775808 ≤ p * 2 ^ s ∧ p * 2 ^ s < 18446744073709551616 ∧ ∃ k, w' = W.drewN k) := by
    intro W hW
    have h2 := qdigs_two hp0 (by omega)
    refine (qlength_any (qdigs p) (qdigs_dig p) YA 2 d W (hb.below hW) (by omega) (by omega) (p / 4294967296) ⟨by rw [h2]; simp, by simp [h2]⟩).mono ?_
    rintro e w' ⟨k, rfl, ⟨b1, b2, b3⟩, q, rfl⟩
    have hk : k = 1 ∨ k = 2 ∨ k = 3 := by
      have h3 : k < 4 := by
        rcases Nat.lt_or_ge k 4 with h | h
        · exact h
        · have h4 := b3 (by omega)
          have h5 : 2 ^ 3 ≤ 2 ^ (k - 1) := Nat.pow_le_pow_right (by omega) (by omega)
          omega
      have h0 : k ≠ 0 := by rintro rfl; omega
      omega
    rcases hk with rfl | rfl | rfl
    · exact ⟨31, by congr 2, by omega, by omega, by omega, by omega, q, rfl⟩
    · have := b3 (by omega)
      exact ⟨30, by congr 2, by omega, by omega, by omega, by omega, q, rfl⟩
    · have := b3 (by omega)
      exact ⟨29, by congr 2, by omega, by omega, by omega, by omega, q, rfl⟩
  have hmk5 := mk_u32 5 (by omega)
  have hmk3 := mk_u32 3 (by omega)
  have HM : Hid (18446744073709551616 ≤ m ∧ m < 79228162514264337593543950336) := ⟨hm0, hm⟩
  have HA := hide ha
  have HB := hide hb
  have HP : Hid (4294967296 ≤ p ∧ p < 34359738368) := ⟨hp0, hp⟩
  clear HC hm0 hm hp0 hp hlt ha hb
  go_enter Tryz.func79, Tryz.ntmps79
  go_wp2_with fail
  refine HC1.out.mono ?_
  rintro e w1 ⟨rfl, hb1⟩
  clear HC1
  go_upto_region 11 with fail
  go_cut [10] from 67 to 73 (fun s10 wx => ∃ (s k : Nat), s10 = .int .u64 (s : Int) ∧ Hid (29 ≤ s ∧ s ≤ 31 ∧ 9223372036854775808 ≤ p * 2 ^ s ∧ p * 2 ^ s < 18446744073709551616) ∧ wx = w1.drewN k)
  case first =>
    go_wp2_with fail
    refine (HL.out _ hb1).mono ?_
    rintro e w2 ⟨s, rfl, s0, s1, s2, s3, k, rfl⟩
    have HS : Hid (29 ≤ s ∧ s ≤ 31 ∧ 9223372036854775808 ≤ p * 2 ^ s ∧ p * 2 ^ s < 18446744073709551616) := ⟨s0, s1, s2, s3⟩
    clear s2 s3
    rcases (show s = 29 ∨ s = 30 ∨ s = 31 by omega) with rfl | rfl | rfl
    all_goals
      go_wp2_with fail
      go_meet
      exact ⟨_, k, rfl, HS.out, rfl⟩
  case rest =>
    obtain ⟨s, k, rfl, HS, rfl⟩ := hcut
    have hbk := bdrewN hb1 k
    go_wp2_with fail
    refine (qleft_any (qdigs p) s YA 2 d _ HS.out.1 HS.out.2.1 (qdigs_dig p) (by omega) (by omega) (HB.out.below hbk)).mono ?_
    rintro e w3 ⟨gv, cv, rfl, hrv, hcv, hgv, hb3⟩
    rw [qval_digs] at hrv hcv ⊢
    obtain ⟨V, hV⟩ : ∃ V, V = p * 2 ^ s := ⟨_, rfl⟩
    have hV2 : 9223372036854775808 ≤ V ∧ V < 18446744073709551616 := by rw [hV]; exact HS.out.2.2
    rw [← hV] at hrv hcv ⊢
    have h2 := qdigs_two (p := V) (by omega) hV2.2
    have hl2 : (qdigs V).length = 2 := by rw [h2]; rfl
    rw [hl2] at hrv hcv ⊢
    rw [h2] at hrv
    obtain ⟨v0, hv0⟩ : ∃ v0, v0 = V % 4294967296 := ⟨_, rfl⟩
    obtain ⟨v1, hv1⟩ : ∃ v1, v1 = V / 4294967296 := ⟨_, rfl⟩
    rw [← hv0, ← hv1] at hrv
    have q0 := qcell hrv 0 (by simp)
    have q1 := qcell hrv 1 (by simp)
    simp only [List.getElem_cons_zero, List.getElem_cons_succ, Nat.add_zero, Nat.zero_add] at q0 q1
    have hvv : V = v1 * 4294967296 + v0 := by omega
    have hv1b : 2147483648 ≤ v1 ∧ v1 < 4294967296 := by omega
    have hv0b : v0 < 4294967296 := by omega
    have hb3 : Below w.heap.size w w3 := bthen hbk (Nat.le_refl _) hb3
    have hs3 : w.heap.size ≤ w3.heap.size := hb3.size
    have hgvs : w.heap.size ≤ gv := by have := hb1.size; have h9 : (w1.drewN k).heap.size = w1.heap.size := rfl; omega
    have hgvl : gv < w3.heap.size := World.block_lt_of_cell? _ _ q0
    have HV := hide hV
    have HVV := hide hvv
    clear h2 hl2 hv0 hv1 hrv hV hgv hbk hvv
    obtain ⟨Z5, hZ5⟩ : ∃ Z5, Z5 = Array.replicate 5 (Value.int .u32 0) := ⟨_, rfl⟩
    obtain ⟨Z3, hZ3⟩ : ∃ Z3, Z3 = Array.replicate 3 (Value.int .u32 0) := ⟨_, rfl⟩
    have hmk5 : ∀ w : World, (Instr.makeSlice 77 (.int .i64 5) (.int .i64 5)).run Tryz.prog w = .ok (.slice (some ⟨w.heap.size, 0, none⟩) 5 5) (w.alloc (.cells Z5 179)) := fun w => by rw [hZ5]; exact mk_u32 5 (by omega) w
    have hmk3 : ∀ w : World, (Instr.makeSlice 77 (.int .i64 3) (.int .i64 3)).run Tryz.prog w = .ok (.slice (some ⟨w.heap.size, 0, none⟩) 3 3) (w.alloc (.cells Z3 179)) := fun w => by rw [hZ3]; exact mk_u32 3 (by omega) w
    have HZ5 := hide hZ5
    have HZ3 := hide hZ3
    clear hZ5 hZ3
    have hb4 : Below w.heap.size w (w3.alloc (.cells Z5 179)) := hb3.alloc hs3 _
    have hz4 : (w3.alloc (.cells Z5 179)).heap[w3.heap.size]? = some (.cells (List.replicate 5 (Value.int .u32 0)).toArray 179 (0, 0)) := by
      rw [heap_alloc_new, HZ5.out]; rfl
    have hl4 : (w3.alloc (.cells Z5 179)).heap.size = w3.heap.size + 1 := by simp
    have hg34 : Below w3.heap.size w3 (w3.alloc (.cells Z5 179)) := (Below.refl _ _).alloc (Nat.le_refl _) _
    go_wp2_with fail
    generalize w3.alloc (.cells Z5 179) = w4 at hb4 hz4 hl4 hg34 ⊢
    refine (qleft_any (qdigs m) s A 3 c _ HS.out.1 HS.out.2.1 (qdigs_dig m) (by omega) (by omega) (HA.out.below hb4)).mono ?_
    rintro e w5 ⟨g5, c5, rfl, hr5, hc5, hg5, hb5⟩
    rw [qval_digs] at hr5 hc5 ⊢
    obtain ⟨U, hU⟩ : ∃ U, U = m * 2 ^ s := ⟨_, rfl⟩
    have hU4 : U < 79228162514264337593543950336 * 2147483648 ∧ U < 340282366920938463463374607431768211456 := by
      have h1 : m * 2 ^ s ≤ m * 2 ^ 31 := Nat.mul_le_mul_left _ (Nat.pow_le_pow_right (by omega) HS.out.2.1)
      have h3 := HM.out.2
      rw [hU]
      omega
    have HU4 := hide hU4
    have HU := hide hU
    rw [← hU] at hr5 hc5 ⊢
    have hl5 : (qdigs U).length ≤ 4 := by
      by_cases h0 : U = 0
      · rw [h0, qdigs_0]; simp
      · rw [qdigs_s h0, List.length_cons]
        have := qdigs_3 (n := U / 4294967296) (by omega)
        omega
    have hz5 : w5.heap[w3.heap.size]? = some (.cells (List.replicate 5 (Value.int .u32 0)).toArray 179 (0, 0)) := by
      rw [← hz4]; exact hb5.block _ (by omega)
    have hb35 : Below w3.heap.size w3 w5 := bthen hg34 (by omega) hb5
    have hHR := hide hr5
    obtain ⟨L, hL⟩ : ∃ L, L = (qdigs U).length := ⟨_, rfl⟩
    have HL5 := hide hL
    have hsrc : ∀ j v, ((qdigs U).map fun (d : Nat) => Value.int .u32 (d : Int))[j]? = some v → w5.cell? ((⟨g5, 0, none⟩ : Addr).add j) = some v := by
      intro j v hv
      rw [List.getElem?_map] at hv
      by_cases hj : j < (qdigs U).length
      · rw [List.getElem?_eq_getElem hj] at hv
        have := qcell hHR.out j hj
        rw [Nat.zero_add] at this
        simp only [Option.map_some, Option.some.injEq] at hv
        rw [← hv]
        unfold Addr.add
        by_cases hj0 : j = 0
        · subst hj0; simpa using this
        · rw [if_neg hj0]; simpa using this
      · rw [List.getElem?_eq_none (by omega)] at hv; cases hv
    have hcl5 : ((qdigs U).map fun (d : Nat) => Value.int .u32 (d : Int)).length = L := by rw [List.length_map, hL]
    have hc1 : ∀ v ∈ ((qdigs U).map fun (d : Nat) => Value.int .u32 (d : Int)), v.oneCell' = true := by
      intro v hv
      obtain ⟨d, _, rfl⟩ := List.mem_map.1 hv
      rfl
    obtain ⟨cs, hcs⟩ : ∃ cs, cs = (qdigs U).map fun (d : Nat) => Value.int .u32 (d : Int) := ⟨_, rfl⟩
    rw [← hcs] at hsrc hcl5 hc1
    have HCS := hide hcs
    have HSRC := hide hsrc
    have HC1 := hide hc1
    obtain ⟨cu, hcu⟩ : ∃ cu, cu = List.replicate 5 (Value.int .u32 0) := ⟨_, rfl⟩
    rw [← hcu] at hz5
    have hcul : cu.length = 5 := by rw [hcu]; rfl
    have HCU := hide hcu
    clear hsrc hcs hc1 hcu
    rw [← hL] at hr5 hc5 hl5 ⊢
    clear hL hr5 hU
    go_upto_region 15 with (first | (with_reducible show wpList _ _ _ _ _ _; (refine wpList_copy_splice (o := ⟨some 85, _, _, _, _, _⟩) rfl _ _ 77 77 rfl 179 Tryz.underlying77 u32_sz _ _ 5 5 L c5 rfl rfl w3.heap.size 0 cu 179 hz5 cs (hcl5.trans (Nat.min_eq_left (show L ≤ 5 by omega)).symm) (fun _ => ⟨rfl, _, rfl, HSRC.out⟩) (by rw [hcl5, hcul]; omega) HC1.out w3.heap.size w3 hb35 (Nat.le_refl _) ?_); intro w6 HG6 hb6))
    rw [HCU.out, HCS.out] at HG6
    have hu6 : VRow w6 w3.heap.size 179 5 (uF (four U)) := splice_words HU4.out.2 HG6.out (by rw [← HL5.out]; omega)
    clear HG6 hz5 hz4 HSRC HC1 HCS HCU hcl5 hcul hb35 hHR HL5
    have q0 := below_cell hb6 hgvl q0
    have q1 := below_cell hb6 hgvl q1
    have hs6 := hu6.lt
    have hb6 : Below w.heap.size w w6 := bthen hb3 (Nat.le_refl _) hb6
    obtain ⟨gu, hgu⟩ : ∃ gu, gu = w3.heap.size := ⟨_, rfl⟩
    rw [← hgu] at hu6 hs6 hs3 hgvl ⊢
    clear hb4 hl4 hg34 hb5 hb3 hc5 hg5 hgu
    go_upto_region 18 with fail
    have hb7 : Below w.heap.size w (w6.alloc (.cells Z3 179)) := hb6.alloc (by omega) _
    have hA7 : Below w6.heap.size w6 (w6.alloc (.cells Z3 179)) := (Below.refl _ _).alloc (Nat.le_refl _) _
    have hu7 := hu6.below hA7
    have hq7 : VRow (w6.alloc (.cells Z3 179)) w6.heap.size 179 3 (uF (List.replicate 3 0 ++ [])) := by
      rw [HZ3.out]
      exact (VRow.made w6 179 3 (.int .u32 0)).congr (fun j hj => by unfold uF; rw [List.append_nil, List.getD_eq_getElem?_getD, List.getElem?_replicate, if_pos hj]; rfl)
    have q0 := below_cell hA7 (by omega) q0
    have q1 := below_cell hA7 (by omega) q1
    obtain ⟨gq, hgq⟩ : ∃ gq, gq = w6.heap.size := ⟨_, rfl⟩
    rw [← hgq] at hq7 hs6 ⊢
    generalize w6.alloc (.cells Z3 179) = w7 at hb7 hu7 hq7 q0 q1 ⊢
    clear hA7 hu6 hgq hb6
    go_quiet (fail)
    have hK0 : Hid (KnuI w (w7.drewN nq) gu gq gv (four U) v1 v0 3 (U / 79228162514264337593543950336) []) := by
      have hdr : (four U).drop 3 = [U / 79228162514264337593543950336 % 4294967296] := rfl
      have hlt : U / 79228162514264337593543950336 < 2147483648 := by have := HU4.out.1; omega
      have hqv : qval ((four U).drop 3) = U / 79228162514264337593543950336 := by rw [hdr]; simp only [qval]; omega
      have hdv : DivAt (four U) (v1 * 4294967296 + v0) 3 (qval ((four U).drop 3)) [] := DivAt.zero (by rw [hqv]; omega)
      rw [hqv] at hdv
      refine ⟨by omega, hdv, rfl, ?_, hq7, q0, q1, bdrewN hb7 nq⟩
      refine VRow.congr (show VRow (w7.drewN nq) gu 179 5 (uF (four U)) from hu7) fun j hj => ?_
      unfold uF
      congr 2
      have h5 : U / 79228162514264337593543950336 % 4294967296 = U / 79228162514264337593543950336 := by omega
      have h6 : U / 79228162514264337593543950336 / 4294967296 = 0 := by omega
      rw [h5, h6]
      rcases (show j = 0 ∨ j = 1 ∨ j = 2 ∨ j = 3 ∨ j = 4 by omega) with rfl | rfl | rfl | rfl | rfl
      · simp [four]
      · simp [four]
      · simp [four]
      · simp [four]; omega
      · simp [four]
    have hng1 : gu ≠ gq := by omega
    have hng2 : gv ≠ gu := by omega
    have hng3 : gv ≠ gq := by omega
    have hbs1 : w.heap.size ≤ gu := by omega
    have hbs2 : w.heap.size ≤ gq := by omega
    have hU4d := four_dig U
    have HUV := hide (four_val HU4.out.2)
    clear q0 q1 hu7 hq7 hb7 hs6 hgvl hs3 hcv
    generalize w7.drewN nq = w8 at hK0 ⊢
    go_wp2_with fail
    go_loopg [18] 3 (fun fu jv wr => ∃ (R : Nat) (qs : List Nat), jv = .int .i64 ((fu : Int) - 1) ∧ Hid (KnuI w wr gu gq gv (four U) v1 v0 fu R qs))
    case atStart => exact ⟨_, _, rfl, hK0⟩
    case round =>
      obtain ⟨R, qs, rfl, HK⟩ := hrel
      obtain ⟨wo, hwo⟩ : ∃ wo, wo = wr := ⟨_, rfl⟩
      subst hwo
      by_cases h0 : gk = 0
      · subst h0
        have hK := HK.out
        have hE := hK.dv.end
        have hq := hK.q
        have hu := hK.u
        rw [List.replicate_zero, List.nil_append] at hq
        rw [List.take_zero, List.nil_append] at hu
        have hql : qs.length = 3 := by have := hK.len; omega
        have hqd := hK.dv.dig
        have hRV := hK.dv.lt
        have hR64 : R < 18446744073709551616 := by omega
        have hwd : QDig [R % 4294967296, R / 4294967296, 0, 0, 0] := by
          intro y hy
          simp only [List.mem_cons, List.not_mem_nil, or_false] at hy
          omega
        have hwv : qval [R % 4294967296, R / 4294967296, 0, 0, 0] = R := by simp only [qval]; omega
        have hu5 : VRow wo gu 179 5 (uF [R % 4294967296, R / 4294967296, 0, 0, 0]) := hu.congr fun j hj => by
          rcases (show j = 0 ∨ j = 1 ∨ j = 2 ∨ j = 3 ∨ j = 4 by omega) with rfl | rfl | rfl | rfl | rfl <;> rfl
        have hle := qdigs_le _ hqd
        rw [hql] at hle
        have hle2 : (qdigs R).length ≤ 2 := qlen_2 hR64
        have hsp : 0 < 2 ^ s := Nat.pow_pos (by omega)
        have hdv1 : qval qs = m / p := by rw [hE.1, HUV.out, HU.out, ← HVV.out, HV.out]; exact (div_scaled hsp).1
        have hdv2 : R / 2 ^ s = m % p := by rw [hE.2, HUV.out, HU.out, ← HVV.out, HV.out]; exact (div_scaled hsp).2
        have HD1 := hide hdv1
        have HD2 := hide hdv2
        have hbw := hK.bel
        have HQD := hide hqd
        have HWD := hide hwd
        have HWV := hide hwv
        have hrq := hq.words hql
        have hru := hu5.words rfl
        clear hdv1 hdv2 hE hu hq hK hqd hwd hwv hsp hu5 HK
        go_wp2_with fail
        refine (qtrim_any qs HQD.out gq 3 3 wo hrq (by omega) (by omega)).mono ?_
        rintro e w9 ⟨rfl, hr9, k9, rfl⟩
        go_wp2_with fail
        refine (qtrim_any [R % 4294967296, R / 4294967296, 0, 0, 0] HWD.out gu 5 5 _ (hru.below (bdrewN (Below.refl _ _) k9)) (by omega) (by omega)).mono ?_
        rintro e w10 ⟨rfl, hr10, k10, rfl⟩
        rw [HWV.out] at hr10 ⊢
        go_wp2_with fail
        refine (qright_any (qdigs R) s (some ⟨gu, 0, none⟩) _ 5 (wo.drewN (k9 + k10)) HS.out.1 HS.out.2.1 (qdigs_dig R) (by omega) (show Rd (wo.drewN (k9 + k10)) 1 uEnc (some ⟨gu, 0, none⟩) (qdigs R).length (qdigs R) from hr10)).mono ?_
        rintro e w11 ⟨A2, c2, rfl, hr11, hf11, hc11, hn11, hb11⟩
        rw [qval_digs, HD2.out] at hr11 hc11
        rw [qval_digs, HD2.out]
        rw [HD1.out] at hr9 hle ⊢
        have hbz : Below w.heap.size w (wo.drewN (k9 + k10)) := bdrewN hbw (k9 + k10)
        have hr9 : Rd (wo.drewN (k9 + k10)) 1 uEnc (some ⟨gq, 0, none⟩) (qdigs (m / p)).length (qdigs (m / p)) := hr9
        have hszz := hbz.size
        go_wp2_with fail
        go_ret2
        exact ⟨some ⟨gq, 0, none⟩, A2, 3, c2, rfl, hr9.below hb11, hr11, (fun a o z e => by injection e with e; injection e with e; omega), (fun a o z e => by have := hf11 a o z e; omega), hle, hc11, hn11, bthen hbz (Nat.le_refl _) hb11⟩
      · obtain ⟨i, rfl⟩ : ∃ i, gk = i + 1 := ⟨gk - 1, by omega⟩
        have hK := HK.out
        have hi2 : i ≤ 2 := by have := hK.le; omega
        have hiU : i < (four U).length := by show i < 4; omega
        have hu := hK.u
        rw [four_take hiU] at hu
        have hpl : ((four U).take i).length = i := by rw [List.length_take]; omega
        have hl4 := hU4d _ (List.getElem_mem hiU)
        obtain ⟨l, hl⟩ : ∃ l, l = (four U)[i] := ⟨_, rfl⟩
        rw [← hl] at hu hl4
        have HLU : Hid (∃ hi : i < (four U).length, l = (four U)[i]) := ⟨hiU, hl⟩
        have hRV := hK.dv.lt
        have hR64 : R < 18446744073709551616 := by omega
        obtain ⟨r0, hr0⟩ : ∃ r0, r0 = R % 4294967296 := ⟨_, rfl⟩
        obtain ⟨r1, hr1⟩ : ∃ r1, r1 = R / 4294967296 := ⟨_, rfl⟩
        rw [← hr0, ← hr1] at hu
        have hR : R = r1 * 4294967296 + r0 := by omega
        have hr0b : r0 < 4294967296 := by omega
        have hr1b : r1 < 4294967296 := by omega
        have z0 : wo.cell? ⟨gu, i, none⟩ = some (.int .u32 (l : Int)) := (hu.cell i (by omega)).trans (congrArg some (uF_at (by have := getD_app (l := [l, r0, r1]) (k := 0) hpl; rw [Nat.add_zero] at this; rw [this]; rfl)))
        have z1 : wo.cell? ⟨gu, i + 1, none⟩ = some (.int .u32 (r0 : Int)) := (hu.cell (i + 1) (by omega)).trans (congrArg some (uF_at (by rw [getD_app hpl]; rfl)))
        have z2 : wo.cell? ⟨gu, i + 2, none⟩ = some (.int .u32 (r1 : Int)) := (hu.cell (i + 2) (by omega)).trans (congrArg some (uF_at (by rw [getD_app hpl]; rfl)))
        have fz0 := hu.frozen i
        have fz1 := hu.frozen (i + 1)
        have fz2 := hu.frozen (i + 2)
        have y0 := hK.c0
        have y1 := hK.c1
        have qz := hK.q.cell i (by omega)
        have fq := hK.q.frozen i
        have f1 : bits BinOp.or IntKind.u64 ((r1 : Int) * 4294967296) (r0 : Int) = (R : Int) := by rw [shl_or hr1b hr0b, ← hR]
        obtain ⟨g0, hg0⟩ : ∃ g0, g0 = R / v1 := ⟨_, rfl⟩
        obtain ⟨m0, hm0⟩ : ∃ m0, m0 = R % v1 := ⟨_, rfl⟩
        have hv1i : ((v1 : Int) == 0) = false := by rw [beq_eq_false_iff_ne]; omega
        have hv1j : ¬ (v1 : Int) = 0 := by omega
        have hv1k : ¬ (v1 : Int) ≤ 0 := by omega
        have hv1l : ¬ v1 = 0 := by omega
        have hdq : (R : Int).tdiv (v1 : Int) = (g0 : Int) := by rw [hg0]; rfl
        have hdr : (R : Int).tmod (v1 : Int) = (m0 : Int) := by rw [hm0]; rfl
        have hg0b : g0 < 8589934592 := by
          rw [hg0]
          refine (Nat.div_lt_iff_lt_mul (by omega)).2 ?_
          have : 8589934592 * 2147483648 ≤ 8589934592 * v1 := Nat.mul_le_mul_left _ hv1b.1
          omega
        have hm0b : m0 < 4294967296 := by rw [hm0]; have := Nat.mod_lt R (show 0 < v1 by omega); omega
        have hgw : IntKind.u64.wrap (g0 : Int) = (g0 : Int) := by rw [wrap_u64]; omega
        have HG0 : Hid (Guess R (v1 * KB + v0) (R * KB + l) v1 g0 m0) := by rw [hg0, hm0]; exact guess_of (by omega) hv0b hl4
        obtain ⟨Q, hQ⟩ : ∃ Q, Q = (R * 4294967296 + l) / (v1 * 4294967296 + v0) := ⟨_, rfl⟩
        have hQb : Q < 4294967296 := by rw [hQ]; exact limb_lt hRV hl4
        have HQ := hide hQ
        rw [show (((i + 1 : Nat) : Int) - 1) = (i : Int) from by omega]
        have i0 : (0 : Int) ≤ (i : Int) := by omega
        have i1 : (i : Int) < 5 := by omega
        have i2 : (i : Int) + 1 < 5 := by omega
        have i3 : (i : Int) + 2 < 5 := by omega
        have i4 : (i : Int) < 3 := by omega
        have HRR := hide hR
        clear hu hl hr0 hr1 hg0 hm0 hQ hR
        go_wp2_with fail
        go_quiet (fail)
        have hKa := hide (hK.drewN nq)
        have z0 : (wo.drewN nq).cell? ⟨gu, i, none⟩ = some (.int .u32 (l : Int)) := z0
        have z1 : (wo.drewN nq).cell? ⟨gu, i + 1, none⟩ = some (.int .u32 (r0 : Int)) := z1
        have z2 : (wo.drewN nq).cell? ⟨gu, i + 2, none⟩ = some (.int .u32 (r1 : Int)) := z2
        have fz0 : (wo.drewN nq).frozen? ⟨gu, i, none⟩ = false := fz0
        have fz1 : (wo.drewN nq).frozen? ⟨gu, i + 1, none⟩ = false := fz1
        have fz2 : (wo.drewN nq).frozen? ⟨gu, i + 2, none⟩ = false := fz2
        have y0 : (wo.drewN nq).cell? ⟨gv, 0, none⟩ = some (.int .u32 (v0 : Int)) := y0
        have y1 : (wo.drewN nq).cell? ⟨gv, 1, none⟩ = some (.int .u32 (v1 : Int)) := y1
        have qz : (wo.drewN nq).cell? ⟨gq, i, none⟩ = some (uF (List.replicate (i + 1) 0 ++ qs) i) := qz
        have fq : (wo.drewN nq).frozen? ⟨gq, i, none⟩ = false := fq
        generalize wo.drewN nq = wa at hKa z0 z1 z2 fz0 fz1 fz2 y0 y1 qz fq ⊢
        clear hK HK
        go_wp2_with fail
        go_quiet (fail)
        have hKb := hide (hKa.out.drewN nq)
        have z0 : (wa.drewN nq).cell? ⟨gu, i, none⟩ = some (.int .u32 (l : Int)) := z0
        have z1 : (wa.drewN nq).cell? ⟨gu, i + 1, none⟩ = some (.int .u32 (r0 : Int)) := z1
        have z2 : (wa.drewN nq).cell? ⟨gu, i + 2, none⟩ = some (.int .u32 (r1 : Int)) := z2
        have fz0 : (wa.drewN nq).frozen? ⟨gu, i, none⟩ = false := fz0
        have fz1 : (wa.drewN nq).frozen? ⟨gu, i + 1, none⟩ = false := fz1
        have fz2 : (wa.drewN nq).frozen? ⟨gu, i + 2, none⟩ = false := fz2
        have y0 : (wa.drewN nq).cell? ⟨gv, 0, none⟩ = some (.int .u32 (v0 : Int)) := y0
        have y1 : (wa.drewN nq).cell? ⟨gv, 1, none⟩ = some (.int .u32 (v1 : Int)) := y1
        have qz : (wa.drewN nq).cell? ⟨gq, i, none⟩ = some (uF (List.replicate (i + 1) 0 ++ qs) i) := qz
        have fq : (wa.drewN nq).frozen? ⟨gq, i, none⟩ = false := fq
        generalize wa.drewN nq = wb at hKb z0 z1 z2 fz0 fz1 fz2 y0 y1 qz fq ⊢
        clear hKa f1 hdq hdr hgw
        go_upto_block 2 with fail
        go_cut [20] from 109 to 266 (fun s20 wx => s20 = .int .u64 (Q : Int) ∧ wx = wb)
        case first =>
          go_wp2_with fail
          go_loopg [20, 21] g0 (fun fu sv rv wi => ∃ r : Nat, sv = .int .u64 (fu : Int) ∧ rv = .int .u64 (r : Int) ∧ Hid (Guess R (v1 * KB + v0) (R * KB + l) v1 fu r) ∧ r < 4294967296 ∧ wi = wb)
          case atStart => exact ⟨m0, rfl, rfl, HG0, hm0b, rfl⟩
          case round =>
            obtain ⟨r, rfl, rfl, HG, hrb, hwe⟩ := hrel
            subst hwe
            have hgk : gk < 8589934592 := by
              have e := HG.out.eq
              have h1 : gk * 2147483648 ≤ gk * v1 := Nat.mul_le_mul_left _ hv1b.1
              omega
            obtain ⟨P, hP⟩ : ∃ P, P = gk * v0 := ⟨_, rfl⟩
            have hPi : (gk : Int) * (v0 : Int) = (P : Int) := by rw [hP]; exact (Int.natCast_mul _ _).symm
            have hPb : gk ≤ 4294967295 → P < 18446744073709551616 := by
              intro h
              have := Nat.mul_le_mul h (show v0 ≤ 4294967295 by omega)
              omega
            obtain ⟨Y, hY⟩ : ∃ Y, Y = r * 4294967296 + l := ⟨_, rfl⟩
            have hYi : bits BinOp.or IntKind.u64 ((r : Int) * 4294967296) (l : Int) = (Y : Int) := by rw [shl_or hrb hl4, hY]
            by_cases hgo : 4294967295 < gk ∨ Y < P
            · obtain ⟨HG2, h1⟩ := HG.out.less (show (R * 4294967296 + l) / (v1 * 4294967296 + v0) < 4294967296 by rw [← HQ.out]; exact hQb) (by rw [← hP]; show 4294967296 - 1 < gk ∨ r * 4294967296 + l < P; rw [← hY]; omega) (show 0 < v1 * 4294967296 + v0 by omega)
              have HM : Hid (gk - 1 < gk) := by show _ < _; omega
              have HGL := hide HG2
              by_cases hov : 4294967295 < r + v1
              · have hdone : gk - 1 = Q := by
                  rw [HQ.out]
                  exact HG2.done (show 0 < v1 * 4294967296 + v0 by omega) (HG2.wide (show R < v1 * 4294967296 + 4294967296 by omega) hv0b (by omega) (show 4294967296 ≤ r + v1 by omega))
                have HD : Hid ((gk : Int) - 1 = (Q : Int)) := by show _ = _; omega
                have hovi : (4294967295 : Int) < (r : Int) + (v1 : Int) := by omega
                by_cases hgb : 4294967295 < gk
                · have hgbi : (4294967295 : Int) < (gk : Int) := by omega
                  clear hgo hPb hdone HG2 hov hgb hPi hP
                  go_wp2_with fail
                  go_meet
                  exact ⟨by rw [← HD.out], rfl⟩
                · have hgbi : ¬ (4294967295 : Int) < (gk : Int) := by omega
                  have hcm : (Y : Int) < (P : Int) := by omega
                  have hPw : IntKind.u64.wrap ((gk : Int) * (v0 : Int)) = (P : Int) := by have := hPb (by omega); rw [hPi, wrap_u64]; omega
                  clear hgo hPb hdone HG2 hov hgb hPi hP
                  go_wp2_with fail
                  go_meet
                  exact ⟨by rw [← HD.out], rfl⟩
              · have hovi : ¬ (4294967295 : Int) < (r : Int) + (v1 : Int) := by omega
                have HOV := hide hov
                by_cases hgb : 4294967295 < gk
                · have hgbi : (4294967295 : Int) < (gk : Int) := by omega
                  clear hgo hPb HG2 hov hgb hPi hP
                  go_wp2_with fail
                  go_roundg (gk - 1)
                  case measure => exact HM.out
                  case rel => exact ⟨r + v1, by congr 1; omega, by congr 1, HGL.out, by have := HOV.out; omega, rfl⟩
                · have hgbi : ¬ (4294967295 : Int) < (gk : Int) := by omega
                  have hcm : (Y : Int) < (P : Int) := by omega
                  have hPw : IntKind.u64.wrap ((gk : Int) * (v0 : Int)) = (P : Int) := by have := hPb (by omega); rw [hPi, wrap_u64]; omega
                  clear hgo hPb HG2 hov hgb hPi hP
                  go_wp2_with fail
                  go_roundg (gk - 1)
                  case measure => exact HM.out
                  case rel => exact ⟨r + v1, by congr 1; omega, by congr 1, HGL.out, by have := HOV.out; omega, rfl⟩
            · have hdone : gk = Q := by
                rw [HQ.out]
                exact HG.out.done (show 0 < v1 * 4294967296 + v0 by omega) (by rw [← hP]; show P ≤ r * 4294967296 + l; rw [← hY]; omega)
              have HD := hide hdone
              have hgbi : ¬ (4294967295 : Int) < (gk : Int) := by omega
              have hcm : ¬ (Y : Int) < (P : Int) := by omega
              have hPw : IntKind.u64.wrap ((gk : Int) * (v0 : Int)) = (P : Int) := by have := hPb (by omega); rw [hPi, wrap_u64]; omega
              clear hgo hPb hdone hPi hP
              go_wp2_with fail
              go_meet
              exact ⟨by rw [HD.out], rfl⟩
        case rest =>
          obtain ⟨rfl, rfl⟩ := hcut
          clear HG0 hm0b hg0b hv1i hv1j hv1k hv1l
          obtain ⟨P0, hP0⟩ : ∃ P, P = Q * v0 := ⟨_, rfl⟩
          obtain ⟨P1, hP1⟩ : ∃ P, P = Q * v1 := ⟨_, rfl⟩
          have hp0 : P0 ≤ 18446744065119617025 := by rw [hP0]; exact ms_prod hQb hv0b
          have hp1 : P1 ≤ 18446744065119617025 := by rw [hP1]; exact ms_prod hQb hv1b.2
          have hms := ms2 (u2 := r1) hl4 hr0b hv0b hv1b.2 hQb (by omega) (by rw [← HRR.out]; exact HQ.out)
          rw [← hP0, ← hP1, ← HRR.out] at hms
          have e0 : IntKind.u64.wrap ((Q : Int) * (v0 : Int)) = (P0 : Int) := by rw [show (Q : Int) * (v0 : Int) = (P0 : Int) by rw [hP0]; exact (Int.natCast_mul _ _).symm, wrap_u64]; omega
          have e1 : IntKind.u64.wrap ((Q : Int) * (v1 : Int)) = (P1 : Int) := by rw [show (Q : Int) * (v1 : Int) = (P1 : Int) by rw [hP1]; exact (Int.natCast_mul _ _).symm, wrap_u64]; omega
          clear hP0 hP1
          obtain ⟨a0, ha0⟩ : ∃ a0, a0 = P0 % 4294967296 := ⟨_, rfl⟩
          obtain ⟨k0, hk0⟩ : ∃ k0, k0 = P0 / 4294967296 := ⟨_, rfl⟩
          rw [← ha0, ← hk0] at hms
          obtain ⟨C1, hC1⟩ : ∃ C1, C1 = k0 + P1 := ⟨_, rfl⟩
          rw [← hC1] at hms
          obtain ⟨a1, ha1⟩ : ∃ a1, a1 = C1 % 4294967296 := ⟨_, rfl⟩
          obtain ⟨k1, hk1⟩ : ∃ k1, k1 = C1 / 4294967296 := ⟨_, rfl⟩
          rw [← ha1, ← hk1] at hms
          obtain ⟨d0, hd0⟩ : ∃ d0, d0 = msD l a0 0 := ⟨_, rfl⟩
          rw [← hd0] at hms
          obtain ⟨d1, hd1⟩ : ∃ d1, d1 = msD r0 a1 d0 := ⟨_, rfl⟩
          obtain ⟨x0, hx0⟩ : ∃ x0, x0 = msX l a0 0 := ⟨_, rfl⟩
          obtain ⟨x1, hx1⟩ : ∃ x1, x1 = msX r0 a1 d0 := ⟨_, rfl⟩
          rw [← hd1, ← hx0, ← hx1] at hms
          obtain ⟨hms0, hms1, hms2⟩ := hms
          have hd0b : d0 ≤ 1 := by rw [hd0]; exact msD_le _ _ _
          have hd1b : d1 ≤ 1 := by rw [hd1]; exact msD_le _ _ _
          obtain ⟨T0, hT0⟩ : ∃ T0, T0 = (l + 18446744073709551616 - a0) % 18446744073709551616 := ⟨_, rfl⟩
          obtain ⟨S1, hS1⟩ : ∃ S1, S1 = (r0 + 18446744073709551616 - a1) % 18446744073709551616 := ⟨_, rfl⟩
          obtain ⟨T1, hT1⟩ : ∃ T1, T1 = (S1 + 18446744073709551616 - d0) % 18446744073709551616 := ⟨_, rfl⟩
          have f0 : (P0 : Int) % 4294967296 = (a0 : Int) := by omega
          have f1 : (P0 : Int) / 4294967296 = (k0 : Int) := by omega
          have f2 : IntKind.u64.wrap ((l : Int) - (a0 : Int)) = (T0 : Int) := by rw [wrap_u64]; omega
          have f3 : IntKind.u64.wrap (T0 : Int) = (T0 : Int) := by rw [wrap_u64]; omega
          have f4 : (T0 : Int) % 4294967296 = (x0 : Int) := by rw [hx0]; unfold msX; omega
          have f5 : (T0 : Int) / 9223372036854775808 = (d0 : Int) := by rw [hd0]; unfold msD; split <;> omega
          have f6 : (k0 : Int) + (P1 : Int) = (C1 : Int) := by omega
          have f7 : (C1 : Int) % 4294967296 = (a1 : Int) := by omega
          have f8 : (C1 : Int) / 4294967296 = (k1 : Int) := by omega
          have f9 : IntKind.u64.wrap ((r0 : Int) - (a1 : Int)) = (S1 : Int) := by rw [wrap_u64]; omega
          have f10 : IntKind.u64.wrap ((S1 : Int) - (d0 : Int)) = (T1 : Int) := by rw [wrap_u64]; omega
          have f11 : (T1 : Int) % 4294967296 = (x1 : Int) := by rw [hx1]; unfold msX; omega
          have f12 : (T1 : Int) / 9223372036854775808 = (d1 : Int) := by rw [hd1]; unfold msD; split <;> omega
          have f13 : (r1 : Int) - (k1 : Int) = (d1 : Int) := by omega
          have f14 : (Q : Int) % 4294967296 = (Q : Int) := by omega
          have g0 : (P0 : Int) < 18446744073709551616 := by omega
          have g1 : (P1 : Int) < 18446744073709551616 := by omega
          have g2 : (C1 : Int) < 18446744073709551616 := by omega
          have g3 : IntKind.u64.wrap (d1 : Int) = (d1 : Int) := by rw [wrap_u64]; omega
          have g4 : IntKind.u64.wrap (C1 : Int) = (C1 : Int) := by rw [wrap_u64]; omega
          have hcm1 : (1 : Int) + (i : Int) = (i : Int) + 1 := by omega
          have i0b : (0 : Int) ≤ (i : Int) + 1 := by omega
          have i0c : (0 : Int) ≤ (i : Int) + 2 := by omega
          have HST := hide (hKb.out.step rfl hU4d HLU.out HQ.out hms1 hms2 hng1 hng2 hng3 hbs1 hbs2)
          clear hV2 hR64 hms0 hms1 hms2 hd0 hd1 hx0 hx1 hT0 hT1 hS1 ha0 ha1 hk0 hk1 hC1 hp0 hp1
          go_wp2_with fail
          refine wp_loop_rounds 3 ?_
          rw [rounds_succ]
          go_wp2_with fail
          rw [rounds_succ]
          go_wp2_with fail
          rw [rounds_succ]
          go_wp2_with fail
          go_roundg i
          case measure => omega
          case rel => exact ⟨_, _, rfl, HST⟩
end Go.Proofs.YtbdbpcllndajgaaGreatDoor
