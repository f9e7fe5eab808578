/- Numbers of 32-bit words: length, TrailingZeroBits, IsInt64, Int64; dayref1.Small. -/
import Derived.Test.YthmjkhlndphldaaGreatDoorQbC
import Derived.Laws.BitsLemmas
namespace Go.Proofs.YthmjkhlndphldaaGreatDoor
open Go Go.RowKit
set_option linter.unusedVariables false

/-- cells of the words -/
theorem qcell {w : World} {b o n : Nat} {l : List Nat} (h : Rd w 1 uEnc (some ⟨b, o, none⟩) n l) (k : Nat) (hk : k < l.length) : w.cell? ⟨b, o + k, none⟩ = some (.int .u32 (l[k] : Int)) := by
  obtain ⟨b', o', e, hc⟩ := h.2 (by have := h.1; omega)
  injection e with e
  injection e with e1 e2
  subst e1 e2
  have := hc k 0 _ hk rfl
  rwa [Nat.mul_one, Nat.add_zero] at this
theorem qdigs_one {p : Nat} (h0 : p ≠ 0) (h : p < 4294967296) : qdigs p = [p] := by
  rw [qdigs_s h0, show p / 4294967296 = 0 from by omega, qdigs_0, show p % 4294967296 = p from by omega]
theorem qdigs_two {p : Nat} (h1 : 4294967296 ≤ p) (h : p < 18446744073709551616) : qdigs p = [p % 4294967296, p / 4294967296] := by
  rw [qdigs_s (by omega), qdigs_one (by omega) (by omega)]
theorem qdigs_more {p : Nat} (h1 : 18446744073709551616 ≤ p) : 3 ≤ (qdigs p).length := by
  rw [qdigs_s (by omega), qdigs_s (by omega), qdigs_s (by omega)]
  simp only [List.length_cons]; omega

/-- how many bits the greatest word has -/
def Bits (t n : Nat) : Prop := n ≤ 32 ∧ t < 2 ^ n ∧ (0 < n → 2 ^ (n - 1) ≤ t)
def BitAt (t i s : Nat) : Prop := s = t / 2 ^ i ∧ i ≤ 32 ∧ (0 < i → 2 ^ (i - 1) ≤ t)
theorem BitAt.succ {t i s : Nat} (h : BitAt t i s) (ht : t < 4294967296) (h0 : s ≠ 0) : BitAt t (i + 1) (s / 2) := by
  obtain ⟨rfl, h2, h3⟩ := h
  have hp : 2 ^ i ≤ t := by
    rcases Nat.lt_or_ge t (2 ^ i) with h | h
    · exact absurd (Nat.div_eq_of_lt h) h0
    · exact h
  refine ⟨by rw [Nat.div_div_eq_div_mul, ← Nat.pow_succ], ?_, fun _ => by simpa using hp⟩
  have : (2 : Nat) ^ i < 2 ^ 32 := Nat.lt_of_le_of_lt hp (by omega)
  have := (Nat.pow_lt_pow_iff_right (by omega)).1 this
  omega
theorem BitAt.done {t i s : Nat} (h : BitAt t i s) (h0 : s = 0) : Bits t i := by
  obtain ⟨h1, h2, h3⟩ := h
  refine ⟨h2, ?_, h3⟩
  rcases Nat.lt_or_ge t (2 ^ i) with h | h
  · exact h
  · have := Nat.div_pos h (Nat.pow_pos (by omega) : 0 < 2 ^ i)
    omega
theorem qlength_any (l : List Nat) (hd : QDig l) (A : Option Addr) (n c : Nat) (w : World) (h : Rd w 1 uEnc A n l) (h0 : 0 < n) (hn : n ≤ 900) (t : Nat) (ht : ∃ hk : n - 1 < l.length, l[n - 1] = t) :
    Calls Tryz.prog 202 #[.slice A n c] w fun e w' => ∃ k : Nat, e = .returned (.int .i64 (((n : Int) - 1) * 32 + k)) ∧ Bits t k ∧ ∃ m, w' = w.drewN m := by
  obtain ⟨hk, ht⟩ := ht
  obtain ⟨b, o, rfl, _⟩ := h.2 h0
  have hc := qcell h (n - 1) hk
  have h32 := hd l[n - 1] (List.getElem_mem hk)
  rw [ht] at hc h32
  obtain ⟨j, rfl⟩ : ∃ j, n = j + 1 := ⟨n - 1, by omega⟩
  rw [Nat.add_sub_cancel] at hc
  have j0 : (0 : Int) ≤ (j : Int) := by omega
  have j1 : ((j + 1 : Nat) : Int) - 1 = (j : Int) := by omega
  have j2 : (j : Int) < ((j + 1 : Nat) : Int) := by omega
  have j3 : (((j + 1 : Nat) : Int) == 0) = false := by rw [beq_eq_false_iff_ne]; omega
  rw [j1]
  clear h hd ht hk
  go_enter Tryz.func202, Tryz.ntmps202
  go_wp2_with fail
  go_loopw [3, 4] (fun iv tv wr => ∃ i s : Nat, iv = .int .i64 i ∧ tv = .int .u32 s ∧ BitAt t i s ∧ ∃ m, wr = w.drewN m) (fun _ tv _ => (intOf tv).toNat)
  case atStart => exact ⟨0, t, rfl, rfl, ⟨by simp, by omega, fun h => absurd h (by omega)⟩, 0, rfl⟩
  case round =>
    obtain ⟨i, s, rfl, rfl, hB, m, rfl⟩ := hrel
    have HB := hide hB
    have hi32 := hB.2.1
    clear hB
    by_cases hs : s = 0
    · subst hs
      have HD := hide (HB.out.done rfl)
      go_wp2_with fail
      go_ret
      exact ⟨i, rfl, HD.out, m, rfl⟩
    · have HN := hide (HB.out.succ h32 hs)
      have e1 : ((s : Int) != 0) = true := by rw [bne_iff_ne]; omega
      have hs0 : 0 < s := by omega
      clear hs
      go_wp2_with fail
      go_roundw
      case rel => exact ⟨i + 1, s / 2, by go_num, by go_num, HN.out, m, rfl⟩
      case measure => simp [intOf]; omega

theorem u64_63 (n : Int) (h0 : 0 ≤ n) (h1 : n < 2 ^ 63) : IntKind.u64.wrap n = n := by rw [wrap_u64]; omega
theorem and_one (m : Nat) (h : m < 4294967296) : bits BinOp.and IntKind.u64 (IntKind.u64.wrap (m : Int)) 1 = ((m % 2 : Nat) : Int) := by
  have e := (bits_nat .u64 63 (by decide) u64_63 m 1 (by omega) (by decide)).1
  rw [u64_63 _ (by omega) (by omega)]
  rw [Nat.and_one_is_mod] at e
  simpa using e
theorem qbit_at (x : Nat) (hx : x < 4294967296) (b o c i : Nat) (w : World) (hc : w.cell? ⟨b, o + i / 32, none⟩ = some (.int .u32 (x : Int))) (hi64 : i < 64) :
    Calls Tryz.prog 235 #[.slice (some ⟨b, o, none⟩) 2 c, .int .i64 (i : Int)] w fun e w' => e = .returned (.int .u64 ((x / 2 ^ (i % 32) % 2 : Nat) : Int)) ∧ ∃ m, w' = w.drewN m := by
  have e1 : ¬ ((i : Int) < 0) := by omega
  have e2 : ¬ (2 : Int) ≤ (i : Int) / 32 := by omega
  have e3 : (i : Int) / 32 < 2 := by omega
  go_enter Tryz.func235, Tryz.ntmps235
  go_wp2_with fail
  go_ret
  refine ⟨?_, 0, rfl⟩
  have hk : x / 2 ^ (i % 32) ≤ x := Nat.div_le_self _ _
  have hc2 : ((x : Int) / 2 ^ (i % 32)) = ((x / 2 ^ (i % 32) : Nat) : Int) := by simp
  show Ending.returned (Value.int IntKind.u64 (bits BinOp.and IntKind.u64 (IntKind.u64.wrap ((x : Int) / 2 ^ (i % 32))) 1)) = _
  rw [hc2, and_one _ (by omega)]
  simp

/-- the word that bit i is in -/
def wordAt (p i : Nat) : Nat := if i < 32 then p % 4294967296 else p / 4294967296
theorem word_bit (p i : Nat) (hi : i < 64) : wordAt p i / 2 ^ (i % 32) % 2 = p / 2 ^ i % 2 := by
  rw [← Nat.toNat_testBit, ← Nat.toNat_testBit]
  congr 1
  have e : p = 2 ^ 32 * (p / 4294967296) + p % 4294967296 := by omega
  have h := Nat.testBit_two_pow_mul_add (p / 4294967296) (b := p % 4294967296) (i := 32) (by omega) i
  rw [← e] at h
  rw [h]
  unfold wordAt
  by_cases h32 : i < 32
  · rw [if_pos h32, if_pos h32, show i % 32 = i from by omega]
  · rw [if_neg h32, if_neg h32, show i % 32 = i - 32 from by omega]
theorem low_zero {p : Nat} (h : ∀ j, j < 63 → p / 2 ^ j % 2 = 0) : p % 9223372036854775808 = 0 := by
  have e : p % 2 ^ 63 = 0 := by
    apply Nat.eq_of_testBit_eq
    intro j
    rw [Nat.testBit_mod_two_pow, Nat.zero_testBit]
    by_cases hj : j < 63
    · have := h j hj
      rw [← Nat.toNat_testBit] at this
      cases hb : p.testBit j with
      | false => simp
      | true => rw [hb] at this; cases this
    · simp [hj]
  have e2 : (2 : Nat) ^ 63 = 9223372036854775808 := by decide
  rw [e2] at e
  exact e
theorem top_bit {p : Nat} (h1 : 9223372036854775808 ≤ p) (h2 : p < 18446744073709551616) : p / 2 ^ 63 % 2 = 1 := by
  have e2 : (2 : Nat) ^ 63 = 9223372036854775808 := by decide
  rw [e2]; omega
theorem one_bit (i : Nat) (hi : i < 63) : 9223372036854775808 / 2 ^ i % 2 = 0 := by
  rw [← Nat.toNat_testBit, show (9223372036854775808 : Nat) = 2 ^ 63 from by decide, Nat.testBit_two_pow]
  simp; omega

theorem qtzb_any {w : World} {B g : Nat} {x : Int} (h : QAt w B g x) (h1 : 9223372036854775808 ≤ x.natAbs) (h2 : x.natAbs < 18446744073709551616) :
    Calls Tryz.prog 203 #[.pointer (some ⟨g, 0, none⟩)] w fun e w' => ∃ i : Nat, e = .returned (.int .u64 i) ∧ (i = 63 ↔ x.natAbs = 9223372036854775808) ∧ ∃ m, w' = w.drewN m := by
  obtain ⟨A, c, c1, hr, _, hc⟩ := h.wds
  obtain ⟨p, hp⟩ : ∃ p, p = x.natAbs := ⟨_, rfl⟩
  rw [← hp] at c1 hr hc h1 h2 ⊢
  rw [qdigs_two (by omega) h2] at c1 hr hc
  simp only [List.length_cons, List.length_nil, Nat.zero_add, Nat.reduceAdd] at c1 hr hc
  obtain ⟨b, o, rfl, _⟩ := hr.2 (by omega)
  have d0 := qcell hr 0 (by simp)
  have d1 := qcell hr 1 (by simp)
  rw [Nat.add_zero] at d0
  simp only [List.getElem_cons_zero, List.getElem_cons_succ] at d0 d1
  have hwd : ∀ i, i < 64 → w.cell? ⟨b, o + i / 32, none⟩ = some (.int .u32 (wordAt p i : Int)) := by
    intro i hi
    unfold wordAt
    by_cases h32 : i < 32
    · rw [if_pos h32, show i / 32 = 0 from by omega, Nat.add_zero]; exact d0
    · rw [if_neg h32, show i / 32 = 1 from by omega]; exact d1
  have hwl : ∀ i, wordAt p i < 4294967296 := by intro i; unfold wordAt; split <;> omega
  clear d0 d1 hp hr
  go_enter Tryz.func203, Tryz.ntmps203
  go_wp2_with fail
  go_loopw [3] (fun iv wr => ∃ i : Nat, i ≤ 63 ∧ iv = .int .u64 i ∧ (∀ j, j < i → p / 2 ^ j % 2 = 0) ∧ ∃ m, wr = w.drewN m) (fun iv _ => 64 - (intOf iv).toNat)
  case atStart => exact ⟨0, by omega, rfl, (fun j hj => absurd hj (by omega)), 0, rfl⟩
  case round =>
    obtain ⟨i, hi, rfl, hz, m, rfl⟩ := hrel
    have HZ := hide hz
    clear hz
    have hcd : (w.drewN m).cell? ⟨b, o + i / 32, none⟩ = some (.int .u32 (wordAt p i : Int)) := hwd i (by omega)
    have hc1 : (w.drewN m).cell? ⟨g, 1, none⟩ = some (.slice (some ⟨b, o, none⟩) 2 c) := c1
    have hB := qbit_at (wordAt p i) (hwl i) b o c i _ hcd (by omega)
    rw [word_bit p i (by omega)] at hB
    have HB := hide hB
    have hi' : (i : Int) ≤ 63 := by omega
    clear hB hcd
    by_cases hb : p / 2 ^ i % 2 = 0
    · have h63 : i < 63 := by
        rcases Nat.lt_or_ge i 63 with h | h
        · exact h
        · have : i = 63 := by omega
          subst this
          rw [top_bit h1 h2] at hb; omega
      rw [hb] at HB
      have HN : Hid (∀ j, j < i + 1 → p / 2 ^ j % 2 = 0) := by
        intro j hj
        by_cases e : j = i
        · subst e; exact hb
        · exact HZ.out j (by omega)
      clear hb
      go_wp2_with fail
      refine HB.out.mono ?_
      rintro e w2 ⟨rfl, m2, rfl⟩
      go_wp2_with fail
      go_roundw
      case rel => exact ⟨i + 1, by omega, by go_num, HN.out, m + m2, rfl⟩
      case measure => simp [intOf]; omega
    · have hb1 : p / 2 ^ i % 2 = 1 := by omega
      have HI : Hid (i = 63 ↔ p = 9223372036854775808) := by
        show _ ↔ _
        constructor
        · rintro rfl
          have := low_zero HZ.out
          omega
        · intro e
          rcases Nat.lt_or_ge i 63 with h | h
          · rw [e, one_bit i h] at hb; omega
          · omega
      rw [hb1] at HB
      clear hb hb1
      go_wp2_with fail
      refine HB.out.mono ?_
      rintro e w2 ⟨rfl, m2, rfl⟩
      go_wp2_with fail
      go_ret
      exact ⟨i, rfl, HI.out, m + m2, rfl⟩

theorem u64_64 (n : Int) (h0 : 0 ≤ n) (h1 : n < 2 ^ 64) : IntKind.u64.wrap n = n := by rw [wrap_u64]; omega
theorem or_words (lo hi : Nat) (h1 : lo < 4294967296) (h2 : hi < 4294967296) : lo ||| (hi * 4294967296) = lo + 4294967296 * hi := by
  have h := Nat.two_pow_add_eq_or_of_lt (i := 32) (b := lo) (by omega) hi
  rw [Nat.or_comm, Nat.mul_comm hi]
  rw [show (2 : Nat) ^ 32 = 4294967296 from by decide] at h
  omega
theorem qu64_0 {w : World} {g : Nat} {A : Option Addr} {c : Nat} (c1 : w.cell? ⟨g, 1, none⟩ = some (.slice A 0 c)) :
    Calls Tryz.prog 204 #[.pointer (some ⟨g, 0, none⟩)] w fun e w' => e = .returned (.int .u64 0) ∧ ∃ m, w' = w.drewN m := by
  go_enter Tryz.func204, Tryz.ntmps204
  go_wp2_with fail
  go_ret
  exact ⟨rfl, 0, rfl⟩
theorem qu64_1 {w : World} {g b o c p : Nat} (c1 : w.cell? ⟨g, 1, none⟩ = some (.slice (some ⟨b, o, none⟩) 1 c)) (d0 : w.cell? ⟨b, o, none⟩ = some (.int .u32 (p : Int))) (hp : p < 4294967296) :
    Calls Tryz.prog 204 #[.pointer (some ⟨g, 0, none⟩)] w fun e w' => e = .returned (.int .u64 (p : Int)) ∧ ∃ m, w' = w.drewN m := by
  go_enter Tryz.func204, Tryz.ntmps204
  go_wp2_with fail
  go_ret
  exact ⟨rfl, 0, rfl⟩
theorem qu64_2 {w : World} {g b o c lo hi : Nat} (c1 : w.cell? ⟨g, 1, none⟩ = some (.slice (some ⟨b, o, none⟩) 2 c)) (d0 : w.cell? ⟨b, o, none⟩ = some (.int .u32 (lo : Int))) (d1 : w.cell? ⟨b, o + 1, none⟩ = some (.int .u32 (hi : Int))) (h1 : lo < 4294967296) (h2 : hi < 4294967296) :
    Calls Tryz.prog 204 #[.pointer (some ⟨g, 0, none⟩)] w fun e w' => e = .returned (.int .u64 ((lo + 4294967296 * hi : Nat) : Int)) ∧ ∃ m, w' = w.drewN m := by
  go_enter Tryz.func204, Tryz.ntmps204
  go_wp2_with fail
  go_ret
  refine ⟨?_, 0, rfl⟩
  show Ending.returned (Value.int IntKind.u64 (bits BinOp.or IntKind.u64 (lo : Int) ((hi : Int) * 4294967296))) = _
  have e := (bits_nat .u64 64 (by decide) u64_64 lo (hi * 4294967296) (by omega) (by omega)).2
  rw [or_words lo hi h1 h2] at e
  rw [show ((hi : Int) * 4294967296) = ((hi * 4294967296 : Nat) : Int) from by omega, e]

theorem qu64_any {w : World} {B g : Nat} {x : Int} (h : QAt w B g x) (hp : x.natAbs < 18446744073709551616) :
    Calls Tryz.prog 204 #[.pointer (some ⟨g, 0, none⟩)] w fun e w' => e = .returned (.int .u64 (x.natAbs : Int)) ∧ ∃ m, w' = w.drewN m := by
  obtain ⟨A, c, c1, hr, _, hc⟩ := h.wds
  obtain ⟨p, hp'⟩ : ∃ p, p = x.natAbs := ⟨_, rfl⟩
  rw [← hp'] at c1 hr hp ⊢
  by_cases h0 : p = 0
  · subst h0
    rw [qdigs_0] at c1
    exact qu64_0 c1
  · by_cases h1 : p < 4294967296
    · rw [qdigs_one h0 h1] at c1 hr
      obtain ⟨b, o, rfl, _⟩ := hr.2 (by simp)
      have d0 := qcell hr 0 (by simp)
      rw [Nat.add_zero] at d0
      exact qu64_1 c1 d0 h1
    · rw [qdigs_two (by omega) hp] at c1 hr
      obtain ⟨b, o, rfl, _⟩ := hr.2 (by simp)
      have d0 := qcell hr 0 (by simp)
      have d1 := qcell hr 1 (by simp)
      rw [Nat.add_zero] at d0
      have hq := qu64_2 (lo := p % 4294967296) (hi := p / 4294967296) c1 d0 d1 (by omega) (by omega)
      rwa [show p % 4294967296 + 4294967296 * (p / 4294967296) = p from by omega] at hq

theorem qint64_any {w : World} {B g : Nat} {x : Int} (h : QAt w B g x) (hx : in64 x = true) :
    Calls Tryz.prog 168 #[.pointer (some ⟨g, 0, none⟩)] w fun e w' => e = .returned (.int .i64 x) ∧ ∃ m, w' = w.drewN m := by
  have hr : -9223372036854775808 ≤ x ∧ x ≤ 9223372036854775807 := by unfold in64 at hx; simpa using hx
  clear hx
  have c0 := h.c0
  have h2' : x.natAbs < 18446744073709551616 := by omega
  by_cases hs : x < 0
  · have hd : decide (x < 0) = true := by simpa using hs
    rw [hd] at c0
    have hwr := hide (show wrap64 (-wrap64 (x.natAbs : Int)) = x by simp only [wrap64]; omega)
    clear hd
    go_enter Tryz.func168, Tryz.ntmps168
    go_wp2_with fail
    refine (qu64_any h h2').mono ?_
    rintro e w1 ⟨rfl, m, rfl⟩
    have c0' : (w.drewN m).cell? ⟨g, 0, none⟩ = some (.bool true) := c0
    go_wp2_with fail
    go_ret
    exact ⟨ret_int (by first | exact hwr.out | omega), m, rfl⟩
  · have hd : decide (x < 0) = false := by simpa using hs
    rw [hd] at c0
    have hwr := hide (show wrap64 (x.natAbs : Int) = x by simp only [wrap64]; omega)
    clear hd
    go_enter Tryz.func168, Tryz.ntmps168
    go_wp2_with fail
    refine (qu64_any h h2').mono ?_
    rintro e w1 ⟨rfl, m, rfl⟩
    have c0' : (w.drewN m).cell? ⟨g, 0, none⟩ = some (.bool false) := c0
    go_wp2_with fail
    go_ret
    exact ⟨ret_int (by first | exact hwr.out | omega), m, rfl⟩

theorem qlength_0 (A : Option Addr) (c : Nat) (w : World) : Calls Tryz.prog 202 #[.slice A 0 c] w fun e w' => e = .returned (.int .i64 0) ∧ ∃ m, w' = w.drewN m := by
  go_enter Tryz.func202, Tryz.ntmps202
  go_wp2_with fail
  go_ret
  exact ⟨rfl, 0, rfl⟩
/-- the length in bits, near 64 -/
theorem qlen_any {w : World} {B g : Nat} {x : Int} (h : QAt w B g x) (hp : x.natAbs < 79228162514264337593543950336) :
    ∃ A n c, w.cell? ⟨g, 1, none⟩ = some (.slice A n c) ∧ Calls Tryz.prog 202 #[.slice A n c] w fun e w' => ∃ L : Int, e = .returned (.int .i64 L) ∧ (L < 64 ↔ x.natAbs < 9223372036854775808) ∧ (L = 64 ↔ 9223372036854775808 ≤ x.natAbs ∧ x.natAbs < 18446744073709551616) ∧ ∃ m, w' = w.drewN m := by
  obtain ⟨A, c, c1, hr, _, hc⟩ := h.wds
  obtain ⟨p, hp'⟩ : ∃ p, p = x.natAbs := ⟨_, rfl⟩
  rw [← hp'] at c1 hr hp ⊢
  refine ⟨A, _, c, c1, ?_⟩
  by_cases h0 : p = 0
  · subst h0
    rw [qdigs_0]
    refine (qlength_0 A c w).mono ?_
    rintro e w1 ⟨rfl, m, rfl⟩
    exact ⟨0, rfl, by omega, by omega, m, rfl⟩
  · by_cases h1 : p < 4294967296
    · rw [qdigs_one h0 h1] at hr ⊢
      refine (qlength_any [p] (fun y hy => by simp at hy; omega) A 1 c w hr (by omega) (by omega) p ⟨by simp, rfl⟩).mono ?_
      rintro e w1 ⟨k, rfl, hk, m, rfl⟩
      have := hk.1
      exact ⟨_, rfl, by omega, by omega, m, rfl⟩
    · by_cases h2 : p < 18446744073709551616
      · have hd := qdigs_dig p
        rw [qdigs_two (by omega) h2] at hr hd ⊢
        refine (qlength_any _ hd A 2 c w hr (by omega) (by omega) (p / 4294967296) ⟨by simp, rfl⟩).mono ?_
        rintro e w1 ⟨k, rfl, ⟨hk1, hk2, hk3⟩, m, rfl⟩
        have hlow : p < 9223372036854775808 → k ≤ 31 := by
          intro hp1
          rcases Nat.lt_or_ge 31 k with h | h
          · have : k = 32 := by omega
            subst this
            have := hk3 (by omega)
            omega
          · exact h
        have hhigh : ¬ p < 9223372036854775808 → k = 32 := by
          intro hp1
          rcases Nat.lt_or_ge k 32 with h | h
          · have : 2 ^ k ≤ 2 ^ 31 := Nat.pow_le_pow_right (by omega) (by omega)
            omega
          · omega
        refine ⟨_, rfl, ?_, ?_, m, rfl⟩ <;> omega
      · have hd := qdigs_dig p
        have e3 : qdigs p = [p % 4294967296, p / 4294967296 % 4294967296, p / 4294967296 / 4294967296] := by
          rw [qdigs_s (by omega), qdigs_two (by omega) (by omega)]
        rw [e3] at hr hd ⊢
        refine (qlength_any _ hd A 3 c w hr (by omega) (by omega) (p / 4294967296 / 4294967296) ⟨by simp, rfl⟩).mono ?_
        rintro e w1 ⟨k, rfl, ⟨hk1, hk2, hk3⟩, m, rfl⟩
        have hk0 : 0 < k := by
          rcases Nat.eq_zero_or_pos k with h | h
          · subst h; omega
          · exact h
        refine ⟨_, rfl, ?_, ?_, m, rfl⟩ <;> omega

theorem in64_iff (x : Int) : in64 x = true ↔ x.natAbs < 9223372036854775808 ∨ (x < 0 ∧ x.natAbs = 9223372036854775808) := by
  unfold in64
  rw [Bool.and_eq_true, decide_eq_true_eq, decide_eq_true_eq]
  omega
theorem qis64_any {w : World} {B g : Nat} {x : Int} (h : QAt w B g x) (hp : x.natAbs < 79228162514264337593543950336) :
    Calls Tryz.prog 167 #[.pointer (some ⟨g, 0, none⟩)] w fun e w' => e = .returned (.bool (in64 x)) ∧ ∃ m, w' = w.drewN m := by
  obtain ⟨A, n, c, c1, hlen⟩ := qlen_any h hp
  have c0 := h.c0
  have HL := hide hlen
  clear hlen
  by_cases h1 : x.natAbs < 9223372036854775808
  · have hi : in64 x = true := (in64_iff x).2 (.inl h1)
    have HI := hide hi
    clear hi
    go_enter Tryz.func167, Tryz.ntmps167
    go_wp2_with fail
    refine HL.out.mono ?_
    rintro e w1 ⟨L, rfl, hL1, hL2, m, rfl⟩
    have hL := hL1.2 h1
    clear hL1 hL2
    go_wp2_with fail
    go_ret
    exact ⟨by rw [HI.out]; rfl, m, rfl⟩
  · by_cases h2 : x.natAbs < 18446744073709551616
    · by_cases hs : x < 0
      · have hd : decide (x < 0) = true := by simpa using hs
        rw [hd] at c0
        go_enter Tryz.func167, Tryz.ntmps167
        go_wp2_with fail
        refine HL.out.mono ?_
        rintro e w1 ⟨L, rfl, hL1, hL2, m, rfl⟩
        obtain rfl := hL2.2 ⟨by omega, h2⟩
        clear hL1 hL2
        have c0' : (w.drewN m).cell? ⟨g, 0, none⟩ = some (.bool true) := c0
        have hm := h.below (bdrewN (Below.refl _ w) m)
        go_wp2_with fail
        refine (qtzb_any hm (by omega) h2).mono ?_
        rintro e w2 ⟨i, rfl, hi, m2, rfl⟩
        have HI : Hid (in64 x = decide (i = 63)) := by
          show _ = _
          rw [Bool.eq_iff_iff, in64_iff, decide_eq_true_eq, hi]
          omega
        clear hi
        go_wp2_with fail
        go_ret
        refine ⟨?_, m + m2, rfl⟩
        rw [HI.out]
        show Ending.returned (Value.bool ((i : Int) == 63)) = _
        rw [show ((i : Int) == 63) = decide (i = 63) from by rw [Bool.eq_iff_iff, beq_iff_eq, decide_eq_true_eq]; omega]
      · have hi : in64 x = false := by rw [Bool.eq_false_iff]; intro e; have := (in64_iff x).1 e; omega
        have HI := hide hi
        have hd : decide (x < 0) = false := by simpa using hs
        rw [hd] at c0
        clear hi
        go_enter Tryz.func167, Tryz.ntmps167
        go_wp2_with fail
        refine HL.out.mono ?_
        rintro e w1 ⟨L, rfl, hL1, hL2, m, rfl⟩
        obtain rfl := hL2.2 ⟨by omega, h2⟩
        clear hL1 hL2
        have c0' : (w.drewN m).cell? ⟨g, 0, none⟩ = some (.bool false) := c0
        go_wp2_with fail
        go_ret
        exact ⟨by rw [HI.out]; rfl, m, rfl⟩
    · have hi : in64 x = false := by rw [Bool.eq_false_iff]; intro e; have := (in64_iff x).1 e; omega
      have HI := hide hi
      clear hi
      go_enter Tryz.func167, Tryz.ntmps167
      go_wp2_with fail
      refine HL.out.mono ?_
      rintro e w1 ⟨L, rfl, hL1, hL2, m, rfl⟩
      have hL : ¬ L < 64 := fun e => h1 (hL1.1 e)
      have hLe : (L == 64) = false := by rw [beq_eq_false_iff_ne]; intro e; have := hL2.1 e; omega
      clear hL1 hL2
      go_wp2_with fail
      go_ret
      refine ⟨?_, m, rfl⟩
      rw [HI.out]
      show Ending.returned (Value.bool (decide (L < 64))) = _
      rw [decide_eq_false (by omega)]

theorem refSmall_any {w : World} {B g : Nat} {x : Int} (h : QAt w B g x) (hp : x.natAbs < 79228162514264337593543950336) :
    Calls Tryz.prog 124 #[.pointer (some ⟨g, 0, none⟩)] w fun e w' => e = .returned (.tuple #[.int .i64 (smV x), .int .i64 (smE x)]) ∧ Below w.heap.size w w' := by
  cases hx : in64 x with
  | true =>
    have HX := hide hx
    have h1 : Hid (smV x = x) := if_pos hx
    have h2 : Hid (smE x = 0) := if_pos hx
    clear hx
    go_enter Tryz.func124, Tryz.ntmps124
    go_wp2_with fail
    refine (qis64_any h hp).mono ?_
    rintro e w1 ⟨rfl, n1, rfl⟩
    rw [HX.out]
    go_wp2_with fail
    refine (qint64_any (h.below (bdrewN (Below.refl _ w) n1)) HX.out).mono ?_
    rintro e w2 ⟨rfl, n2, rfl⟩
    go_wp2_with fail
    go_ret2
    exact ⟨by rw [h1.out, h2.out]; rfl, bdrewN (Below.refl _ w) (n1 + n2)⟩
  | false =>
    have HX := hide hx
    have h1 : Hid (smV x = 0) := if_neg (by rw [hx]; decide)
    have h2 : Hid (smE x = 10) := if_neg (by rw [hx]; decide)
    clear hx
    go_enter Tryz.func124, Tryz.ntmps124
    go_wp2_with fail
    refine (qis64_any h hp).mono ?_
    rintro e w1 ⟨rfl, n1, rfl⟩
    rw [HX.out]
    go_wp2_with fail
    go_ret2
    exact ⟨by rw [h1.out, h2.out]; rfl, bdrewN (Below.refl _ w) n1⟩
end Go.Proofs.YthmjkhlndphldaaGreatDoor
