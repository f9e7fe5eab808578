/- Numbers of 32-bit words: a product by one word, a quotient of plain numbers. (Not built: the slots are guessed.) -/
import Derived.Test.YtfkhcdcmcplfoaaGreatDoorQbR
import Derived.Test.YtfkhcdcmcplfoaaGreatDoorQbX
import Derived.Test.YtfkhcdcmcplfoaaGreatDoorPairF
import Derived.Deep.CutRange
import Derived.Deep.RegionLaw
import Derived.Test.YtfkhcdcmcplfoaaGreatDoorQbF
import Derived.BigQuiet
import Derived.Deep.QuietTactic
namespace Go.Proofs.YtfkhcdcmcplfoaaGreatDoor
open Go Go.RowKit
set_option linter.unusedVariables false

/-- what a reckoning of words hands back: the words of v, in memory of its own -/
def GivesW (w : World) (v : Nat) (e : Ending) (w' : World) : Prop :=
  ∃ A c, e = .returned (.slice A (qdigs v).length c) ∧ Rd w' 1 uEnc A (qdigs v).length (qdigs v) ∧ (∀ a o s, A = some ⟨a, o, s⟩ → w.heap.size ≤ a) ∧ (qdigs v).length ≤ c ∧ Below w.heap.size w w'
theorem sgn_mul2 (x y : Int) : sgn (decide (x < 0) != decide (y < 0)) (x.natAbs * y.natAbs) = x * y := by
  obtain ⟨p, hp⟩ : ∃ p, p = x.natAbs := ⟨_, rfl⟩
  obtain ⟨q, hq⟩ : ∃ q, q = y.natAbs := ⟨_, rfl⟩
  rw [← hp, ← hq]
  unfold sgn
  by_cases h1 : x < 0 <;> by_cases h2 : y < 0
  · rw [decide_eq_true h1, decide_eq_true h2, if_neg (by decide), show x = -(p : Int) from by omega, show y = -(q : Int) from by omega, Int.neg_mul_neg]
    exact Int.natCast_mul p q
  · rw [decide_eq_true h1, decide_eq_false h2, if_pos (by decide), show x = -(p : Int) from by omega, show y = (q : Int) from by omega, Int.neg_mul, Int.natCast_mul]
  · rw [decide_eq_false h1, decide_eq_true h2, if_pos (by decide), show x = (p : Int) from by omega, show y = -(q : Int) from by omega, Int.mul_neg, Int.natCast_mul]
  · rw [decide_eq_false h1, decide_eq_false h2, if_neg (by decide), show x = (p : Int) from by omega, show y = (q : Int) from by omega]
    exact Int.natCast_mul p q
theorem sgn_tdiv2 (x : Int) (p : Nat) : sgn (decide (x < 0) != false) (x.natAbs / p) = x.tdiv (p : Int) := by
  obtain ⟨m, hm⟩ : ∃ m, m = x.natAbs := ⟨_, rfl⟩
  rw [← hm, Bool.bne_false]
  unfold sgn
  by_cases h1 : x < 0
  · rw [decide_eq_true h1, if_pos rfl, show x = -(m : Int) from by omega, Int.neg_tdiv, ← Int.ofNat_tdiv]
  · rw [decide_eq_false h1, if_neg (by decide), show x = (m : Int) from by omega, ← Int.ofNat_tdiv]

theorem qlen_pos {p : Nat} (h : 0 < p) : 0 < (qdigs p).length := by rw [qdigs_s (by omega)]; simp
theorem qlen_2 {p : Nat} (h : p < 18446744073709551616) : (qdigs p).length ≤ 2 := by
  by_cases h0 : p = 0
  · subst h0; rw [qdigs_0]; simp
  · by_cases h1 : p < 4294967296
    · rw [qdigs_one h0 h1]; simp
    · rw [qdigs_two (by omega) h]; simp
theorem qplain_0 (A : Option Addr) (c : Nat) (w : World) : Calls Tryz.prog 117 #[.slice A 0 c] w fun e w' => e = .returned (.int .u64 0) ∧ ∃ m, w' = w.drewN m := by
  go_enter Tryz.func117, Tryz.ntmps117
  go_wp2_with fail
  go_ret
  exact ⟨rfl, 0, rfl⟩
theorem qplain_1 {w : World} {b o c p : Nat} (d0 : w.cell? ⟨b, o, none⟩ = some (.int .u32 (p : Int))) (hp : p < 4294967296) :
    Calls Tryz.prog 117 #[.slice (some ⟨b, o, none⟩) 1 c] w fun e w' => e = .returned (.int .u64 (p : Int)) ∧ ∃ m, w' = w.drewN m := by
  go_enter Tryz.func117, Tryz.ntmps117
  go_wp2_with fail
  go_ret
  exact ⟨rfl, 0, rfl⟩
theorem qplain_2 {w : World} {b o c lo hi : Nat} (d0 : w.cell? ⟨b, o, none⟩ = some (.int .u32 (lo : Int))) (d1 : w.cell? ⟨b, o + 1, none⟩ = some (.int .u32 (hi : Int))) (h1 : lo < 4294967296) (h2 : hi < 4294967296) :
    Calls Tryz.prog 117 #[.slice (some ⟨b, o, none⟩) 2 c] w fun e w' => e = .returned (.int .u64 ((lo + 4294967296 * hi : Nat) : Int)) ∧ ∃ m, w' = w.drewN m := by
  go_enter Tryz.func117, Tryz.ntmps117
  go_wp2_with fail
  go_ret
  refine ⟨?_, 0, rfl⟩
  show Ending.returned (Value.int IntKind.u64 (bits BinOp.or IntKind.u64 (lo : Int) ((hi : Int) * 4294967296))) = _
  have e := (bits_nat .u64 64 (by decide) u64_64 lo (hi * 4294967296) (by omega) (by omega)).2
  rw [or_words lo hi h1 h2] at e
  rw [show ((hi : Int) * 4294967296) = ((hi * 4294967296 : Nat) : Int) from by omega, e]
theorem qplain_any (p : Nat) (A : Option Addr) (c : Nat) (w : World) (hp : p < 18446744073709551616) (hr : Rd w 1 uEnc A (qdigs p).length (qdigs p)) :
    Calls Tryz.prog 117 #[.slice A (qdigs p).length c] w fun e w' => e = .returned (.int .u64 (p : Int)) ∧ ∃ m, w' = w.drewN m := by
  by_cases h0 : p = 0
  · subst h0
    rw [qdigs_0]
    exact qplain_0 A c w
  · by_cases h1 : p < 4294967296
    · rw [qdigs_one h0 h1] at hr ⊢
      obtain ⟨b, o, rfl, _⟩ := hr.2 (by simp)
      have d0 := qcell hr 0 (by simp)
      rw [Nat.add_zero] at d0
      exact qplain_1 d0 h1
    · rw [qdigs_two (by omega) hp] at hr ⊢
      obtain ⟨b, o, rfl, _⟩ := hr.2 (by simp)
      have d0 := qcell hr 0 (by simp)
      have d1 := qcell hr 1 (by simp)
      rw [Nat.add_zero] at d0
      have hq := qplain_2 (c := c) (lo := p % 4294967296) (hi := p / 4294967296) d0 d1 (by omega) (by omega)
      rwa [show p % 4294967296 + 4294967296 * (p / 4294967296) = p from by omega] at hq

set_option maxHeartbeats 1000000 in
set_option maxRecDepth 100000 in
theorem qdiv_any (m p : Nat) (A YA : Option Addr) (c d : Nat) (w : World) (hm : m < 18446744073709551616) (hp0 : 0 < p) (hp : p < 18446744073709551616) (ha : Rd w 1 uEnc A (qdigs m).length (qdigs m)) (hb : Rd w 1 uEnc YA (qdigs p).length (qdigs p)) (hA : m = 0 → A = none ∧ c = 0) :
    Calls Tryz.prog 82 #[.slice A (qdigs m).length c, .slice YA (qdigs p).length d] w fun e w' => ∃ (A' A2 : Option Addr) (c' c2 n2 : Nat), e = .returned (.tuple #[.slice A' (qdigs (m / p)).length c', .slice A2 n2 c2]) ∧
      Rd w' 1 uEnc A' (qdigs (m / p)).length (qdigs (m / p)) ∧ (∀ a o s, A' = some ⟨a, o, s⟩ → w.heap.size ≤ a) ∧ (qdigs (m / p)).length ≤ c' ∧ Below w.heap.size w w' := by
  have hl1 := qlen_pos hp0
  have hl2 := qlen_2 hm
  have hl3 := qlen_2 hp
  have Hl2 := hide hl2
  have HAN : Hid (A = none → c = 0) := by
    intro e
    rcases Nat.eq_zero_or_pos m with h | h
    · exact (hA h).2
    · obtain ⟨b, o, e2, _⟩ := ha.2 (qlen_pos h)
      rw [e] at e2; cases e2
  obtain ⟨n1, hn1⟩ : ∃ n, n = (qdigs m).length := ⟨_, rfl⟩
  obtain ⟨n2, hn2⟩ : ∃ n, n = (qdigs p).length := ⟨_, rfl⟩
  have HN1 := hide hn1
  have HN2 := hide hn2
  have HA2 := hide ha
  have HB2 := hide hb
  have HMM := hide hm
  have HPP := hide hp
  have HPL := hide hp0
  rw [← hn1] at ha hl2 ⊢
  rw [← hn2] at hb hl1 hl3 ⊢
  have hn2z : ((n2 : Int) == 0) = false := by rw [beq_eq_false_iff_ne]; omega
  have hn1z : (n1 : Int) ≤ 2 := by omega
  have HC := fun W (h1 : Rd W 1 uEnc A n1 (qdigs m)) (h2 : Rd W 1 uEnc YA n2 (qdigs p)) => qcmp_any m p A YA n1 c n2 d W h1 h2 (by omega) (by omega)
  have HC1 := hide (HC w ha hb)
  clear HC hn1 hn2 hm hp hp0 hA hl1 hl3
  by_cases hlt : m < p
  · have hq : qcmp m p = -1 := if_pos hlt
    have hdv : m / p = 0 := Nat.div_eq_of_lt hlt
    have HD := hide hdv
    rw [hq] at HC1
    clear hlt hdv hq hl2
    go_enter Tryz.func82, Tryz.ntmps82
    go_wp2_with fail
    refine HC1.out.mono ?_
    rintro e w1 ⟨rfl, hb1⟩
    go_wp2_with fail
    refine (qtwin_any (qdigs m) A n1 c _ (ha.below hb1) HAN.out (by omega)).mono ?_
    rintro e w2 ⟨A2, c2, rfl, hr2, hb2⟩
    have hb2 := bthen hb1 (Nat.le_refl _) hb2
    go_wp2_with fail
    go_ret2
    refine ⟨none, A2, 0, c2, n1, ?_, ?_, (fun a o s e => by cases e), ?_, hb2⟩
    · rw [HD.out, qdigs_0]; rfl
    · rw [HD.out, qdigs_0]; exact Rd.nil _ _ _ _
    · rw [HD.out, qdigs_0]; simp
  · have hq : 0 ≤ qcmp m p := by unfold qcmp; rw [if_neg hlt]; split <;> omega
    have HC2 := HC1.out
    clear HC1
    generalize qcmp m p = z at HC2 hq
    have HC1 := hide HC2
    clear HC2
    have HX := hide (qplain_any m A c)
    have HY := hide (qplain_any p YA d)
    have hpi : ((p : Int) == 0) = false := by rw [beq_eq_false_iff_ne]; have := HPL.out; omega
    have hpi2 : ¬ (p : Int) = 0 := by have := HPL.out; omega
    have hpi3 : ¬ (p : Int) ≤ 0 := by have := HPL.out; omega
    have hm1 : (m : Int) < 18446744073709551616 := by have := HMM.out; omega
    obtain ⟨qv, hqv⟩ : ∃ q, q = m / p := ⟨_, rfl⟩
    obtain ⟨rv, hrv⟩ : ∃ r, r = m % p := ⟨_, rfl⟩
    have hq1 : (m : Int) / (p : Int) = (qv : Int) := by rw [hqv]; rfl
    have hq2 : (m : Int) % (p : Int) = (rv : Int) := by rw [hrv]; rfl
    have hq3 : (m : Int).tdiv (p : Int) = (qv : Int) := by rw [hqv]; rfl
    have hq4 : (m : Int).tmod (p : Int) = (rv : Int) := by rw [hrv]; rfl
    have HQV : Hid (qv < 18446744073709551616) := by show _ < _; rw [hqv]; exact Nat.lt_of_le_of_lt (Nat.div_le_self _ _) HMM.out
    have HRV : Hid (rv < 18446744073709551616) := by show _ < _; rw [hrv]; exact Nat.lt_of_le_of_lt (Nat.mod_le _ _) HMM.out
    have hw1 : IntKind.u64.wrap (qv : Int) = (qv : Int) := by rw [wrap_u64]; have := HQV.out; omega
    rw [← hqv]
    have HR := hide hrv
    have HALL := hide (And.intro hpi (And.intro hpi2 (And.intro hpi3 (And.intro hm1 (And.intro hq1 (And.intro hq2 (And.intro hq3 (And.intro hq4 hw1))))))))
    clear hlt hqv hrv hpi hpi2 hpi3 hm1 hq1 hq2 hq3 hq4 hw1
    go_enter Tryz.func82, Tryz.ntmps82
    go_wp2_with fail
    refine HC1.out.mono ?_
    rintro e w1 ⟨rfl, hb1⟩
    go_wp2_with fail
    rw [HN1.out]
    refine (HX.out _ HMM.out (HA2.out.below hb1)).mono ?_
    rintro e w2 ⟨rfl, k2, rfl⟩
    go_wp2_with fail
    rw [HN2.out]
    refine (HY.out _ HPP.out (((HB2.out.below hb1)).below (bdrewN (Below.refl _ _) k2))).mono ?_
    rintro e w3 ⟨rfl, k3, rfl⟩
    rw [← HN2.out]
    have hb3 : Below w.heap.size w ((w1.drewN k2).drewN k3) := bdrewN (bdrewN hb1 k2) k3
    generalize (w1.drewN k2).drewN k3 = wa at hb3 ⊢
    go_upto_region 7 with fail
    obtain ⟨hpi, hpi2, hpi3, hm1, hq1, hq2, hq3, hq4, hw1⟩ := HALL.out
    clear hq2 hq1
    have hpn : ¬ p = 0 := by have := HPL.out; omega
    have HW : Hid (∀ (v : Nat) (W : World), v < 18446744073709551616 → Calls Tryz.prog 116 #[.int .u64 (v : Int)] W
      fun e w' => ∃ c, e = .returned (.slice (some ⟨W.heap.size, 0, none⟩) (qdigs v).length c) ∧ Rd w' 1 uEnc (some ⟨W.heap.size, 0, none⟩) (qdigs v).length (qdigs v) ∧ (qdigs v).length ≤ c ∧ Below W.heap.size W w') := fun v W h => qwords_any v h W
    go_region_law (go_simp; go_at_call 116; refine (HW.out _ _ (by first | exact HQV.out | exact HRV.out)).mono ?_; rintro e w4 ⟨c4, rfl, hr4, hc4, hb4⟩; first | (have HT := HR4; have HR5 := hide hr4; have HB5 := hide hb4; clear hr4 hc4 hb4) | (have HR4 := hide hr4; have HC4 := hide hc4; have HB4 := hide hb4; clear hr4 hc4 hb4))
    all_goals
      go_wp2_with fail
    all_goals
      go_ret2
      exact ⟨_, _, _, _, _, rfl, HR4.out.below HB5.out, (fun a o s e => by injection e with e; injection e with e; have h1 := hb3.size; have h2 : wa.drew.heap.size = wa.heap.size := rfl; omega), HC4.out, bthen (bthen hb3 (Nat.le_refl _) ((bdrewN (Below.refl _ wa) 1).trans HB4.out)) (Nat.le_refl _) HB5.out⟩
end Go.Proofs.YtfkhcdcmcplfoaaGreatDoor

namespace Go.Proofs.YtfkhcdcmcplfoaaGreatDoor
open Go Go.RowKit
set_option linter.unusedVariables false

set_option maxHeartbeats 2000000 in
set_option maxRecDepth 100000 in
theorem qmul_any (m d : Nat) (A YA : Option Addr) (c dc : Nat) (w : World) (hm : m < 18446744073709551616) (hd : d < 4294967296) (ha : Rd w 1 uEnc A (qdigs m).length (qdigs m)) (hb : Rd w 1 uEnc YA (qdigs d).length (qdigs d)) :
    Calls Tryz.prog 51 #[.slice A (qdigs m).length c, .slice YA (qdigs d).length dc] w fun e w' => ∃ (A' : Option Addr) (c' : Nat), e = .returned (.slice A' (qdigs (m * d)).length c') ∧ (m * d = 0 → A' = none ∧ c' = 0) ∧
      Rd w' 1 uEnc A' (qdigs (m * d)).length (qdigs (m * d)) ∧ (∀ a o s, A' = some ⟨a, o, s⟩ → w.heap.size ≤ a) ∧ (qdigs (m * d)).length ≤ c' ∧ Below w.heap.size w w' := by
  have hl2 := qlen_2 hm
  by_cases h0 : m = 0
  · subst h0
    rw [Nat.zero_mul, qdigs_0]
    go_enter Tryz.func51, Tryz.ntmps51
    go_wp2_with fail
    go_ret
    exact ⟨none, 0, rfl, fun _ => ⟨rfl, rfl⟩, Rd.nil _ _ _ _, (fun a o s e => by cases e), Nat.le_refl _, Below.refl _ _⟩
  · by_cases h1 : d = 0
    · subst h1
      rw [Nat.mul_zero, qdigs_0]
      have hp := qlen_pos (p := m) (by omega)
      obtain ⟨n, hn⟩ : ∃ n, n = (qdigs m).length := ⟨_, rfl⟩
      rw [← hn] at hp ⊢
      have hz : ((n : Int) == 0) = false := by rw [beq_eq_false_iff_ne]; omega
      clear hn ha hb hl2
      go_enter Tryz.func51, Tryz.ntmps51
      go_wp2_with fail
      go_ret
      exact ⟨none, 0, rfl, fun _ => ⟨rfl, rfl⟩, Rd.nil _ _ _ _, (fun a o s e => by cases e), Nat.le_refl _, Below.refl _ _⟩
    · rw [qdigs_one h1 hd] at hb ⊢
      obtain ⟨yb, yo, rfl, _⟩ := hb.2 (by simp)
      have d0 := qcell hb 0 (by simp)
      rw [Nat.add_zero] at d0
      simp only [List.getElem_cons_zero] at d0
      obtain ⟨ws, hws⟩ : ∃ ws, ws = qdigs m := ⟨_, rfl⟩
      have hdg : QDig ws := by rw [hws]; exact qdigs_dig m
      have hv : qval ws = m := by rw [hws]; exact qval_digs m
      have hp := qlen_pos (p := m) (by omega)
      rw [← hws] at ha hl2 hp ⊢
      obtain ⟨n, hn⟩ : ∃ n, n = ws.length := ⟨_, rfl⟩
      rw [← hn] at ha hl2 hp ⊢
      have HN := hide hn
      have HV := hide hv
      have HDG := hide hdg
      have HNZ : Hid (m * d ≠ 0) := by show _ ≠ _; exact Nat.mul_ne_zero h0 h1
      have hz : ((n : Int) == 0) = false := by rw [beq_eq_false_iff_ne]; omega
      have hmk := mk_u32 (n + 1) (by omega)
      have hmk' : ∀ w : World, (Instr.makeSlice 79 (.int .i64 ((n : Int) + 1)) (.int .i64 ((n : Int) + 1))).run Tryz.prog w = .ok (.slice (some ⟨w.heap.size, 0, none⟩) (n + 1) (n + 1)) (w.alloc (.cells (Array.replicate (n + 1) (.int .u32 0)) 122)) := fun w => by simpa using hmk w
      have hyl := World.block_lt_of_cell? _ _ d0
      clear hmk hws hn hdg hv h0 h1
      go_enter Tryz.func51, Tryz.ntmps51
      go_wp2_with fail
      have hrow0 : VRow (w.alloc (.cells (Array.replicate (n + 1) (.int .u32 0)) 122)) w.heap.size 122 (n + 1) (uF ([] ++ [0])) := (VRow.made w 122 (n + 1) (.int .u32 0)).congr (fun j _ => by unfold uF; cases j <;> simp)
      have hb1 : Below w.heap.size w (w.alloc (.cells (Array.replicate (n + 1) (.int .u32 0)) 122)) := (Below.refl _ _).alloc (Nat.le_refl _) _
      generalize w.alloc (.cells (Array.replicate (n + 1) (.int .u32 0)) 122) = w1 at hrow0 hb1 ⊢
      go_loopw [6] (fun iv wr => ∃ (i cr : Nat) (pre : List Nat), i ≤ n ∧ iv = .int .i64 i ∧ MulAt ws d i cr pre ∧ VRow wr w.heap.size 122 (n + 1) (uF (pre ++ [cr])) ∧ w1.grownBy wr (some w.heap.size)) (fun iv _ => n - (intOf iv).toNat)
      case atStart => exact ⟨0, 0, [], by omega, rfl, MulAt.zero _ _, hrow0, only_refl _ _⟩
      case round =>
        obtain ⟨i, cr, pre, hi, rfl, hat, hrow, honly⟩ := hrel
        obtain ⟨wo, hwo⟩ : ∃ wo, wo = wr := ⟨_, rfl⟩
        subst hwo
        have hbw := below_only hb1 (Nat.le_refl _) (Nat.le_refl _) honly
        have hpl := hat.2.1
        have HAT := hide hat
        by_cases hlt : i < n
        · have hiw : i < ws.length := by have := HN.out; omega
          obtain ⟨ab, ao, rfl, hca⟩ := (ha.below hbw).2 (by omega)
          have qa := hca i 0 _ hiw rfl
          rw [Nat.mul_one, Nat.add_zero] at qa
          clear hca
          have qd := below_cell hbw hyl d0
          have hx1 := HDG.out ws[i] (List.getElem_mem hiw)
          have hsu := hat.succ HDG.out hd hiw
          obtain ⟨x, hx⟩ : ∃ x, x = ws[i] := ⟨_, rfl⟩
          rw [← hx] at qa hx1 hsu
          obtain ⟨h64, hhi⟩ := carry_lt hx1 hd hat.2.2
          have hcr := hat.2.2
          obtain ⟨p, hp'⟩ : ∃ p, p = x * d := ⟨_, rfl⟩
          rw [← hp'] at hsu h64 hhi
          have hpm : (x : Int) * (d : Int) = (p : Int) := by rw [hp']; exact (Int.natCast_mul _ _).symm
          obtain ⟨lo, hlo⟩ : ∃ lo, lo = (p + cr) % 4294967296 := ⟨_, rfl⟩
          obtain ⟨hv, hhv⟩ : ∃ hv, hv = (p + cr) / 4294967296 := ⟨_, rfl⟩
          rw [← hlo, ← hhv] at hsu
          have HSU := hide hsu
          have HLO := hide hlo
          have HHV := hide hhv
          have qr : wo.cell? ⟨w.heap.size, i, none⟩ = some (.int .u32 (cr : Int)) := by
            rw [hrow.cell i (by omega)]
            unfold uF
            rw [List.getD_eq_getElem?_getD, List.getElem?_append_right (by omega), show i - pre.length = 0 from by omega]
            rfl
          have fr := hrow.frozen i
          have i0 : (0 : Int) ≤ (i : Int) := by omega
          have i1 : (i : Int) < (n : Int) := by omega
          have i2 : (i : Int) < (n : Int) + 1 := by omega
          clear hat hsu hlo hhv hx hp'
          go_wp2_with fail
          go_loopw [7, 8] (fun cv jv wi => (jv = .int .i64 0 ∧ cv = .int .u64 0 ∧ wi = wo) ∨ (jv = .int .i64 1 ∧ cv = .int .u64 (hv : Int) ∧ ∃ k, wi = (wo.drewN k).setCell ⟨w.heap.size, i, none⟩ (.int .u32 (lo : Int)))) (fun _ jv _ => 1 - (intOf jv).toNat)
          case atStart => exact .inl ⟨rfl, rfl, rfl⟩
          case round =>
            rcases hrel with ⟨rfl, rfl, rfl⟩ | ⟨rfl, rfl, k, rfl⟩
            · go_wp2_with fail
              go_quiet (fail)
              have qr2 : (wr.drewN nq).cell? ⟨w.heap.size, i, none⟩ = some (.int .u32 (cr : Int)) := qr
              have fr2 : (wr.drewN nq).frozen? ⟨w.heap.size, i, none⟩ = false := fr
              clear qr fr qa qd
              go_wp2_with fail
              go_roundw
              case rel => exact .inr ⟨by go_num, by congr 1; have := HHV.out; omega, nq, by congr 2; have := HLO.out; omega⟩
              case measure => simp [intOf]
            · have hrow2 : VRow ((wo.drewN k).setCell ⟨w.heap.size, i, none⟩ (.int .u32 (lo : Int))) w.heap.size 122 (n + 1) (uF (pre ++ [lo])) := (VRow.set_ (show VRow (wo.drewN k) w.heap.size 122 (n + 1) (uF (pre ++ [cr])) from hrow) i _).congr fun j _ => by
                unfold uF
                by_cases h : j = i
                · subst h
                  rw [if_pos rfl, List.getD_eq_getElem?_getD, List.getElem?_append_right (by omega), show j - pre.length = 0 from by omega]
                  rfl
                · rw [if_neg h, List.getD_eq_getElem?_getD, List.getD_eq_getElem?_getD]
                  rcases Nat.lt_or_ge j pre.length with h1 | h1
                  · rw [List.getElem?_append_left h1, List.getElem?_append_left h1]
                  · rw [List.getElem?_eq_none (by simp; omega), List.getElem?_eq_none (by simp; omega)]
              have ho2 : w1.grownBy ((wo.drewN k).setCell ⟨w.heap.size, i, none⟩ (.int .u32 (lo : Int))) (some w.heap.size) := only_setCell (only_drewN honly k) _ _
              generalize (wo.drewN k).setCell ⟨w.heap.size, i, none⟩ (.int .u32 (lo : Int)) = wz at hrow2 ho2 ⊢
              have qz := hrow2.cell (i + 1) (by omega)
              have fz := hrow2.frozen (i + 1)
              have i3 : (i : Int) + 1 < (n : Int) + 1 := by omega
              have hvl : hv < 4294967296 := by have := HHV.out; omega
              clear qr fr qa qd
              go_wp2_with fail
              go_roundw
              case rel => exact ⟨i + 1, hv, pre ++ [lo], by omega, by go_num, HSU.out, uF_set hrow2 (by simp; omega) (by first | rfl | omega), only_setCell ho2 _ _⟩
              case measure => simp [intOf]; omega
        · have hin : i = n := by omega
          subst hin
          have hE := MulAt.end (a := ws) (d := d) (pre := pre) (cr := cr) (by have := HAT.out; rwa [← HN.out])
          have hlen : (pre ++ [cr]).length = i + 1 := by rw [List.length_append, hpl]; rfl
          have hval := mulL_val ws d 0
          have hdig := mulL_dig ws d 0 HDG.out hd (by omega)
          rw [hE] at hval hdig
          rw [Nat.add_zero, HV.out] at hval
          have hle := qdigs_le _ hdig
          rw [hlen, hval] at hle
          have hrow2 := hrow.words hlen
          clear hE hat HAT
          go_wp2_with fail
          refine (qtrim_any _ hdig _ (i + 1) (i + 1) _ hrow2 (by omega) (by omega)).mono ?_
          rintro e w2 ⟨rfl, hr, k, rfl⟩
          rw [hval] at hr ⊢
          go_wp2_with fail
          go_ret
          exact ⟨some ⟨w.heap.size, 0, none⟩, i + 1, rfl, fun h => absurd h HNZ.out, hr.below (bdrewN (Below.refl _ _) k), fun a o s e => by injection e with e; injection e with e; omega, hle, bdrewN hbw k⟩
set_option maxHeartbeats 2000000 in
set_option maxRecDepth 100000 in
theorem qMul_any {w : World} {B By g gy : Nat} {x y : Int} (hX : QAt w B g x) (hY : QAt w By gy y) (hB : B ≤ w.heap.size) (hx : x.natAbs < 18446744073709551616) (hy : y.natAbs < 4294967296) :
    Calls Tryz.prog 29 #[.pointer (some ⟨g, 0, none⟩), .pointer (some ⟨g, 0, none⟩), .pointer (some ⟨gy, 0, none⟩)] w
      fun e w' => e = .returned (.pointer (some ⟨g, 0, none⟩)) ∧ QAt w' B g (x * y) ∧ Below B w w' ∧ (x * y = 0 → w'.cell? ⟨g, 1, none⟩ = some (.slice none 0 0)) := by
  have c0 := hX.c0
  obtain ⟨A, c, c1, ha, hne, hc⟩ := hX.wds
  have d0 := hY.c0
  obtain ⟨YA, d, d1, hb, hne2, hd⟩ := hY.wds
  have HS := hide (qmul_any x.natAbs y.natAbs A YA c d w.drew hx hy (ha.below (bdrewN (Below.refl _ w) 1)) (hb.below (bdrewN (Below.refl _ w) 1)))
  have hgl : g < w.drew.heap.size := hX.lt
  have hgyl : gy < w.drew.heap.size := hY.lt
  have HSG := hide (sgn_mul2 x y)
  have hab : (x * y).natAbs = x.natAbs * y.natAbs := Int.natAbs_mul x y
  have HAB := hide hab
  clear hx hy ha hb hab
  obtain ⟨bx, hbx⟩ : ∃ bx, bx = decide (x < 0) := ⟨_, rfl⟩
  obtain ⟨bY, hbY⟩ : ∃ bY, bY = decide (y < 0) := ⟨_, rfl⟩
  rw [← hbx] at c0 HSG
  rw [← hbY] at d0 HSG
  clear hbx hbY
  go_enter Tryz.func29, Tryz.ntmps29
  go_wp2_with fail
  go_region_law (first
      | (go_simp; go_at_call 51; refine HS.out.mono ?_; rintro e w1 ⟨A1, c', rfl, hz, hr, hg1, hle, hb1⟩; have k0 := below_cell hb1 hgl c0; have k1 := below_cell hb1 hgl c1; have k2 := below_cell hb1 hgyl d0; have k3 := below_cell hb1 hgyl d1)
      | (go_simp; go_at_call 50; refine (qgive_any (bx != bY) _ g c' _ _ _ _ rfl rfl k0 k1 (fun o => (hb1.frozen (p := ⟨g, o, none⟩) hgl).trans (hX.fr o))).mono ?_; rintro e w2 ⟨rfl, k, rfl⟩))
  all_goals
    go_wp2_with fail
    go_ret
    have hbw : Below w.heap.size w w1 := (bdrewN (Below.refl _ w) 1).trans hb1
    have hQ := QAt.put (neg := (bx != bY)) hX.gB k0 k1 (fun o => (hb1.frozen (p := ⟨g, o, none⟩) hgl).trans (hX.fr o)) hr (fun a o z e => by have := hg1 a o z e; have : g < w.heap.size := hgl; have : w.heap.size ≤ w.drew.heap.size := Nat.le_refl _; omega) hle
    have hsg := HSG.out
    unfold sgn at hsg
    rw [hsg] at hQ
    refine ⟨rfl, hQ.below (bdrewN (Below.refl _ _) k), bdrewN (((hbw.mono hB).setCell hX.gB _).setCell hX.gB _) k, fun hxy => ?_⟩
    have hm0 : x.natAbs * y.natAbs = 0 := by rw [← HAB.out, hxy]; rfl
    obtain ⟨rfl, rfl⟩ := hz hm0
    rw [hm0, qdigs_0]
    exact (World.cell?_setCell_other _ _ _ _ (by simp)).trans (World.cell?_setCell_same _ ⟨g, 1, none⟩ _ k1)

set_option maxHeartbeats 2000000 in
set_option maxRecDepth 100000 in
theorem qQuoRem_any {w : World} {B By g gy gr p : Nat} {x : Int} (hX : QAt w B g x) (hY : QAt w By gy (p : Int)) (hB : B ≤ w.heap.size) (hx : x.natAbs < 18446744073709551616) (hp0 : 0 < p) (hp : p < 18446744073709551616) (hz : x = 0 → w.cell? ⟨g, 1, none⟩ = some (.slice none 0 0))
    (hgr : gr ≠ g) (hBr : B ≤ gr) (r0 : w.cell? ⟨gr, 0, none⟩ = some (.bool false)) (r1 : w.cell? ⟨gr, 1, none⟩ = some (.slice none 0 0)) (rf : ∀ o, w.frozen? ⟨gr, o, none⟩ = false) :
    Calls Tryz.prog 52 #[.pointer (some ⟨g, 0, none⟩), .pointer (some ⟨g, 0, none⟩), .pointer (some ⟨gy, 0, none⟩), .pointer (some ⟨gr, 0, none⟩)] w
      fun e w' => e = .returned (.tuple #[.pointer (some ⟨g, 0, none⟩), .pointer (some ⟨gr, 0, none⟩)]) ∧ QAt w' B g (x.tdiv (p : Int)) ∧ Below B w w' := by
  have c0 := hX.c0
  obtain ⟨A, c, c1, ha, hne, hc⟩ := hX.wds
  have d0 := hY.c0
  obtain ⟨YA, d, d1, hb, hne2, hd⟩ := hY.wds
  rw [show ((p : Int)).natAbs = p by simp] at d1 hb hd
  rw [show decide ((p : Int) < 0) = false from decide_eq_false (by omega)] at d0
  have hgl := hX.lt
  have hgyl := hY.lt
  have hrl := World.block_lt_of_cell? _ _ r0
  have hA0 : x.natAbs = 0 → A = none ∧ c = 0 := by
    intro h
    have h1 := hz (Int.natAbs_eq_zero.1 h)
    rw [c1] at h1
    injection h1 with h1
    injection h1 with e1 e2 e3
    exact ⟨e1, e3⟩
  have HS : Hid (∀ W : World, Below w.heap.size w W → Calls Tryz.prog 82 #[.slice A (qdigs x.natAbs).length c, .slice YA (qdigs p).length d] W fun e w' => ∃ (A' A2 : Option Addr) (c' c2 n2 : Nat), e = .returned (.tuple #[.slice A' (qdigs (x.natAbs / p)).length c', .slice A2 n2 c2]) ∧
      Rd w' 1 uEnc A' (qdigs (x.natAbs / p)).length (qdigs (x.natAbs / p)) ∧ (∀ a o s, A' = some ⟨a, o, s⟩ → W.heap.size ≤ a) ∧ (qdigs (x.natAbs / p)).length ≤ c' ∧ Below W.heap.size W w') := fun W hW =>
    qdiv_any x.natAbs p A YA c d W hx hp0 hp (ha.below hW) (hb.below hW) hA0
  have HSG := hide (sgn_tdiv2 x p)
  have HX := hide hX
  have HR := hide rf
  obtain ⟨bx, hbx⟩ : ∃ bx, bx = decide (x < 0) := ⟨_, rfl⟩
  rw [← hbx] at c0 HSG
  clear hbx hx hp0 hp hz hA0 ha hb hX hY rf
  go_enter Tryz.func52, Tryz.ntmps52
  go_wp2_with fail
  go_quiet (fail)
  have hwa : Below w.heap.size w (w.drewN nq) := bdrewN (Below.refl _ w) nq
  have c1 : (w.drewN nq).cell? ⟨g, 1, none⟩ = _ := c1
  have d1 : (w.drewN nq).cell? ⟨gy, 1, none⟩ = _ := d1
  have c0 : (w.drewN nq).cell? ⟨g, 0, none⟩ = _ := c0
  have r0 : (w.drewN nq).cell? ⟨gr, 0, none⟩ = _ := r0
  have r1 : (w.drewN nq).cell? ⟨gr, 1, none⟩ = _ := r1
  have hfg : ∀ o, (w.drewN nq).frozen? ⟨g, o, none⟩ = false := HX.out.fr
  have hfr : ∀ o, (w.drewN nq).frozen? ⟨gr, o, none⟩ = false := HR.out
  have hsa : (w.drewN nq).heap.size = w.heap.size := rfl
  generalize w.drewN nq = wa at hwa c1 d1 c0 r0 r1 hfg hfr hsa ⊢
  have HFG := hide hfg
  have HFR := hide hfr
  clear hfg hfr d0
  go_wp2_with fail
  go_region_law (go_simp; go_at_call 82; refine (HS.out _ (bdrewN hwa 1)).mono ?_; rintro e w1 ⟨A1, A2, c', c2, n2, rfl, hr, hg1, hle, hb1⟩)
  all_goals
    have hga : g < wa.drew.heap.size := by show g < wa.heap.size; omega
    have hgra : gr < wa.drew.heap.size := by show gr < wa.heap.size; omega
    have k0 := below_cell hb1 hga c0
    have k1 := below_cell hb1 hga c1
    have k2 := below_cell hb1 hgra r0
    have k3 := below_cell hb1 hgra r1
    have kf : ∀ o, w1.frozen? ⟨g, o, none⟩ = false := fun o => (hb1.frozen (p := ⟨g, o, none⟩) hga).trans (HFG.out o)
    have kr : ∀ o, w1.frozen? ⟨gr, o, none⟩ = false := fun o => (hb1.frozen (p := ⟨gr, o, none⟩) hgra).trans (HFR.out o)
    have h9 : wa.drew.heap.size = w.heap.size := hsa
    have h9b : (wa.drewN 1).heap.size = w.heap.size := hsa
    have HRD := hide hr
    have HG1 := hide hg1
    have HBE := hide hb1
    have HKF := hide kf
    have HKR := hide kr
    clear hr hg1 hb1 kf kr c1 d1 c0 r0 r1
    go_wp2_with fail
    refine (qgive_any bx _ g c' _ _ _ _ rfl rfl k0 k1 HKF.out).mono ?_
    rintro e w2 ⟨rfl, k, rfl⟩
    have hQ := QAt.put (neg := bx) HX.out.gB k0 k1 HKF.out HRD.out (fun a o z e => by have := HG1.out a o z e; omega) hle
    have hsg := HSG.out
    unfold sgn at hsg
    simp only [Bool.bne_false] at hsg
    rw [hsg] at hQ
    have hQ := hQ.below (bdrewN (Below.refl _ _) k)
    have hbW : Below B w ((((w1.setCell ⟨g, 1, none⟩ (.slice A1 (qdigs (x.natAbs / p)).length c')).setCell ⟨g, 0, none⟩ (.bool (bx && decide (0 < (qdigs (x.natAbs / p)).length))))).drewN k) :=
      bdrewN ((((((hwa.trans ((bdrewN (Below.refl _ wa) 1).trans HBE.out |>.mono (by omega)))).mono hB).setCell HX.out.gB _).setCell HX.out.gB _)) k
    have m2 : ((((w1.setCell ⟨g, 1, none⟩ (.slice A1 (qdigs (x.natAbs / p)).length c')).setCell ⟨g, 0, none⟩ (.bool (bx && decide (0 < (qdigs (x.natAbs / p)).length))))).drewN k).cell? ⟨gr, 0, none⟩ = some (.bool false) := (World.cell?_setCell_other _ _ _ _ (by simp; try omega)).trans ((World.cell?_setCell_other _ _ _ _ (by simp; try omega)).trans k2)
    have m3 : ((((w1.setCell ⟨g, 1, none⟩ (.slice A1 (qdigs (x.natAbs / p)).length c')).setCell ⟨g, 0, none⟩ (.bool (bx && decide (0 < (qdigs (x.natAbs / p)).length))))).drewN k).cell? ⟨gr, 1, none⟩ = some (.slice none 0 0) := (World.cell?_setCell_other _ _ _ _ (by simp; try omega)).trans ((World.cell?_setCell_other _ _ _ _ (by simp; try omega)).trans k3)
    have mf : ∀ o, ((((w1.setCell ⟨g, 1, none⟩ (.slice A1 (qdigs (x.natAbs / p)).length c')).setCell ⟨g, 0, none⟩ (.bool (bx && decide (0 < (qdigs (x.natAbs / p)).length))))).drewN k).frozen? ⟨gr, o, none⟩ = false := fun o => by
      show ((w1.setCell _ _).setCell _ _).frozen? _ = _
      simp [HKR.out o]
    have hfree : QFree ((((w1.setCell ⟨g, 1, none⟩ (.slice A1 (qdigs (x.natAbs / p)).length c')).setCell ⟨g, 0, none⟩ (.bool (bx && decide (0 < (qdigs (x.natAbs / p)).length))))).drewN k) g (some gr) := by
      refine ⟨fun e => hgr (by injection e), fun A' n' c'' hcell h0 a o s e he => ?_⟩
      have h5 : ((((w1.setCell ⟨g, 1, none⟩ (.slice A1 (qdigs (x.natAbs / p)).length c')).setCell ⟨g, 0, none⟩ (.bool (bx && decide (0 < (qdigs (x.natAbs / p)).length))))).drewN k).cell? ⟨g, 1, none⟩ = some (.slice A1 (qdigs (x.natAbs / p)).length c') := (World.cell?_setCell_other _ _ _ _ (by simp)).trans (World.cell?_setCell_same _ ⟨g, 1, none⟩ _ k1)
      rw [h5] at hcell
      injection hcell with hcell
      injection hcell with e1 _ _
      subst e1
      injection he with he
      have := HG1.out a o s e
      omega
    generalize ((((w1.setCell ⟨g, 1, none⟩ (.slice A1 (qdigs (x.natAbs / p)).length c')).setCell ⟨g, 0, none⟩ (.bool (bx && decide (0 < (qdigs (x.natAbs / p)).length))))).drewN k) = W2 at hQ hbW m2 m3 mf hfree ⊢
    have HQ := hide hQ
    have HBW := hide hbW
    have HMF := hide mf
    have HFE := hide hfree
    clear hQ hbW mf hfree k0 k1 k2 k3
    go_wp2_with fail
    refine (qgive_any bx n2 gr c2 A2 _ _ _ rfl rfl m2 m3 HMF.out).mono ?_
    rintro e w3 ⟨rfl, k3, rfl⟩
    go_wp2_with fail
    go_ret2
    have hg3 : W2.grownBy (((W2.setCell ⟨gr, 1, none⟩ (.slice A2 n2 c2)).setCell ⟨gr, 0, none⟩ (.bool (bx && decide (0 < n2)))).drewN k3) (some gr) := only_drewN (only_setCell (only_setCell (only_refl W2 (some gr)) _ _) _ _) k3
    exact ⟨rfl, (HQ.out.grown HFE.out hg3).1, bdrewN ((HBW.out.setCell hBr _).setCell hBr _) k3⟩
set_option maxRecDepth 100000 in
theorem qQuo_any {w : World} {B By g gy p : Nat} {x : Int} (hX : QAt w B g x) (hY : QAt w By gy (p : Int)) (hB : B ≤ w.heap.size) (hx : x.natAbs < 18446744073709551616) (hp0 : 0 < p) (hp : p < 18446744073709551616) (hz : x = 0 → w.cell? ⟨g, 1, none⟩ = some (.slice none 0 0)) :
    Calls Tryz.prog 30 #[.pointer (some ⟨g, 0, none⟩), .pointer (some ⟨g, 0, none⟩), .pointer (some ⟨gy, 0, none⟩)] w
      fun e w' => e = .returned (.pointer (some ⟨g, 0, none⟩)) ∧ QAt w' B g (x.tdiv (p : Int)) ∧ Below B w w' := by
  have hA : Below w.heap.size w (w.alloc (.cells #[.bool false, .slice none 0 0] 81)) := (Below.refl _ _).alloc (Nat.le_refl _) _
  have hgl := hX.lt
  have HQ : Hid (Calls Tryz.prog 52 #[.pointer (some ⟨g, 0, none⟩), .pointer (some ⟨g, 0, none⟩), .pointer (some ⟨gy, 0, none⟩), .pointer (some ⟨w.heap.size, 0, none⟩)] (w.alloc (.cells #[.bool false, .slice none 0 0] 81))
      fun e w' => e = .returned (.tuple #[.pointer (some ⟨g, 0, none⟩), .pointer (some ⟨w.heap.size, 0, none⟩)]) ∧ QAt w' B g (x.tdiv (p : Int)) ∧ Below B (w.alloc (.cells #[.bool false, .slice none 0 0] 81)) w') :=
    qQuoRem_any (hX.below hA) (hY.below hA) (Nat.le_trans hB hA.size) hx hp0 hp (fun h => below_cell hA hgl (hz h)) (by omega) hB (by simp) (by simp) (fun o => by simp)
  clear hX hY hx hp0 hp hz
  go_enter Tryz.func30, Tryz.ntmps30
  go_wp2_with fail
  refine HQ.out.mono ?_
  rintro e w1 ⟨rfl, hQ, hb1⟩
  go_wp2_with fail
  go_ret
  exact ⟨rfl, hQ, (hA.mono hB).trans hb1⟩
end Go.Proofs.YtfkhcdcmcplfoaaGreatDoor
