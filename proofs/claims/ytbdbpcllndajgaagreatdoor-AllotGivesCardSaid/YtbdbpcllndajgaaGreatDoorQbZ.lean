/- Numbers of 32-bit words: a division by up to 35 bits, the quotient and the rest. -/
import Derived.Test.YtbdbpcllndajgaaGreatDoorQbU
import Derived.Test.YtbdbpcllndajgaaGreatDoorQbY
import Derived.Test.YtbdbpcllndajgaaGreatDoorQbX
import Derived.BigQuiet
import Derived.Deep.QuietTactic
import Derived.StillTailTactics
namespace Go.Proofs.YtbdbpcllndajgaaGreatDoor
open Go Go.RowKit
set_option linter.unusedVariables false

set_option maxRecDepth 100000 in
theorem qtwin2_any (l : List Nat) (A : Option Addr) (n c : Nat) (w : World) (h : Rd w 1 uEnc A n l) (hA : A = none → c = 0) (hn : n ≤ 1000) :
    Calls Tryz.prog 80 #[.slice A n c] w fun e w' => ∃ A' c', e = .returned (.slice A' n c') ∧ Rd w' 1 uEnc A' n l ∧ (∀ a o s, A' = some ⟨a, o, s⟩ → w.heap.size ≤ a) ∧ n ≤ c' ∧ (A' = none → c' = 0) ∧ Below w.heap.size w w' := by
  obtain ⟨i0, hi0, hz0, hz1, hz2⟩ := info_parts u32_info
  have hln := h.1
  have HL := hide hln
  clear hln
  go_enter Tryz.func80, Tryz.ntmps80
  go_wp2_with (first | (at_builtin; go_loud (refine wpList_push _ rfl _ _ 77 rfl w.heap.size 179 i0 (.int .u32 0) 1 4 Tryz.underlying77 hi0 hz0 hz1 hz2 rfl (by decide) uEnc_ok _ ([] : List Nat) rfl (Own.nil _ _ _ _ _) _ n c l rfl h hA (by simp [maxLen]; omega) (by simp; omega) (Nat.le_refl _) ?_); intro v' w3 hown3 hg3 hat3))
  go_ret
  rw [List.nil_append] at hown3
  obtain ⟨A', c', rfl, hcl, _⟩ := hown3.form
  have hr := hown3.rd uEnc_ok
  have hf : (∀ a o s, A' = some ⟨a, o, s⟩ → w.heap.size ≤ a) ∧ (A' = none → c' = 0) := by
    rcases hown3.2 with ⟨hv, h0⟩ | ⟨g, cap, cur, hv, hB, _⟩
    · injection hv with e1 e2 e3
      subst e1 e3
      exact ⟨fun a o s e => (by cases e), fun _ => rfl⟩
    · injection hv with e1 e2 e3
      subst e1
      exact ⟨fun a o s e => (by injection e with e; injection e with e; omega), fun e => (by cases e)⟩
  rw [HL.out] at hr hcl ⊢
  exact ⟨A', c', rfl, hr, hf.1, hcl, hf.2, (Below.refl _ _).grown hg3 (Nat.le_refl _) (fun q e => by have e' : (none : Option Nat) = some q := e; cases e')⟩

theorem sgn_tmod2 (x : Int) (p : Nat) : sgn (decide (x < 0)) (x.natAbs % p) = x.tmod (p : Int) := by
  obtain ⟨m, hm⟩ : ∃ m, m = x.natAbs := ⟨_, rfl⟩
  rw [← hm]
  unfold sgn
  by_cases h1 : x < 0
  · rw [decide_eq_true h1, if_pos rfl, show x = -(m : Int) from by omega, Int.neg_tmod, ← Int.ofNat_tmod]
  · rw [decide_eq_false h1, if_neg (by decide), show x = (m : Int) from by omega, ← Int.ofNat_tmod]

set_option maxHeartbeats 1000000 in
set_option maxRecDepth 100000 in
theorem qdiv_less (m p : Nat) (A YA : Option Addr) (c d n1 n2 : Nat) (w : World) (hlt : m < p) (hm : m < 79228162514264337593543950336) (h1 : n1 = (qdigs m).length) (h2 : n2 = (qdigs p).length) (hn2 : 0 < n2) (hn3 : n2 ≤ 2) (hn1 : n1 ≤ 3) (ha : Rd w 1 uEnc A n1 (qdigs m)) (hb : Rd w 1 uEnc YA n2 (qdigs p)) (hA : A = none → c = 0) :
    Calls Tryz.prog 79 #[.slice A n1 c, .slice YA n2 d] w (Gives2 w (m / p) (m % p)) := by
  have hn2z : ((n2 : Int) == 0) = false := by rw [beq_eq_false_iff_ne]; omega
  have hq : qcmp m p = -1 := if_pos hlt
  have HC1 := hide (qcmp_any m p A YA n1 c n2 d w ha hb (by omega) (by omega))
  have HD1 : Hid (m / p = 0) := Nat.div_eq_of_lt hlt
  have HD2 : Hid (m % p = m) := Nat.mod_eq_of_lt hlt
  have H1 := hide h1
  rw [hq] at HC1
  clear hlt hq h1 h2
  go_enter Tryz.func79, Tryz.ntmps79
  go_wp2_with fail
  refine HC1.out.mono ?_
  rintro e w1 ⟨rfl, hb1⟩
  go_wp2_with fail
  refine (qtwin2_any (qdigs m) A n1 c _ (ha.below hb1) hA (by omega)).mono ?_
  rintro e w2 ⟨A2, c2, rfl, hr2, hf2, hc2, hn2', hb2⟩
  have hs1 := hb1.size
  have hb2 := bthen hb1 (Nat.le_refl _) hb2
  go_wp2_with fail
  go_ret2
  rw [H1.out] at hr2 hc2 ⊢
  refine ⟨none, A2, 0, c2, ?_, ?_, ?_, (fun a o s e => by cases e), (fun a o s e => by have := hf2 a o s e; omega), ?_, ?_, hn2', hb2⟩
  · rw [HD1.out, HD2.out, qdigs_0]; rfl
  · rw [HD1.out, qdigs_0]; exact Rd.nil _ _ _ _
  · rw [HD2.out]; exact hr2
  · rw [HD1.out, qdigs_0]; simp
  · rw [HD2.out]; exact hc2

set_option maxHeartbeats 1000000 in
set_option maxRecDepth 100000 in
theorem qdiv_plain (m p : Nat) (A YA : Option Addr) (c d n1 n2 : Nat) (w : World) (hge : p ≤ m) (hm : m < 18446744073709551616) (hp0 : 0 < p) (hp : p < 18446744073709551616) (h1 : n1 = (qdigs m).length) (h2 : n2 = (qdigs p).length) (ha : Rd w 1 uEnc A n1 (qdigs m)) (hb : Rd w 1 uEnc YA n2 (qdigs p)) :
    Calls Tryz.prog 79 #[.slice A n1 c, .slice YA n2 d] w (Gives2 w (m / p) (m % p)) := by
  have hl1 := qlen_pos hp0
  have hl2 := qlen_2 hm
  have hl3 := qlen_2 hp
  have HN1 := hide h1
  have HN2 := hide h2
  rw [← h1] at hl2
  rw [← h2] at hl1 hl3
  have HA2 := hide ha
  have HB2 := hide hb
  have HMM := hide hm
  have HPP := hide hp
  have HPL := hide hp0
  have hn2z : ((n2 : Int) == 0) = false := by rw [beq_eq_false_iff_ne]; omega
  have hn1z : (n1 : Int) ≤ 2 := by omega
  have HC := qcmp_any m p A YA n1 c n2 d w ha hb (by omega) (by omega)
  have hq : 0 ≤ qcmp m p := by unfold qcmp; rw [if_neg (by omega)]; split <;> omega
  generalize qcmp m p = z at HC hq
  have HC1 := hide HC
  have HX := hide (qplain_any m A c)
  have HY := hide (qplain_any p YA d)
  have hpi : ((p : Int) == 0) = false := by rw [beq_eq_false_iff_ne]; omega
  have hpi2 : ¬ (p : Int) = 0 := by omega
  have hpi3 : ¬ (p : Int) ≤ 0 := by omega
  have hm1 : (m : Int) < 18446744073709551616 := by omega
  obtain ⟨qv, hqv⟩ : ∃ q, q = m / p := ⟨_, rfl⟩
  obtain ⟨rv, hrv⟩ : ∃ r, r = m % p := ⟨_, rfl⟩
  have hq3 : (m : Int).tdiv (p : Int) = (qv : Int) := by rw [hqv]; rfl
  have hq4 : (m : Int).tmod (p : Int) = (rv : Int) := by rw [hrv]; rfl
  have HQV : Hid (qv < 18446744073709551616) := by show _ < _; rw [hqv]; exact Nat.lt_of_le_of_lt (Nat.div_le_self _ _) hm
  have HRV : Hid (rv < 18446744073709551616) := by show _ < _; rw [hrv]; exact Nat.lt_of_le_of_lt (Nat.mod_le _ _) hm
  have hw1 : IntKind.u64.wrap (qv : Int) = (qv : Int) := by rw [wrap_u64]; have := HQV.out; omega
  rw [← hqv, ← hrv]
  have HALL := hide (And.intro hpi (And.intro hpi2 (And.intro hpi3 (And.intro hm1 (And.intro hq3 (And.intro hq4 hw1))))))
  clear HC h1 h2 ha hb hm hp hp0 hl1 hl3 hge hqv hrv hpi hpi2 hpi3 hm1 hq3 hq4 hw1
  go_enter Tryz.func79, Tryz.ntmps79
  go_wp2_with fail
  refine HC1.out.mono ?_
  rintro e w1 ⟨rfl, hb1⟩
  go_wp2_with fail
  rw [HN1.out]
  refine (HX.out _ HMM.out (by rw [← HN1.out]; exact HA2.out.below hb1)).mono ?_
  rintro e w2 ⟨rfl, k2, rfl⟩
  go_wp2_with fail
  rw [HN2.out]
  refine (HY.out _ HPP.out (by rw [← HN2.out]; exact ((HB2.out.below hb1)).below (bdrewN (Below.refl _ _) k2))).mono ?_
  rintro e w3 ⟨rfl, k3, rfl⟩
  have hb3 : Below w.heap.size w ((w1.drewN k2).drewN k3) := bdrewN (bdrewN hb1 k2) k3
  generalize (w1.drewN k2).drewN k3 = wa at hb3 ⊢
  go_upto_region 7 with fail
  obtain ⟨hpi, hpi2, hpi3, hm1, hq3, hq4, hw1⟩ := HALL.out
  have hpn : ¬ p = 0 := by have := HPL.out; omega
  have HW : Hid (∀ (v : Nat) (W : World), v < 18446744073709551616 → Calls Tryz.prog 126 #[.int .u64 (v : Int)] W
    fun e w' => ∃ c, e = .returned (.slice (some ⟨W.heap.size, 0, none⟩) (qdigs v).length c) ∧ Rd w' 1 uEnc (some ⟨W.heap.size, 0, none⟩) (qdigs v).length (qdigs v) ∧ (qdigs v).length ≤ c ∧ Below W.heap.size W w') := fun v W h => qwords_any v h W
  go_region_law (go_simp; go_at_call 126; refine (HW.out _ _ (by first | exact HQV.out | exact HRV.out)).mono ?_; rintro e w4 ⟨c4, rfl, hr4, hc4, hb4⟩; first | (have HT := HR4; have HR5 := hide hr4; have HC5 := hide hc4; have HB5 := hide hb4; clear hr4 hc4 hb4) | (have HR4 := hide hr4; have HC4 := hide hc4; have HB4 := hide hb4; clear hr4 hc4 hb4))
  all_goals
    go_wp2_with fail
  all_goals
    go_ret2
    have hs3 := hb3.size
    have hs4 := HB4.out.size
    have h9 : wa.drew.heap.size = wa.heap.size := rfl
    exact ⟨_, _, _, _, rfl, HR4.out.below HB5.out, HR5.out, (fun a o s e => by injection e with e; injection e with e; omega), (fun a o s e => by injection e with e; injection e with e; omega), HC4.out, HC5.out, (fun e => by cases e), bthen (bthen hb3 (Nat.le_refl _) ((bdrewN (Below.refl _ wa) 1).trans HB4.out)) (Nat.le_refl _) HB5.out⟩

set_option maxHeartbeats 1000000 in
set_option maxRecDepth 100000 in
theorem qdiv_word (m p : Nat) (A YA : Option Addr) (c d : Nat) (w : World) (hm0 : 18446744073709551616 ≤ m) (hm : m < 79228162514264337593543950336) (hp0 : 0 < p) (hp : p < 4294967296) (ha : Rd w 1 uEnc A 3 (qdigs m)) (hb : Rd w 1 uEnc YA 1 (qdigs p)) :
    Calls Tryz.prog 79 #[.slice A 3 c, .slice YA 1 d] w (Gives2 w (m / p) (m % p)) := by
  have HC := qcmp_any m p A YA 3 c 1 d w ha hb (by omega) (by omega)
  have hq : 0 ≤ qcmp m p := by unfold qcmp; rw [if_neg (by omega)]; split <;> omega
  generalize qcmp m p = z at HC hq
  have HC1 := hide HC
  obtain ⟨yb, yo, rfl, _⟩ := hb.2 (by omega)
  have d0 := qcell hb 0 (by have := hb.1; omega)
  have e0 : (qdigs p)[0]'(by have := hb.1; omega) = p := by
    have h1 := qdigs_one (show p ≠ 0 by omega) hp
    simp [h1]
  rw [e0, Nat.add_zero] at d0
  have hyl := World.block_lt_of_cell? _ _ d0
  have HS := hide (fun W (hW : Below w.heap.size w W) => qsmall_any (qdigs m) p A 3 c W (qdigs_dig m) hp0 hp (ha.below hW) (by omega))
  rw [qval_digs] at HS
  have HM : Hid (m % p < 4294967296) := by show _ < _; have := Nat.mod_lt m hp0; omega
  have HP : Hid (p < 4294967296) := hp
  obtain ⟨rr, hrr⟩ : ∃ rr, rr = m % p := ⟨_, rfl⟩
  rw [← hrr] at HS HM ⊢
  clear HC e0 hb ha hp hp0 hm hm0 hrr
  go_enter Tryz.func79, Tryz.ntmps79
  go_wp2_with fail
  refine HC1.out.mono ?_
  rintro e w1 ⟨rfl, hb1⟩
  have d1 := below_cell hb1 hyl d0
  go_wp2_with fail
  refine (HS.out _ hb1).mono ?_
  rintro e w2 ⟨g, c2, rfl, hr2, hc2, hg2, hb2⟩
  have hs1 := hb1.size
  have hb2 := bthen hb1 (Nat.le_refl _) hb2
  have hdg : QDig [rr] := by intro y hy; rw [List.mem_singleton] at hy; rw [hy]; exact HM.out
  have hqv : qval [rr] = rr := by simp [qval]
  go_wp2_with fail
  refine (qtrim_any [rr] hdg w2.heap.size 1 1 _ (Rd.lit w2 uEnc_ok [rr] 1 rfl _ _ (by simp [uEnc])) (by omega) (by omega)).mono ?_
  rintro e w3 ⟨rfl, hr3, k, rfl⟩
  rw [hqv] at hr3 ⊢
  have hle := qdigs_le _ hdg
  rw [hqv] at hle
  have hA : Below w2.heap.size w2 (w2.alloc (.cells #[.int .u32 (rr : Int)] 179)) := (Below.refl _ _).alloc (Nat.le_refl _) _
  have hs2 := hb2.size
  go_wp2_with fail
  go_ret2
  exact ⟨_, _, _, _, rfl, (hr2.below hA).below (bdrewN (Below.refl _ _) k), hr3.below (bdrewN (Below.refl _ _) k), (fun a o s e => by injection e with e; injection e with e; omega), (fun a o s e => by injection e with e; injection e with e; omega), hc2, hle, (fun e => by cases e), bdrewN (bthen hb2 (Nat.le_refl _) hA) k⟩

theorem qdivR_any (m p : Nat) (A YA : Option Addr) (c d : Nat) (w : World) (hm : m < 79228162514264337593543950336) (hp0 : 0 < p) (hp : p < 34359738368) (ha : Rd w 1 uEnc A (qdigs m).length (qdigs m)) (hb : Rd w 1 uEnc YA (qdigs p).length (qdigs p)) (hA : A = none → c = 0) :
    Calls Tryz.prog 79 #[.slice A (qdigs m).length c, .slice YA (qdigs p).length d] w (Gives2 w (m / p) (m % p)) := by
  have hl3 := qlen_2 (p := p) (by omega)
  by_cases hlt : m < p
  · exact qdiv_less m p A YA c d _ _ w hlt hm rfl rfl (qlen_pos hp0) hl3 (qdigs_3 hm) ha hb hA
  · by_cases h64 : m < 18446744073709551616
    · exact qdiv_plain m p A YA c d _ _ w (by omega) h64 hp0 (by omega) rfl rfl ha hb
    · have h3 : (qdigs m).length = 3 := by have := qdigs_more (p := m) (by omega); have := qdigs_3 hm; omega
      rw [h3] at ha ⊢
      by_cases h32 : p < 4294967296
      · have h1 : (qdigs p).length = 1 := by rw [qdigs_one (by omega) h32]; rfl
        rw [h1] at hb ⊢
        exact qdiv_word m p A YA c d w (by omega) hm hp0 h32 ha hb
      · have h1 : (qdigs p).length = 2 := by rw [qdigs_two (by omega) (by omega)]; rfl
        rw [h1] at hb ⊢
        exact qknuth_any m p A YA c d w (by omega) hm (by omega) hp ha hb
end Go.Proofs.YtbdbpcllndajgaaGreatDoor

namespace Go.Proofs.YtbdbpcllndajgaaGreatDoor
open Go Go.RowKit
set_option linter.unusedVariables false

/-- no memory, no room -/
def QNil (w : World) (g : Nat) : Prop := ∀ A n c, w.cell? ⟨g, 1, none⟩ = some (.slice A n c) → A = none → c = 0
theorem Rd.drewN {α : Type} {w : World} {sz n : Nat} {enc : α → List Value} {A : Option Addr} {l : List α} (h : Rd w sz enc A n l) (k : Nat) : Rd (w.drewN k) sz enc A n l := h.below (bdrewN (Below.refl _ _) k)

set_option maxHeartbeats 2000000 in
set_option maxRecDepth 100000 in
theorem qQuoRem2 {w : World} {B Bx By g gx gy gr p : Nat} {x : Int} (hX : QAt w Bx gx x) (hY : QAt w By gy (p : Int)) (hB : B ≤ w.heap.size) (hx : x.natAbs < 79228162514264337593543950336) (hp0 : 0 < p) (hp : p < 34359738368) (hz : x = 0 → w.cell? ⟨gx, 1, none⟩ = some (.slice none 0 0))
    (hBg : B ≤ g) (z0 : w.cell? ⟨g, 0, none⟩ = some (.bool false)) (z1 : w.cell? ⟨g, 1, none⟩ = some (.slice none 0 0)) (zf : ∀ o, w.frozen? ⟨g, o, none⟩ = false)
    (hgr : gr ≠ g) (hBr : B ≤ gr) (r0 : w.cell? ⟨gr, 0, none⟩ = some (.bool false)) (r1 : w.cell? ⟨gr, 1, none⟩ = some (.slice none 0 0)) (rf : ∀ o, w.frozen? ⟨gr, o, none⟩ = false) :
    Calls Tryz.prog 38 #[.pointer (some ⟨g, 0, none⟩), .pointer (some ⟨gx, 0, none⟩), .pointer (some ⟨gy, 0, none⟩), .pointer (some ⟨gr, 0, none⟩)] w
      fun e w' => e = .returned (.tuple #[.pointer (some ⟨g, 0, none⟩), .pointer (some ⟨gr, 0, none⟩)]) ∧ QAt w' B g (x.tdiv (p : Int)) ∧ QAt w' B gr (x.tmod (p : Int)) ∧ Below B w w' ∧ (∀ r : Option Nat, r ≠ some g → (∀ q, r = some q → q < w.heap.size) → QFree w' g r) ∧ QNil w' gr := by
  have c0 := hX.c0
  obtain ⟨A, c, c1, ha, hne, hc⟩ := hX.wds
  have d0 := hY.c0
  obtain ⟨YA, d, d1, hb, hne2, hd⟩ := hY.wds
  rw [show ((p : Int)).natAbs = p by simp] at d1 hb hd
  rw [show decide ((p : Int) < 0) = false from decide_eq_false (by omega)] at d0
  have hgl := World.block_lt_of_cell? _ _ z0
  have hrl := World.block_lt_of_cell? _ _ r0
  have hA0 : A = none → c = 0 := by
    intro hAn
    by_cases h : x = 0
    · have h1 := hz h
      rw [c1] at h1
      injection h1 with h1
      injection h1 with e1 e2 e3
    · obtain ⟨b, off, e, _⟩ := ha.2 (qlen_pos (by omega))
      rw [e] at hAn; cases hAn
  have HS : Hid (∀ W : World, Below w.heap.size w W → Calls Tryz.prog 79 #[.slice A (qdigs x.natAbs).length c, .slice YA (qdigs p).length d] W (Gives2 W (x.natAbs / p) (x.natAbs % p))) := fun W hW =>
    qdivR_any x.natAbs p A YA c d W hx hp0 hp (ha.below hW) (hb.below hW) hA0
  have HSG := hide (sgn_tdiv2 x p)
  have HSM := hide (sgn_tmod2 x p)
  have HX := hide zf
  have HR := hide rf
  obtain ⟨bx, hbx⟩ : ∃ bx, bx = decide (x < 0) := ⟨_, rfl⟩
  rw [← hbx] at c0 HSG HSM
  clear hbx hx hp0 hp hz hA0 ha hb hX hY rf zf hne hne2 hc hd
  go_enter Tryz.func38, Tryz.ntmps38
  go_wp2_with fail
  go_quiet (fail)
  have hwa : Below w.heap.size w (w.drewN nq) := bdrewN (Below.refl _ w) nq
  have c1 : (w.drewN nq).cell? ⟨gx, 1, none⟩ = _ := c1
  have d1 : (w.drewN nq).cell? ⟨gy, 1, none⟩ = _ := d1
  have z0 : (w.drewN nq).cell? ⟨g, 0, none⟩ = _ := z0
  have z1 : (w.drewN nq).cell? ⟨g, 1, none⟩ = _ := z1
  have r0 : (w.drewN nq).cell? ⟨gr, 0, none⟩ = _ := r0
  have r1 : (w.drewN nq).cell? ⟨gr, 1, none⟩ = _ := r1
  have hfg : ∀ o, (w.drewN nq).frozen? ⟨g, o, none⟩ = false := HX.out
  have hfr : ∀ o, (w.drewN nq).frozen? ⟨gr, o, none⟩ = false := HR.out
  have hsa : (w.drewN nq).heap.size = w.heap.size := rfl
  generalize w.drewN nq = wa at hwa c1 d1 z0 z1 r0 r1 hfg hfr hsa ⊢
  have HFG := hide hfg
  have HFR := hide hfr
  clear hfg hfr d0 c0
  go_wp2_with fail
  go_region_law (go_simp; go_at_call 79; refine (HS.out _ (bdrewN hwa 1)).mono ?_; rintro e w1 ⟨A1, A2, c', c2, rfl, hr, hr2, hg1, hg2, hle, hle2, hn2, hb1⟩)
  all_goals
    have hga : g < wa.drew.heap.size := by show g < wa.heap.size; omega
    have hgra : gr < wa.drew.heap.size := by show gr < wa.heap.size; omega
    have k0 := below_cell hb1 hga z0
    have k1 := below_cell hb1 hga z1
    have k2 := below_cell hb1 hgra r0
    have k3 := below_cell hb1 hgra r1
    have kf : ∀ o, w1.frozen? ⟨g, o, none⟩ = false := fun o => (hb1.frozen (p := ⟨g, o, none⟩) hga).trans (HFG.out o)
    have kr : ∀ o, w1.frozen? ⟨gr, o, none⟩ = false := fun o => (hb1.frozen (p := ⟨gr, o, none⟩) hgra).trans (HFR.out o)
    have h9 : wa.drew.heap.size = w.heap.size := hsa
    have h9b : (wa.drewN 1).heap.size = w.heap.size := hsa
    have HRD := hide hr
    have HRD2 := hide hr2
    have HG1 := hide hg1
    have HG2 := hide hg2
    have HBE := hide hb1
    have HKF := hide kf
    have HKR := hide kr
    have HN2 := hide hn2
    clear hr hr2 hg1 hg2 hb1 kf kr c1 d1 z0 z1 r0 r1 hn2
    go_wp2_with fail
    refine (qgive_any bx _ g c' _ _ _ _ rfl rfl k0 k1 HKF.out).mono ?_
    rintro e w2 ⟨rfl, k, rfl⟩
    have hQ := QAt.put (neg := bx) hBg k0 k1 HKF.out HRD.out (fun a o z e => by have := HG1.out a o z e; omega) hle
    have hsg := HSG.out
    unfold sgn at hsg
    simp only [Bool.bne_false] at hsg
    rw [hsg] at hQ
    have hQ := hQ.below (bdrewN (Below.refl _ _) k)
    have hbW : Below B w ((((w1.setCell ⟨g, 1, none⟩ (.slice A1 (qdigs (x.natAbs / p)).length c')).setCell ⟨g, 0, none⟩ (.bool (bx && decide (0 < (qdigs (x.natAbs / p)).length))))).drewN k) :=
      bdrewN ((((((hwa.trans ((bdrewN (Below.refl _ wa) 1).trans HBE.out |>.mono (by omega)))).mono hB).setCell hBg _).setCell hBg _)) k
    have m2 : ((((w1.setCell ⟨g, 1, none⟩ (.slice A1 (qdigs (x.natAbs / p)).length c')).setCell ⟨g, 0, none⟩ (.bool (bx && decide (0 < (qdigs (x.natAbs / p)).length))))).drewN k).cell? ⟨gr, 0, none⟩ = some (.bool false) := (World.cell?_setCell_other _ _ _ _ (by simp; try omega)).trans ((World.cell?_setCell_other _ _ _ _ (by simp; try omega)).trans k2)
    have m3 : ((((w1.setCell ⟨g, 1, none⟩ (.slice A1 (qdigs (x.natAbs / p)).length c')).setCell ⟨g, 0, none⟩ (.bool (bx && decide (0 < (qdigs (x.natAbs / p)).length))))).drewN k).cell? ⟨gr, 1, none⟩ = some (.slice none 0 0) := (World.cell?_setCell_other _ _ _ _ (by simp; try omega)).trans ((World.cell?_setCell_other _ _ _ _ (by simp; try omega)).trans k3)
    have mf : ∀ o, ((((w1.setCell ⟨g, 1, none⟩ (.slice A1 (qdigs (x.natAbs / p)).length c')).setCell ⟨g, 0, none⟩ (.bool (bx && decide (0 < (qdigs (x.natAbs / p)).length))))).drewN k).frozen? ⟨gr, o, none⟩ = false := fun o => by
      show ((w1.setCell _ _).setCell _ _).frozen? _ = _
      simp [HKR.out o]
    have mr : Rd ((((w1.setCell ⟨g, 1, none⟩ (.slice A1 (qdigs (x.natAbs / p)).length c')).setCell ⟨g, 0, none⟩ (.bool (bx && decide (0 < (qdigs (x.natAbs / p)).length))))).drewN k) 1 uEnc A2 (qdigs (x.natAbs % p)).length (qdigs (x.natAbs % p)) := ((HRD2.out.set_other (fun a o z e => by have := HG2.out a o z e; omega)).set_other (fun a o z e => by have := HG2.out a o z e; omega)).drewN k
    have hfree : ∀ r : Option Nat, r ≠ some g → (∀ q, r = some q → q < w.heap.size) → QFree ((((w1.setCell ⟨g, 1, none⟩ (.slice A1 (qdigs (x.natAbs / p)).length c')).setCell ⟨g, 0, none⟩ (.bool (bx && decide (0 < (qdigs (x.natAbs / p)).length))))).drewN k) g r := by
      intro r hr1 hr2
      refine ⟨hr1, fun A' n' c'' hcell h0 a o s e he => ?_⟩
      have h5 : ((((w1.setCell ⟨g, 1, none⟩ (.slice A1 (qdigs (x.natAbs / p)).length c')).setCell ⟨g, 0, none⟩ (.bool (bx && decide (0 < (qdigs (x.natAbs / p)).length))))).drewN k).cell? ⟨g, 1, none⟩ = some (.slice A1 (qdigs (x.natAbs / p)).length c') := (World.cell?_setCell_other _ _ _ _ (by simp)).trans (World.cell?_setCell_same _ ⟨g, 1, none⟩ _ k1)
      rw [h5] at hcell
      injection hcell with hcell
      injection hcell with e1 _ _
      subst e1
      have h6 := HG1.out a o s e
      have h7 := hr2 a he.symm
      omega
    generalize ((((w1.setCell ⟨g, 1, none⟩ (.slice A1 (qdigs (x.natAbs / p)).length c')).setCell ⟨g, 0, none⟩ (.bool (bx && decide (0 < (qdigs (x.natAbs / p)).length))))).drewN k) = W2 at hQ hbW m2 m3 mf mr hfree ⊢
    have HQ := hide hQ
    have HBW := hide hbW
    have HMF := hide mf
    have HMR := hide mr
    have HFE := hide hfree
    clear hQ hbW mf hfree k0 k1 k2 k3 mr
    go_wp2_with fail
    refine (qgive_any bx _ gr c2 A2 _ _ _ rfl rfl m2 m3 HMF.out).mono ?_
    rintro e w3 ⟨rfl, k3, rfl⟩
    go_wp2_with fail
    go_ret2
    have hg3 : W2.grownBy (((W2.setCell ⟨gr, 1, none⟩ (.slice A2 (qdigs (x.natAbs % p)).length c2)).setCell ⟨gr, 0, none⟩ (.bool (bx && decide (0 < (qdigs (x.natAbs % p)).length)))).drewN k3) (some gr) := only_drewN (only_setCell (only_setCell (only_refl W2 (some gr)) _ _) _ _) k3
    have hQr := QAt.put (neg := bx) hBr m2 m3 HMF.out HMR.out (fun a o z e => by have := HG2.out a o z e; omega) hle2
    have hsm := HSM.out
    unfold sgn at hsm
    rw [hsm] at hQr
    have hgg : QFree W2 g (some gr) := HFE.out _ (fun e => hgr (by injection e)) (fun q e => by injection e with e; omega)
    obtain ⟨hQ4, hF4⟩ := HQ.out.grown hgg hg3
    refine ⟨rfl, hQ4, hQr.below (bdrewN (Below.refl _ _) k3), bdrewN ((HBW.out.setCell hBr _).setCell hBr _) k3, fun r h1 h2 => hF4 _ (HFE.out r h1 h2), ?_⟩
    intro A' n' c'' hcell hA'
    have h5 : (((W2.setCell ⟨gr, 1, none⟩ (.slice A2 (qdigs (x.natAbs % p)).length c2)).setCell ⟨gr, 0, none⟩ (.bool (bx && decide (0 < (qdigs (x.natAbs % p)).length)))).drewN k3).cell? ⟨gr, 1, none⟩ = some (.slice A2 (qdigs (x.natAbs % p)).length c2) := (World.cell?_setCell_other _ _ _ _ (by simp)).trans (World.cell?_setCell_same _ ⟨gr, 1, none⟩ _ m3)
    rw [h5] at hcell
    injection hcell with hcell
    injection hcell with e1 _ e3
    rw [← e3]
    exact HN2.out (e1.trans hA')

set_option maxRecDepth 100000 in
theorem qAbs_self {w : World} {B g : Nat} {x : Int} (h : QAt w B g x) (hB : B ≤ w.heap.size) (hx : x.natAbs < 79228162514264337593543950336) (hn : QNil w g) :
    Calls Tryz.prog 39 #[.pointer (some ⟨g, 0, none⟩), .pointer (some ⟨g, 0, none⟩)] w
      fun e w' => e = .returned (.pointer (some ⟨g, 0, none⟩)) ∧ QAt w' B g (x.natAbs : Int) ∧ Below B w w' ∧ w.grownBy w' (some g) ∧ (∀ r : Option Nat, r ≠ some g → (∀ q, r = some q → q < w.heap.size) → QFree w' g r) := by
  have c0 := h.c0
  obtain ⟨A, c, c1, ha, hne, hc⟩ := h.wds
  have hl := qdigs_3 hx
  have hA := hn A _ c c1
  have hgl := h.lt
  have HT := hide (fun W (hW : Below w.heap.size w W) => qtwin2_any (qdigs x.natAbs) A _ c W (ha.below hW) hA (by omega))
  have HG := hide h
  clear hl hA ha hn h hx hne hc
  go_enter Tryz.func39, Tryz.ntmps39
  go_wp2_with fail
  refine (HT.out _ (Below.refl _ _)).mono ?_
  rintro e w1 ⟨A1, c', rfl, hr, hg1, hle, _, hb1⟩
  have k0 := below_cell hb1 hgl c0
  have k1 := below_cell hb1 hgl c1
  have kf : ∀ o, w1.frozen? ⟨g, o, none⟩ = false := fun o => (hb1.frozen (p := ⟨g, o, none⟩) hgl).trans (HG.out.fr o)
  go_wp2_with fail
  refine (qgive_any false _ g c' _ _ _ _ rfl rfl k0 k1 kf).mono ?_
  rintro e w2 ⟨rfl, k, rfl⟩
  go_wp2_with fail
  go_ret
  have hQ := QAt.put (neg := false) HG.out.gB k0 k1 kf hr (fun a o z e => by have := hg1 a o z e; omega) hle
  rw [if_neg (by decide)] at hQ
  refine ⟨rfl, hQ.below (bdrewN (Below.refl _ _) k), bdrewN (((hb1.mono hB).setCell HG.out.gB _).setCell HG.out.gB _) k, only_drewN (only_setCell (only_setCell ⟨hb1.os, hb1.tape, hb1.output, hb1.size, fun i hi _ => hb1.block i hi⟩ _ _) _ _) k, fun r hr1 hr2 => ⟨hr1, fun A' n' c'' hcell h0 a o s e he => ?_⟩⟩
  have h5 : (((w1.setCell ⟨g, 1, none⟩ (.slice A1 (qdigs x.natAbs).length c')).setCell ⟨g, 0, none⟩ (.bool false)).drewN k).cell? ⟨g, 1, none⟩ = some (.slice A1 (qdigs x.natAbs).length c') := (World.cell?_setCell_other _ _ _ _ (by simp)).trans (World.cell?_setCell_same _ ⟨g, 1, none⟩ _ k1)
  rw [h5] at hcell
  injection hcell with hcell
  injection hcell with e1 _ _
  subst e1
  have h6 := hg1 a o s e
  have h7 := hr2 a he.symm
  omega

set_option maxRecDepth 100000 in
theorem qSign_any {w : World} {B g : Nat} {x : Int} (h : QAt w B g x) : Calls Tryz.prog 42 #[.pointer (some ⟨g, 0, none⟩)] w fun e w' => e = .returned (.int .i64 x.sign) ∧ ∃ k, w' = w.drewN k := by
  have c0 := h.c0
  obtain ⟨A, c, c1, ha, hne, hc⟩ := h.wds
  by_cases h0 : x = 0
  · subst h0
    have e0 : (qdigs (0 : Int).natAbs).length = 0 := by rw [Int.natAbs_zero, qdigs_0]; rfl
    rw [e0] at c1
    clear h ha hc
    go_enter Tryz.func42, Tryz.ntmps42
    go_wp2_with fail
    go_ret
    exact ⟨rfl, 0, rfl⟩
  · have hl := qlen_pos (p := x.natAbs) (by omega)
    generalize (qdigs x.natAbs).length = L at c1 hl
    have hl1 : ((L : Int) == 0) = false := by rw [beq_eq_false_iff_ne]; omega
    have hl2 : ¬ L = 0 := by omega
    by_cases hx : x < 0
    · have hd : decide (x < 0) = true := by simpa using hx
      have hs : x.sign = -1 := Int.sign_eq_neg_one_of_neg hx
      rw [hd] at c0
      rw [hs]
      clear h ha hc hx hd hs h0
      go_enter Tryz.func42, Tryz.ntmps42
      go_wp2_with fail
      go_ret
      exact ⟨rfl, 0, rfl⟩
    · have hd : decide (x < 0) = false := by simpa using hx
      have hs : x.sign = 1 := Int.sign_eq_one_of_pos (by omega)
      rw [hd] at c0
      rw [hs]
      clear h ha hc hx hd hs h0
      go_enter Tryz.func42, Tryz.ntmps42
      go_wp2_with fail
      go_ret
      exact ⟨rfl, 0, rfl⟩

/-- -1, 0 or 1 -/
def cmpQ (x y : Int) : Int := if x < y then -1 else if x = y then 0 else 1
set_option maxRecDepth 100000 in
theorem qCmp_any {w : World} {B By g gy : Nat} {x y : Int} (hX : QAt w B g x) (hY : QAt w By gy y) (hx : x.natAbs < 79228162514264337593543950336) (hy : y.natAbs < 79228162514264337593543950336) :
    Calls Tryz.prog 43 #[.pointer (some ⟨g, 0, none⟩), .pointer (some ⟨gy, 0, none⟩)] w fun e w' => e = .returned (.int .i64 (cmpQ x y)) ∧ Below w.heap.size w w' := by
  have c0 := hX.c0
  obtain ⟨A, c, c1, ha, hne, hc⟩ := hX.wds
  have d0 := hY.c0
  obtain ⟨YA, d, d1, hb, hne2, hd⟩ := hY.wds
  have hn := qdigs_3 hx
  have hm := qdigs_3 hy
  have HC := hide (fun W (hW : Below w.heap.size w W) => qcmp_any x.natAbs y.natAbs A YA _ c _ d W (ha.below hW) (hb.below hW) (by omega) (by omega))
  have hgl := hX.lt
  clear ha hb hn hm hX hY hx hy hne hne2 hc hd
  cases hs : decide (x < 0) with
  | true =>
    have hx0 : x < 0 := by simpa using hs
    rw [hs] at c0
    cases ht : decide (y < 0) with
    | true =>
      have hy0 : y < 0 := by simpa using ht
      rw [ht] at d0
      have HZ : Hid (-qcmp x.natAbs y.natAbs = cmpQ x y) := by
        show _ = _
        unfold qcmp cmpQ
        repeat' split
        all_goals omega
      have hzb : -1 ≤ qcmp x.natAbs y.natAbs ∧ qcmp x.natAbs y.natAbs ≤ 1 := by
        unfold qcmp
        repeat' split
        all_goals omega
      generalize qcmp x.natAbs y.natAbs = z at HC HZ hzb
      obtain ⟨hz1, hz2⟩ := hzb
      clear hs ht hx0 hy0
      go_enter Tryz.func43, Tryz.ntmps43
      go_wp2_with fail
      go_quiet (fail)
      go_wp2_with fail
      refine wp_region_still_tail 8 (by kernel_rfl) (by kernel_rfl) ?_
      simp only [List.take_succ_cons, List.take_zero, List.drop_succ_cons, List.drop_zero]
      change wpStill _ _ (w.drewN nq).drew _ _ _
      repeat still_step
      refine wpStill_nil ?_
      change wpList _ _ _ _ _ (w.drewN nq).drew
      go_wp2_with fail
      refine (HC.out _ (bdrewN (Below.refl _ w) (nq + 1))).mono ?_
      rintro e w1 ⟨rfl, hb1⟩
      have c0' := below_cell hb1 hgl c0
      have hb1 : Below w.heap.size w w1 := (bdrewN (Below.refl _ w) (nq + 1)).trans hb1
      go_wp2_with fail
      go_ret
      exact ⟨by rw [← HZ.out]; rfl, hb1⟩
    | false =>
      have hy0 : ¬ y < 0 := by simpa using ht
      rw [ht] at d0
      have HZ : Hid (-1 = cmpQ x y) := by show _ = _; unfold cmpQ; rw [if_pos (by omega)]
      clear hs ht hx0 hy0
      go_enter Tryz.func43, Tryz.ntmps43
      go_wp2_with fail
      go_quiet (fail)
      go_wp2_with fail
      go_ret
      exact ⟨by rw [← HZ.out]; rfl, bdrewN (Below.refl _ w) _⟩
  | false =>
    have hx0 : ¬ x < 0 := by simpa using hs
    rw [hs] at c0
    cases ht : decide (y < 0) with
    | true =>
      have hy0 : y < 0 := by simpa using ht
      rw [ht] at d0
      have HZ : Hid (1 = cmpQ x y) := by show _ = _; unfold cmpQ; rw [if_neg (by omega), if_neg (by omega)]
      clear hs ht hx0 hy0
      go_enter Tryz.func43, Tryz.ntmps43
      go_wp2_with fail
      go_quiet (fail)
      go_wp2_with fail
      go_ret
      exact ⟨by rw [← HZ.out]; rfl, bdrewN (Below.refl _ w) _⟩
    | false =>
      have hy0 : ¬ y < 0 := by simpa using ht
      rw [ht] at d0
      have HZ : Hid (qcmp x.natAbs y.natAbs = cmpQ x y) := by
        show _ = _
        unfold qcmp cmpQ
        repeat' split
        all_goals omega
      generalize qcmp x.natAbs y.natAbs = z at HC HZ
      clear hs ht hx0 hy0
      go_enter Tryz.func43, Tryz.ntmps43
      go_wp2_with fail
      go_quiet (fail)
      go_wp2_with fail
      refine wp_region_still_tail 8 (by kernel_rfl) (by kernel_rfl) ?_
      simp only [List.take_succ_cons, List.take_zero, List.drop_succ_cons, List.drop_zero]
      change wpStill _ _ (w.drewN nq).drew _ _ _
      repeat still_step
      refine wpStill_nil ?_
      change wpList _ _ _ _ _ (w.drewN nq).drew
      go_wp2_with fail
      refine (HC.out _ (bdrewN (Below.refl _ w) (nq + 1))).mono ?_
      rintro e w1 ⟨rfl, hb1⟩
      have c0' := below_cell hb1 hgl c0
      have hb1 : Below w.heap.size w w1 := (bdrewN (Below.refl _ w) (nq + 1)).trans hb1
      go_wp2_with fail
      go_ret
      exact ⟨by rw [← HZ.out]; rfl, hb1⟩
theorem qsetF_any (x : Int) (g : Nat) (u0 u1 : Value) (w : World) (B : Nat) (hB : B ≤ g) (h0 : -9223372036854775808 ≤ x) (h1 : x ≤ 9223372036854775807) (hu0 : u0.oneCell' = true) (hu1 : u1.oneCell' = true)
    (c0 : w.cell? ⟨g, 0, none⟩ = some u0) (c1 : w.cell? ⟨g, 1, none⟩ = some u1) (fr : ∀ o, w.frozen? ⟨g, o, none⟩ = false) :
    Calls Tryz.prog 123 #[.pointer (some ⟨g, 0, none⟩), .int .i64 x] w
      fun e w' => e = .returned (.pointer (some ⟨g, 0, none⟩)) ∧ QAt w' B g x ∧ Below B w w' ∧ (∀ r : Option Nat, r ≠ some g → (∀ q, r = some q → q < w.heap.size) → QFree w' g r) := by
  have hg : g < w.heap.size := World.block_lt_of_cell? _ _ c0
  have hfin : ∀ (w1 : World) (c : Nat), Below w.heap.size w w1 → Rd w1 1 uEnc (some ⟨w.heap.size, 0, none⟩) (qdigs x.natAbs).length (qdigs x.natAbs) → (qdigs x.natAbs).length ≤ c →
      Calls Tryz.prog 77 #[.pointer (some ⟨g, 0, none⟩), .bool (decide (x < 0)), .slice (some ⟨w.heap.size, 0, none⟩) (qdigs x.natAbs).length c] w1
        fun e w' => e = .returned (.pointer (some ⟨g, 0, none⟩)) ∧ QAt w' B g x ∧ Below B w w' ∧ (∀ r : Option Nat, r ≠ some g → (∀ q, r = some q → q < w.heap.size) → QFree w' g r) := by
    intro w1 c hb1 hr hc
    refine (qgive_any (decide (x < 0)) _ g c _ u0 u1 w1 hu0 hu1 (below_cell hb1 hg c0) (below_cell hb1 hg c1) (fun o => (hb1.frozen (p := ⟨g, o, none⟩) hg).trans (fr o))).mono ?_
    rintro e w2 ⟨rfl, k, rfl⟩
    have hQ := QAt.put (neg := decide (x < 0)) hB (below_cell hb1 hg c0) (below_cell hb1 hg c1) (fun o => (hb1.frozen (p := ⟨g, o, none⟩) hg).trans (fr o)) hr (fun a o s e => by injection e with e; injection e with e; omega) hc
    have hx := sgn_of x
    unfold sgn at hx
    rw [hx] at hQ
    refine ⟨rfl, hQ.below (bdrewN (Below.refl _ _) k), bdrewN (((hb1.mono (by omega)).setCell hB _).setCell hB _) k, fun r hr1 hr2 => ⟨hr1, fun A' n' c'' hcell h0 a o s e he => ?_⟩⟩
    have h5 : (((w1.setCell ⟨g, 1, none⟩ (.slice (some ⟨w.heap.size, 0, none⟩) (qdigs x.natAbs).length c)).setCell ⟨g, 0, none⟩ (.bool (decide (x < 0) && decide (0 < (qdigs x.natAbs).length)))).drewN k).cell? ⟨g, 1, none⟩ = some (.slice (some ⟨w.heap.size, 0, none⟩) (qdigs x.natAbs).length c) := (World.cell?_setCell_other _ _ _ _ (by simp)).trans (World.cell?_setCell_same _ ⟨g, 1, none⟩ _ (below_cell hb1 hg c1))
    rw [h5] at hcell
    injection hcell with hcell
    injection hcell with e1 _ _
    rw [e] at e1
    injection e1 with e1
    injection e1 with e1 _ _
    have h7 := hr2 a he.symm
    omega
  by_cases hx : x < 0
  · have hd : decide (x < 0) = true := by simpa using hx
    have hw := wrap_neg x h0 hx
    rw [hd] at hfin
    have HF := hide hfin
    clear hfin
    go_enter Tryz.func123, Tryz.ntmps123
    go_wp2_with fail
    refine (qwords_any x.natAbs (by omega) _).mono ?_
    rintro e w1 ⟨c, rfl, hr, hc, hb1⟩
    go_wp2_with fail
    refine (HF.out w1 c hb1 hr hc).mono ?_
    rintro e w2 ⟨rfl, hQ, hb2, hF2⟩
    go_wp2_with fail
    go_ret
    exact ⟨rfl, hQ, hb2, hF2⟩
  · obtain ⟨m, rfl⟩ : ∃ m : Nat, x = m := ⟨x.natAbs, by omega⟩
    have hd : decide ((m : Int) < 0) = false := by simp
    rw [hd, Int.natAbs_natCast] at hfin
    have HF := hide hfin
    clear hfin
    go_enter Tryz.func123, Tryz.ntmps123
    go_wp2_with fail
    refine (qwords_any m (by omega) _).mono ?_
    rintro e w1 ⟨c, rfl, hr, hc, hb1⟩
    go_wp2_with fail
    refine (HF.out w1 c hb1 hr hc).mono ?_
    rintro e w2 ⟨rfl, hQ, hb2, hF2⟩
    go_wp2_with fail
    go_ret
    exact ⟨rfl, hQ, hb2, hF2⟩
theorem qnewF_any (x : Int) (w : World) (h0 : -9223372036854775808 ≤ x) (h1 : x ≤ 9223372036854775807) :
    Calls Tryz.prog 76 #[.int .i64 x] w fun e w' => ∃ g, e = .returned (.pointer (some ⟨g, 0, none⟩)) ∧ QAt w' w.heap.size g x ∧ Below w.heap.size w w' ∧ (∀ r : Option Nat, r ≠ some g → (∀ q, r = some q → q < w.heap.size) → QFree w' g r) := by
  go_enter Tryz.func76, Tryz.ntmps76
  go_wp2_with fail
  have c0 : (w.alloc (.cells #[.bool false, .slice none 0 0] 79)).cell? ⟨w.heap.size, 0, none⟩ = some (.bool false) := by simp
  have c1 : (w.alloc (.cells #[.bool false, .slice none 0 0] 79)).cell? ⟨w.heap.size, 1, none⟩ = some (.slice none 0 0) := by simp
  refine (qsetF_any x w.heap.size _ _ _ w.heap.size (Nat.le_refl _) h0 h1 rfl rfl c0 c1 (fun o => by simp)).mono ?_
  rintro e w1 ⟨rfl, hQ, hb, hF⟩
  go_wp2_with fail
  go_ret
  exact ⟨_, rfl, hQ, ((Below.refl _ _).alloc (Nat.le_refl _) _).trans hb, fun r h1 h2 => hF r h1 (fun q e => by have := h2 q e; simp; omega)⟩
theorem refBigF_any (x : Int) (w : World) (h0 : -9223372036854775808 ≤ x) (h1 : x ≤ 9223372036854775807) :
    Calls Tryz.prog 36 #[.int .i64 x] w fun e w' => ∃ g, e = .returned (.pointer (some ⟨g, 0, none⟩)) ∧ QAt w' w.heap.size g x ∧ Below w.heap.size w w' ∧ (∀ r : Option Nat, r ≠ some g → (∀ q, r = some q → q < w.heap.size) → QFree w' g r) := by
  go_enter Tryz.func36, Tryz.ntmps36
  go_wp2_with fail
  refine (qnewF_any x _ h0 h1).mono ?_
  rintro e w1 ⟨g, rfl, hQ, hb, hF⟩
  go_wp2_with fail
  go_ret
  exact ⟨g, rfl, hQ, hb, hF⟩
end Go.Proofs.YtbdbpcllndajgaaGreatDoor
