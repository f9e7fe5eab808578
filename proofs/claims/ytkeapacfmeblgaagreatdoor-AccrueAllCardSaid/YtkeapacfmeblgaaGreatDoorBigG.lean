/- Great numbers: add, sub, cmp by value. -/
import Derived.Test.YtkeapacfmeblgaaGreatDoorBigF
namespace Go.Proofs.YtkeapacfmeblgaaGreatDoor
open Go Go.RowKit
set_option linter.unusedVariables false

/-- three ways two numbers can lie -/
def cmpN (a b : Nat) : Int := if a < b then -1 else if b < a then 1 else 0

theorem drewN_sum3 {w : World} {a b c : Nat} : ((w.drewN a).drewN b).drewN c = w.drewN (a + b + c) := by rw [drewN_add, drewN_add, Nat.add_assoc]
theorem drewN_sum4 {w : World} {a b c d : Nat} : (((w.drewN a).drewN b).drewN c).drewN d = w.drewN (a + b + c + d) := by rw [drewN_add, drewN_add, drewN_add, Nat.add_assoc, Nat.add_assoc]
set_option maxRecDepth 100000 in
theorem natCmp_11 (g c yb yo yc x y : Nat) (w : World) (hcx : w.cell? ⟨g, 0, none⟩ = some (.int .u64 (x : Int))) (hcy : w.cell? ⟨yb, yo, none⟩ = some (.int .u64 (y : Int))) :
    Calls Tryz.prog 62 #[.slice (some ⟨g, 0, none⟩) 1 c, .slice (some ⟨yb, yo, none⟩) 1 yc] w fun e w' => e = .returned (.int .i64 (cmpN x y)) ∧ ∃ n, w' = w.drewN n := by
  by_cases h1 : x < y
  · have hf : cmpN x y = -1 := if_pos h1
    rw [hf]; clear hf
    have h1' : (x : Int) < (y : Int) := by omega
    have h1d : decide ((x : Int) < (y : Int)) = true := by simpa using h1
    go_enter Tryz.func62, Tryz.ntmps62
    go_wp2_with fail
    go_loopw [7] (fun iv wr => iv = .int .i64 0 ∧ ∃ n, wr = w.drewN n) (fun _ _ => 0)
    case atStart => exact ⟨rfl, 0, rfl⟩
    case round =>
      obtain ⟨rfl, n0, rfl⟩ := hrel
      have hcx0 : (w.drewN n0).cell? ⟨g, 0, none⟩ = some (.int .u64 (x : Int)) := hcx
      have hcy0 : (w.drewN n0).cell? ⟨yb, yo, none⟩ = some (.int .u64 (y : Int)) := hcy
      go_wp2_with fail
      go_quiet (fail)
      go_wp2_with fail
      go_quiet (fail)
      go_wp2_with fail
      go_ret
      exact ⟨rfl, _, drewN_sum3⟩
  · by_cases h2 : y < x
    · have hf : cmpN x y = 1 := by unfold cmpN; rw [if_neg h1, if_pos h2]
      rw [hf]; clear hf
      have h1' : ¬ (x : Int) < (y : Int) := by omega
      have h2' : (y : Int) < (x : Int) := by omega
      go_enter Tryz.func62, Tryz.ntmps62
      go_wp2_with fail
      go_loopw [7] (fun iv wr => iv = .int .i64 0 ∧ ∃ n, wr = w.drewN n) (fun _ _ => 0)
      case atStart => exact ⟨rfl, 0, rfl⟩
      case round =>
        obtain ⟨rfl, n0, rfl⟩ := hrel
        have hcx0 : (w.drewN n0).cell? ⟨g, 0, none⟩ = some (.int .u64 (x : Int)) := hcx
        have hcy0 : (w.drewN n0).cell? ⟨yb, yo, none⟩ = some (.int .u64 (y : Int)) := hcy
        go_wp2_with fail
        go_quiet (fail)
        go_wp2_with fail
        go_quiet (fail)
        go_wp2_with fail
        go_quiet (fail)
        go_wp2_with fail
        go_ret
        exact ⟨rfl, _, drewN_sum4⟩
    · have hf : cmpN x y = 0 := by unfold cmpN; rw [if_neg h1, if_neg h2]
      rw [hf]; clear hf
      have h1' : ¬ (x : Int) < (y : Int) := by omega
      have h2' : ¬ (y : Int) < (x : Int) := by omega
      go_enter Tryz.func62, Tryz.ntmps62
      go_wp2_with fail
      go_loopw [7] (fun iv wr => iv = .int .i64 0 ∧ ∃ n, wr = w.drewN n) (fun _ _ => 0)
      case atStart => exact ⟨rfl, 0, rfl⟩
      case round =>
        obtain ⟨rfl, n0, rfl⟩ := hrel
        have hcx0 : (w.drewN n0).cell? ⟨g, 0, none⟩ = some (.int .u64 (x : Int)) := hcx
        have hcy0 : (w.drewN n0).cell? ⟨yb, yo, none⟩ = some (.int .u64 (y : Int)) := hcy
        go_wp2_with fail
        go_quiet (fail)
        go_wp2_with fail
        go_quiet (fail)
        go_wp2_with fail
        go_quiet (fail)
        go_wp2_with fail
        go_ret
        exact ⟨rfl, _, drewN_sum4⟩

/-- a slice that reads as a number's words -/
def YWds (w : World) (YA : Option Addr) (yn : Nat) (b : Nat) : Prop := Rd w 1 wEnc YA yn (wordsOf b) ∧ b < W64
theorem YWds.cases {w : World} {YA : Option Addr} {yn b : Nat} (h : YWds w YA yn b) : (b = 0 ∧ yn = 0) ∨ (b ≠ 0 ∧ yn = 1 ∧ ∃ yb yo, YA = some ⟨yb, yo, none⟩ ∧ w.cell? ⟨yb, yo, none⟩ = some (.int .u64 (b : Int))) := by
  by_cases hb : b = 0
  · subst hb
    exact .inl ⟨rfl, h.1.1.symm⟩
  · have hw := wordsOf_1 hb h.2
    have h1 := h.1
    rw [hw] at h1
    have hl : yn = 1 := h1.1.symm
    obtain ⟨yb, yo, e, hc⟩ := h1.2 (by omega)
    have := hc 0 0 _ (by simp) rfl
    rw [show yo + 0 * 1 + 0 = yo from by omega] at this
    exact .inr ⟨hb, hl, yb, yo, e, this⟩

theorem natAddV (B a b n c yn yc : Nat) (A YA : Option Addr) (w : World) (hBw : B ≤ w.heap.size) (ha : a + b < W64 * W64) (h : Wds w B (.slice A n c) (wordsOf a)) (hn : n = (wordsOf a).length) (hy : YWds w YA yn b) (hyc : yn ≤ yc) :
    Calls Tryz.prog 152 #[.slice A n c, .slice A n c, .slice YA yn yc] w fun e w' => ∃ V', e = .returned V' ∧ Gave w w' B (.slice A n c) V' (wordsOf (a + b)) := by
  by_cases h0 : a = 0
  · subst h0
    rw [wordsOf_0] at h hn
    have hn' : n = 0 := hn
    subst hn'
    rw [Nat.zero_add]
    rcases hy.cases with ⟨rfl, rfl⟩ | ⟨hb, rfl, yb, yo, rfl, hcy⟩
    · exact natAdd_00 B c yc A YA w h
    · exact natAdd_01 B c b yb yo yc A w hBw hy.2 hb h hcy
  · by_cases h1 : a < W64
    · have hw := wordsOf_1 h0 h1
      rw [hw] at h hn
      have hn' : n = 1 := hn
      subst hn'
      obtain ⟨g, rfl⟩ := h.addr (by simp)
      rcases hy.cases with ⟨rfl, rfl⟩ | ⟨hb, rfl, yb, yo, rfl, hcy⟩
      · rw [Nat.add_zero, hw]
        exact natAdd_self B g 1 c yc YA [a] w h rfl (by omega) (by omega)
      · exact natAdd_11 B g c a b yb yo yc w h1 hy.2 hBw h hcy hyc
    · have hw := wordsOf_2 (Nat.le_of_not_lt h1)
      have hs : a % W64 + W64 * (a / W64) = a := Nat.mod_add_div a W64
      have hx0 : a % W64 < W64 := Nat.mod_lt _ (by decide)
      have hx1 : a / W64 < W64 := by unfold W64 at *; omega
      rw [hw] at h hn
      have hn' : n = 2 := hn
      subst hn'
      obtain ⟨g, rfl⟩ := h.addr (by simp)
      rcases hy.cases with ⟨rfl, rfl⟩ | ⟨hb, rfl, yb, yo, rfl, hcy⟩
      · rw [Nat.add_zero, hw]
        exact natAdd_self B g 2 c yc YA _ w h rfl (by omega) (by omega)
      · have := natAdd_21 B g c (a % W64) (a / W64) b yb yo yc w hx0 hx1 hy.2 (by rw [hs]; exact ha) h hcy hyc
        rwa [hs] at this

theorem natSubV (B a b n c yn yc : Nat) (A YA : Option Addr) (w : World) (ha : a < W64 * W64) (hab : b ≤ a) (h0 : a ≠ 0) (h : Wds w B (.slice A n c) (wordsOf a)) (hn : n = (wordsOf a).length) (hy : YWds w YA yn b) (hyc : yn ≤ yc) :
    Calls Tryz.prog 153 #[.slice A n c, .slice A n c, .slice YA yn yc] w fun e w' => ∃ V', e = .returned V' ∧ Gave w w' B (.slice A n c) V' (wordsOf (a - b)) := by
  by_cases h1 : a < W64
  · have hw := wordsOf_1 h0 h1
    rw [hw] at h hn
    have hn' : n = 1 := hn
    subst hn'
    obtain ⟨g, rfl⟩ := h.addr (by simp)
    rcases hy.cases with ⟨rfl, rfl⟩ | ⟨hb, rfl, yb, yo, rfl, hcy⟩
    · rw [Nat.sub_zero, hw]
      exact natSub_self B g 1 c yc YA [a] w h rfl (by omega) (by omega)
    · exact natSub_11 B g c a b yb yo yc w h1 hy.2 hab h hcy hyc
  · have hw := wordsOf_2 (Nat.le_of_not_lt h1)
    have hs : a % W64 + W64 * (a / W64) = a := Nat.mod_add_div a W64
    have hx0 : a % W64 < W64 := Nat.mod_lt _ (by decide)
    have hx1 : a / W64 < W64 := by unfold W64 at *; omega
    have hx2 : a / W64 ≠ 0 := by unfold W64 at *; omega
    rw [hw] at h hn
    have hn' : n = 2 := hn
    subst hn'
    obtain ⟨g, rfl⟩ := h.addr (by simp)
    rcases hy.cases with ⟨rfl, rfl⟩ | ⟨hb, rfl, yb, yo, rfl, hcy⟩
    · rw [Nat.sub_zero, hw]
      exact natSub_self B g 2 c yc YA _ w h rfl (by omega) (by omega)
    · have := natSub_21 B g c (a % W64) (a / W64) b yb yo yc w hx0 hx1 hx2 hy.2 h hcy hyc
      rwa [hs] at this

theorem natSubT (B a b n c yn yc : Nat) (A YA : Option Addr) (w : World) (hBw : B ≤ w.heap.size) (hab : a < b) (h : Wds w B (.slice A n c) (wordsOf a)) (hn : n = (wordsOf a).length) (hy : YWds w YA yn b) (hyc : yn ≤ yc) :
    Calls Tryz.prog 153 #[.slice A n c, .slice YA yn yc, .slice A n c] w fun e w' => ∃ V', e = .returned V' ∧ Gave w w' B (.slice A n c) V' (wordsOf (b - a)) := by
  have hb64 := hy.2
  rcases hy.cases with ⟨rfl, rfl⟩ | ⟨hb, rfl, yb, yo, rfl, hcy⟩
  · omega
  · by_cases h0 : a = 0
    · subst h0
      rw [wordsOf_0] at h hn
      have hn' : n = 0 := hn
      subst hn'
      exact natSub_y0 B c b yb yo yc A w hBw hy.2 hb h hcy
    · have hw := wordsOf_1 h0 (show a < W64 by omega)
      rw [hw] at h hn
      have hn' : n = 1 := hn
      subst hn'
      obtain ⟨g, rfl⟩ := h.addr (by simp)
      exact natSub_t B g c a b yb yo yc w (by omega) hy.2 (by omega) h hcy hyc

theorem natCmpV (B a b n c yn yc : Nat) (A YA : Option Addr) (w : World) (ha : a < W64 * W64) (h : Wds w B (.slice A n c) (wordsOf a)) (hn : n = (wordsOf a).length) (hy : YWds w YA yn b) (hyc : yn ≤ yc) :
    Calls Tryz.prog 62 #[.slice A n c, .slice YA yn yc] w fun e w' => e = .returned (.int .i64 (cmpN a b)) ∧ ∃ n, w' = w.drewN n := by
  have hb64 := hy.2
  by_cases h0 : a = 0
  · subst h0
    have hn' : n = 0 := hn
    subst hn'
    rcases hy.cases with ⟨rfl, rfl⟩ | ⟨hb, rfl, yb, yo, rfl, hcy⟩
    · exact natCmp_len 0 0 c yc A YA w (by omega) (by omega) (by omega)
    · have := natCmp_len 0 1 c yc A (some ⟨yb, yo, none⟩) w (by omega) (by omega) (by omega)
      rwa [show cmpN 0 b = -1 from if_pos (by omega)]
  · by_cases h1 : a < W64
    · have hw := wordsOf_1 h0 h1
      rw [hw] at h hn
      have hn' : n = 1 := hn
      subst hn'
      obtain ⟨g, rfl⟩ := h.addr (by simp)
      rcases hy.cases with ⟨rfl, rfl⟩ | ⟨hb, rfl, yb, yo, rfl, hcy⟩
      · have := natCmp_len 1 0 c yc (some ⟨g, 0, none⟩) YA w (by omega) (by omega) (by omega)
        rwa [show cmpN a 0 = 1 from by unfold cmpN; rw [if_neg (by omega), if_pos (by omega)]]
      · obtain ⟨cur, hrow, hcs, hct, _⟩ := h.row
        have hx := cell_head hrow hct 0 (by simp)
        exact natCmp_11 g c yb yo yc a b w hx hcy
    · have hw := wordsOf_2 (Nat.le_of_not_lt h1)
      rw [hw] at hn
      have hn' : n = 2 := hn
      subst hn'
      rcases hy.cases with ⟨rfl, rfl⟩ | ⟨hb, rfl, yb, yo, rfl, hcy⟩
      · have := natCmp_len 2 0 c yc A YA w (by omega) (by omega) (by omega)
        rwa [show cmpN a 0 = 1 from by unfold cmpN; rw [if_neg (by omega), if_pos (by omega)]]
      · have := natCmp_len 2 1 c yc A (some ⟨yb, yo, none⟩) w (by omega) (by omega) (by omega)
        rwa [show cmpN a b = 1 from by unfold cmpN; rw [if_neg (by omega), if_pos (by omega)]]
end Go.Proofs.YtkeapacfmeblgaaGreatDoor
