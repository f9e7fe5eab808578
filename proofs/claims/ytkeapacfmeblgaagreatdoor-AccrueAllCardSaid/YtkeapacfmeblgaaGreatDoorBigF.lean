/- Great numbers: add, sub, cmp by value. -/
import Derived.Test.YtkeapacfmeblgaaGreatDoorBigE
namespace Go.Proofs.YtkeapacfmeblgaaGreatDoor
open Go Go.RowKit
set_option linter.unusedVariables false

theorem Gave.same {w : World} {B : Nat} {V : Value} {ws : List Nat} (h : Wds w B V ws) (n : Nat) : Gave w (w.drewN n) B V V ws :=
  ⟨⟨h.own.below (bdrewN (Below.refl _ w) n), h.cap⟩, only_drewN (only_refl w V.ownBlock) n, .inl rfl⟩
theorem Wds.drewN {w : World} {B : Nat} {V : Value} {ws : List Nat} (h : Wds w B V ws) (n : Nat) : Wds (w.drewN n) B V ws := ⟨h.own.below (bdrewN (Below.refl _ w) n), h.cap⟩
theorem Wds.addr {w : World} {B n c : Nat} {A : Option Addr} {ws : List Nat} (h : Wds w B (.slice A n c) ws) (h0 : 0 < ws.length) : ∃ g, A = some ⟨g, 0, none⟩ := by
  rcases h.own.2 with ⟨hv, h1⟩ | ⟨g', cap, cur, hv, _⟩
  · omega
  · injection hv with e1; exact ⟨g', e1⟩
theorem wordsOf_2 {v : Nat} (h : W64 ≤ v) : wordsOf v = [v % W64, v / W64] := by
  unfold wordsOf
  rw [if_neg (by unfold W64 at h; omega), if_neg (by omega)]

set_option maxRecDepth 100000 in
theorem natAdd_00 (B c yc : Nat) (A YA : Option Addr) (w : World) (h : Wds w B (.slice A 0 c) []) :
    Calls Tryz.prog 152 #[.slice A 0 c, .slice A 0 c, .slice YA 0 yc] w fun e w' => ∃ V', e = .returned V' ∧ Gave w w' B (.slice A 0 c) V' [] := by
  go_enter Tryz.func152, Tryz.ntmps152
  go_wp2_with fail
  go_ret
  exact ⟨_, rfl, Gave.same h 0⟩
set_option maxRecDepth 100000 in
theorem natAdd_self (B g n c yc : Nat) (YA : Option Addr) (ws : List Nat) (w : World) (h : Wds w B (.slice (some ⟨g, 0, none⟩) n c) ws) (hn : ws.length = n) (h0 : 0 < n) (h2 : n ≤ 2) :
    Calls Tryz.prog 152 #[.slice (some ⟨g, 0, none⟩) n c, .slice (some ⟨g, 0, none⟩) n c, .slice YA 0 yc] w fun e w' => ∃ V', e = .returned V' ∧ Gave w w' B (.slice (some ⟨g, 0, none⟩) n c) V' ws := by
  have hn1 : ¬ (n : Int) < 0 := by omega
  have hn2 : ((n : Int) == 0) = false := by rw [beq_eq_false_iff_ne]; omega
  have hn3 : ¬ n = 0 := by omega
  go_enter Tryz.func152, Tryz.ntmps152
  go_wp2_with fail
  refine (natSet_self B g n c ws _ h hn h0).mono ?_
  rintro e w1 ⟨rfl, n1, rfl⟩
  go_wp2_with fail
  go_ret
  exact ⟨_, rfl, Gave.same h n1⟩
set_option maxRecDepth 100000 in
theorem natAdd_y0 (B c y yb yo yc : Nat) (A : Option Addr) (w : World) (hBw : B ≤ w.heap.size) (hy : y < W64) (hy0 : y ≠ 0) (h : Wds w B (.slice A 0 c) []) (hcy : w.cell? ⟨yb, yo, none⟩ = some (.int .u64 (y : Int))) :
    Calls Tryz.prog 152 #[.slice A 0 c, .slice (some ⟨yb, yo, none⟩) 1 yc, .slice A 0 c] w fun e w' => ∃ V', e = .returned V' ∧ Gave w w' B (.slice A 0 c) V' (wordsOf y) := by
  go_enter Tryz.func152, Tryz.ntmps152
  go_wp2_with fail
  refine (natSet_from B 0 c A y yb yo yc _ hBw hy hy0 rfl h hcy).mono ?_
  rintro e w1 ⟨V', rfl, hG⟩
  go_wp2_with fail
  go_ret
  exact ⟨_, rfl, hG⟩
set_option maxRecDepth 100000 in
theorem natAdd_01 (B c y yb yo yc : Nat) (A : Option Addr) (w : World) (hBw : B ≤ w.heap.size) (hy : y < W64) (hy0 : y ≠ 0) (h : Wds w B (.slice A 0 c) []) (hcy : w.cell? ⟨yb, yo, none⟩ = some (.int .u64 (y : Int))) :
    Calls Tryz.prog 152 #[.slice A 0 c, .slice A 0 c, .slice (some ⟨yb, yo, none⟩) 1 yc] w fun e w' => ∃ V', e = .returned V' ∧ Gave w w' B (.slice A 0 c) V' (wordsOf y) := by
  go_enter Tryz.func152, Tryz.ntmps152
  go_wp2_with fail
  refine (natAdd_y0 B c y yb yo yc A _ hBw hy hy0 h hcy).mono ?_
  rintro e w1 ⟨V', rfl, hG⟩
  go_wp2_with fail
  go_ret
  exact ⟨_, rfl, hG⟩
set_option maxRecDepth 100000 in
theorem natSub_self (B g n c yc : Nat) (YA : Option Addr) (ws : List Nat) (w : World) (h : Wds w B (.slice (some ⟨g, 0, none⟩) n c) ws) (hn : ws.length = n) (h0 : 0 < n) (h2 : n ≤ 2) :
    Calls Tryz.prog 153 #[.slice (some ⟨g, 0, none⟩) n c, .slice (some ⟨g, 0, none⟩) n c, .slice YA 0 yc] w fun e w' => ∃ V', e = .returned V' ∧ Gave w w' B (.slice (some ⟨g, 0, none⟩) n c) V' ws := by
  have hn1 : ¬ (n : Int) < 0 := by omega
  have hn2 : ((n : Int) == 0) = false := by rw [beq_eq_false_iff_ne]; omega
  have hn3 : ¬ n = 0 := by omega
  go_enter Tryz.func153, Tryz.ntmps153
  go_wp2_with fail
  refine (natSet_self B g n c ws _ h hn h0).mono ?_
  rintro e w1 ⟨rfl, n1, rfl⟩
  go_wp2_with fail
  go_ret
  exact ⟨_, rfl, Gave.same h n1⟩
set_option maxRecDepth 100000 in
theorem natSub_y0 (B c y yb yo yc : Nat) (A : Option Addr) (w : World) (hBw : B ≤ w.heap.size) (hy : y < W64) (hy0 : y ≠ 0) (h : Wds w B (.slice A 0 c) []) (hcy : w.cell? ⟨yb, yo, none⟩ = some (.int .u64 (y : Int))) :
    Calls Tryz.prog 153 #[.slice A 0 c, .slice (some ⟨yb, yo, none⟩) 1 yc, .slice A 0 c] w fun e w' => ∃ V', e = .returned V' ∧ Gave w w' B (.slice A 0 c) V' (wordsOf y) := by
  go_enter Tryz.func153, Tryz.ntmps153
  go_wp2_with fail
  refine (natSet_from B 0 c A y yb yo yc _ hBw hy hy0 rfl h hcy).mono ?_
  rintro e w1 ⟨V', rfl, hG⟩
  go_wp2_with fail
  go_ret
  exact ⟨_, rfl, hG⟩

set_option maxRecDepth 100000 in
theorem natCmp_len (m n c yc : Nat) (A YA : Option Addr) (w : World) (hm : m ≤ 2) (hn : n ≤ 1) (h : m ≠ n ∨ m = 0) :
    Calls Tryz.prog 62 #[.slice A m c, .slice YA n yc] w fun e w' => e = .returned (.int .i64 (if m < n then -1 else if n < m then 1 else 0)) ∧ ∃ n, w' = w.drewN n := by
  have hc : (m = 0 ∧ n = 0) ∨ (m = 0 ∧ n = 1) ∨ (m = 1 ∧ n = 0) ∨ (m = 2 ∧ n = 0) ∨ (m = 2 ∧ n = 1) := by omega
  rcases hc with ⟨rfl, rfl⟩ | ⟨rfl, rfl⟩ | ⟨rfl, rfl⟩ | ⟨rfl, rfl⟩ | ⟨rfl, rfl⟩
  all_goals
    go_enter Tryz.func62, Tryz.ntmps62
    go_wp2_with fail
    go_ret
    exact ⟨rfl, 0, rfl⟩
end Go.Proofs.YtkeapacfmeblgaaGreatDoor
