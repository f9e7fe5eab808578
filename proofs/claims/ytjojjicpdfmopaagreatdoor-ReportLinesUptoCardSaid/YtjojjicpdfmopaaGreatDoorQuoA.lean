/- Great numbers: a number of one word divided by one word, into itself. -/
import Derived.Test.YtjojjicpdfmopaaGreatDoorMulX
namespace Go.Proofs.YtjojjicpdfmopaaGreatDoor
open Go Go.RowKit
set_option linter.unusedVariables false

set_option maxRecDepth 100000 in
theorem setWord_any (r : Nat) (hr : r < W64) (w : World) : Calls Tryz.prog 148 #[.slice none 0 0, .int .u64 (r : Int)] w fun e w' => (∃ V', e = .returned V') ∧ Below w.heap.size w w' := by
  by_cases h0 : r = 0
  · subst h0
    refine (setWord_0 w).mono ?_
    rintro e w' ⟨rfl, n, rfl⟩
    exact ⟨⟨_, rfl⟩, bdrewN (Below.refl _ _) n⟩
  · have hr1 : ((r : Int) == 0) = false := by rw [beq_eq_false_iff_ne]; omega
    go_enter Tryz.func148, Tryz.ntmps148
    go_wp2_with fail
    refine (natMake_1 _ 0 _).mono ?_
    rintro e w1 ⟨rfl, rfl⟩
    have hra := RowIs.made w 1
    have hba : Below w.heap.size w (w.alloc (.cells (zeros 1) 110)) := (Below.refl _ _).alloc (Nat.le_refl _) _
    generalize w.alloc (.cells (zeros 1) 110) = wa at hra hba ⊢
    have c0 : wa.cell? ⟨w.heap.size, 0, none⟩ = some (.int .u64 0) := by rw [hra.cell 0]; rfl
    have f0 := hra.fr 0
    clear hr
    go_wp2_with fail
    go_ret
    exact ⟨⟨_, rfl⟩, hba.setCell (Nat.le_refl _) (p := ⟨w.heap.size, 0, none⟩) _⟩

/-- nothing, set into itself -/
theorem wds_nil_form {w : World} {B n c : Nat} {A : Option Addr} (h : Wds w B (.slice A n c) []) : n = 0 ∧ ((A = none ∧ c = 0) ∨ ∃ g cur, A = some ⟨g, 0, none⟩ ∧ RowIs w g cur ∧ cur.size = c ∧ c ≤ maxLen) := by
  obtain ⟨A', c', e, _⟩ := h.cap
  injection e with e1 e2 e3
  refine ⟨e2, ?_⟩
  rcases h.own.2 with ⟨hv, _⟩ | ⟨g', cap, cur, hv, hB, hg, hc, hm, hs, ht⟩
  · injection hv with a1 a2 a3
    exact .inl ⟨a1, a3⟩
  · injection hv with a1 a2 a3
    subst a3
    exact .inr ⟨g', cur, a1, hg, by omega, hm⟩
set_option maxRecDepth 100000 in
theorem natSet_self0 (B n c : Nat) (A : Option Addr) (w : World) (h : Wds w B (.slice A n c) []) :
    Calls Tryz.prog 71 #[.slice A n c, .slice A n c] w fun e w' => e = .returned (.slice A n c) ∧ ∃ n, w' = w.drewN n := by
  obtain ⟨rfl, ⟨rfl, rfl⟩ | ⟨g, cur, rfl, hrow, hcs, hcm⟩⟩ := wds_nil_form h
  · exact natSet_00 none 0 w
  · have hcp : ∀ (k : Nat) (ty : TypeId), (Builtin.copy_ #[63, 63] ty #[.slice (some ⟨g, 0, none⟩) 0 c, .slice (some ⟨g, 0, none⟩) 0 c]).run Tryz.prog (w.drewN k) = .ok (goInt 0) (w.drewN k) := by
      intro k ty
      have hr := run_copy_row (P := Tryz.prog) (w.drewN k) 63 63 ty 110 g 0 0 c ⟨g, 0, none⟩ 0 c cur 110 [] Tryz.underlying63 word_size hrow (by simp)
        (fun j v hv => by simp at hv) (by simp) (fun v hv => by cases hv)
      rw [hr]
      congr 1
      simp
      exact setRow_self _ _ _ _ _ hrow
    have h0c : (0 : Int) ≤ (c : Int) := by omega
    go_enter Tryz.func71, Tryz.ntmps71
    go_wp2_with fail
    refine (natMake_fits _ 0 c 0 _ (by omega) hcm).mono ?_
    rintro e w1 ⟨rfl, n1, rfl⟩
    have hcp1 := hcp n1
    go_wp2_with fail
    go_ret
    exact ⟨rfl, n1, rfl⟩

theorem Wds.cut {w : World} {B n c : Nat} {A : Option Addr} {ws : List Nat} (h : Wds w B (.slice A n c) ws) : Wds w B (.slice A 0 c) [] := by
  have hcap := capOf h
  rcases h.own.2 with ⟨hv, h0⟩ | ⟨g', cap, cur, hv, hB, hg, hc, hm, hs, ht⟩
  · injection hv with a1 a2 a3
    subst a1 a3
    exact ⟨Own.nil _ _ _ _ _, none, 0, rfl, by omega⟩
  · injection hv with a1 a2 a3
    subst a1 a3
    exact Wds.ofRow (ws := []) hg (by omega) (by simp) hB (by simp) hm hcap

set_option maxHeartbeats 1000000 in
set_option maxRecDepth 100000 in
theorem divW_self (B a p n c : Nat) (A : Option Addr) (w : World) (hBw : B ≤ w.heap.size) (ha : a < W64) (hp : 0 < p) (hp2 : p < W64) (h : Wds w B (.slice A n c) (wordsOf a)) (hn : n = (wordsOf a).length) :
    Calls Tryz.prog 137 #[.slice A n c, .slice A n c, .int .u64 (p : Int)] w fun e w' => ∃ (V' : Value) (r : Nat), e = .returned (.tuple #[V', .int .u64 (r : Int)]) ∧ r < W64 ∧ Gave w w' B (.slice A n c) V' (wordsOf (a / p)) := by
  have hp0 : ((p : Int) == 0) = false := by rw [beq_eq_false_iff_ne]; omega
  by_cases ha0 : a = 0
  · subst ha0
    rw [wordsOf_0] at h hn
    obtain rfl : n = 0 := hn
    have e0 : wordsOf (0 / p) = [] := by rw [Nat.zero_div]; rfl
    rw [e0]
    by_cases h1 : p = 1
    · subst h1
      go_enter Tryz.func137, Tryz.ntmps137
      go_wp2_with fail
      refine (natSet_self0 B 0 c A _ h).mono ?_
      rintro e w1 ⟨rfl, n1, rfl⟩
      go_wp2_with fail
      go_ret2
      exact ⟨_, 0, rfl, by decide, Gave.same h n1⟩
    · have hp1 : ((p : Int) == 1) = false := by rw [beq_eq_false_iff_ne]; omega
      rcases wds_nil_form h with ⟨_, ⟨rfl, rfl⟩ | ⟨g, cur, rfl, hrow, hcs, hcm⟩⟩
      · go_enter Tryz.func137, Tryz.ntmps137
        go_wp2_with fail
        go_ret2
        exact ⟨_, 0, rfl, by decide, Gave.same h 0⟩
      · have h0c : (0 : Int) ≤ (c : Int) := by omega
        go_enter Tryz.func137, Tryz.ntmps137
        go_wp2_with fail
        go_ret2
        exact ⟨_, 0, rfl, by decide, Gave.same h 0⟩
  · rw [wordsOf_1 ha0 ha] at h hn
    obtain rfl : n = 1 := hn
    obtain ⟨g, rfl⟩ := h.addr (by simp)
    by_cases h1 : p = 1
    · subst h1
      rw [Nat.div_one, wordsOf_1 ha0 ha]
      go_enter Tryz.func137, Tryz.ntmps137
      go_wp2_with fail
      refine (natSet_self B g 1 c [a] _ h rfl (by omega)).mono ?_
      rintro e w1 ⟨rfl, n1, rfl⟩
      go_wp2_with fail
      go_ret2
      exact ⟨_, 0, rfl, by decide, Gave.same h n1⟩
    · have hp1 : ((p : Int) == 1) = false := by rw [beq_eq_false_iff_ne]; omega
      have hcap := capOf h
      obtain ⟨cur, hrow, hcs, hct, hBg, hlc, hcm⟩ := h.row
      have hl1 : ([a] : List Nat).length = 1 := rfl
      have hxw := cell_head hrow hct 0 (by simp)
      simp only [List.getElem_cons_zero] at hxw
      rw [hl1] at hlc
      have hfr := hrow.fr 0
      have hrlt : a % p < W64 := Nat.lt_of_le_of_lt (Nat.mod_le _ _) ha
      have hqlt : a / p < W64 := Nat.lt_of_le_of_lt (Nat.div_le_self _ _) ha
      have HDV := fun n1 => divWVW1 g 0 c g 0 c (.int .u64 (a : Int)) a p ha hp2 (by omega) (w.drewN n1) hxw rfl hfr hxw
      generalize a / p = q at hqlt HDV ⊢
      generalize a % p = r at hrlt HDV ⊢
      have HDV := hide HDV
      have HC := hide hct
      have HR := hide hrow
      have HH := hide h
      have HRL := hide hrlt
      have HQL := hide hqlt
      have HCS := hide hcs
      clear hrlt hqlt hcs h ha hp2 hxw hfr hrow hct
      go_enter Tryz.func137, Tryz.ntmps137
      go_wp2_with fail
      refine (natMake_fits _ 1 c 1 _ hlc hcm).mono ?_
      rintro e w1 ⟨rfl, n1, rfl⟩
      go_wp2_with fail
      refine (HDV.out n1).mono ?_
      rintro e w2 ⟨rfl, n2, rfl⟩
      have hrow2 : RowIs (((w.drewN n1).drewN n2).setCell ⟨g, 0, none⟩ (.int .u64 (q : Int))) g (cur.setIfInBounds 0 (.int .u64 (q : Int))) := ((HR.out.drewN n1).drewN n2).set_ 0 _
      have hgr : w.grownBy (((w.drewN n1).drewN n2).setCell ⟨g, 0, none⟩ (.int .u64 (q : Int))) (some g) := only_setCell (only_drewN (only_drewN (only_refl w (some g)) n1) n2) 0 _
      generalize ((w.drewN n1).drewN n2).setCell ⟨g, 0, none⟩ (.int .u64 (q : Int)) = w2 at hrow2 hgr ⊢
      have ht2 : (cur.setIfInBounds 0 (.int .u64 (q : Int))).toList.take ([q] : List Nat).length = [q].flatMap wEnc := by
        rw [Array.toList_setIfInBounds]
        exact take_set1 cur.toList _ (by rw [Array.length_toList]; have := HCS.out; omega)
      have hrd := rd_row hrow2 ht2
      have HR2 := hide hrow2
      have HT2 := hide ht2
      have HG2 := hide hgr
      clear hrow2 ht2 hgr
      go_wp2_with fail
      refine (natNorm [q] g c _ hrd (by simp) (by simpa using hlc)).mono ?_
      rintro e w3 ⟨⟨k, hk, rfl, hz, hnz⟩, n3, rfl⟩
      go_wp2_with fail
      go_ret2
      have hv : valOf [q] = q := by simp [valOf]
      have hW2 : W64 ≤ W64 * W64 := by unfold W64; omega
      have hs2 : (cur.setIfInBounds 0 (.int .u64 (q : Int))).size = c := by rw [Array.size_setIfInBounds]; exact HCS.out
      exact ⟨_, r, rfl, HRL.out, gave_row (ws := [q]) (v := q) (only_drewN HG2.out n3) (HR2.out.drewN n3) HT2.out hs2 hBg hcm hcap (.inl rfl) (fun x hx => by obtain rfl := List.mem_singleton.1 hx; exact HQL.out) hv (Nat.lt_of_lt_of_le HQL.out hW2) (by simp) (by simpa using hlc) hk hz hnz⟩
set_option maxHeartbeats 1000000 in
set_option maxRecDepth 100000 in
theorem natDiv_self (B a p n c yb yo yc : Nat) (A : Option Addr) (w : World) (hBw : B ≤ w.heap.size) (ha : a < W64) (hp : 0 < p) (hp2 : p < W64) (h : Wds w B (.slice A n c) (wordsOf a)) (hn : n = (wordsOf a).length) (hcy : w.cell? ⟨yb, yo, none⟩ = some (.int .u64 (p : Int))) :
    Calls Tryz.prog 136 #[.slice A n c, .pointer none, .slice none 0 0, .slice A n c, .slice (some ⟨yb, yo, none⟩) 1 yc] w fun e w' => ∃ V' R, e = .returned (.tuple #[V', R]) ∧ Gave w w' B (.slice A n c) V' (wordsOf (a / p)) := by
  have HDW := hide (divW_self B a p n c A w hBw ha hp hp2 h hn)
  clear ha hp hp2 hBw h hn
  go_enter Tryz.func136, Tryz.ntmps136
  go_wp2_with fail
  refine HDW.out.mono ?_
  rintro e w1 ⟨V', r, rfl, hr, hG⟩
  have HR := hide hr
  have HG := hide hG
  clear hr hG hcy HDW
  go_wp2_with fail
  refine (setWord_any r HR.out _).mono ?_
  rintro e w2 ⟨⟨R, rfl⟩, hb⟩
  go_wp2_with fail
  go_ret2
  have hG := HG.out
  exact ⟨V', R, rfl, ⟨hG.wds.own.below hb, hG.wds.cap⟩, only_below hG.grown hb, hG.at_⟩
end Go.Proofs.YtjojjicpdfmopaaGreatDoor
