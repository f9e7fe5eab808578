/- Great numbers: add, sub, cmp by value. -/
import Derived.Test.YtkeapacfmeblgaaGreatDoorBigD
namespace Go.Proofs.YtkeapacfmeblgaaGreatDoor
open Go Go.RowKit
set_option linter.unusedVariables false

theorem word_size : (Tryz.prog.info? 70).map (·.size) = some 1 := by kernel_rfl

theorem setRow_only (w : World) (g : Nat) (r : Array Value) : w.grownBy (w.setRow g r) (some g) := ⟨rfl, rfl, rfl, by simp, fun k _ hk => setRow_other w g k _ (fun e => hk (by rw [e]))⟩

set_option maxRecDepth 100000 in
theorem natSet_self (B g n c : Nat) (ws : List Nat) (w : World) (h : Wds w B (.slice (some ⟨g, 0, none⟩) n c) ws) (hn : ws.length = n) (h0 : 0 < n) :
    Calls Tryz.prog 63 #[.slice (some ⟨g, 0, none⟩) n c, .slice (some ⟨g, 0, none⟩) n c] w
      fun e w' => e = .returned (.slice (some ⟨g, 0, none⟩) n c) ∧ ∃ n, w' = w.drewN n := by
  obtain ⟨cur, hrow, hcs, hct, hBg, hlc, hcm⟩ := h.row
  rw [hn] at hct hlc
  have hlen : (ws.flatMap wEnc).length = n := by rw [flatMap_len wEnc_ok, hn, Nat.mul_one]
  have hcp : ∀ (k : Nat) (ty : TypeId), (Builtin.copy_ #[53, 53] ty #[.slice (some ⟨g, 0, none⟩) n c, .slice (some ⟨g, 0, none⟩) n c]).run Tryz.prog (w.drewN k) = .ok (goInt n) (w.drewN k) := by
    intro k ty
    have hr := run_copy_row (P := Tryz.prog) (w.drewN k) 53 53 ty 70 g 0 n c ⟨g, 0, none⟩ n c cur 70 (ws.flatMap wEnc) Tryz.underlying53 word_size hrow (by rw [hlen]; simp)
      (fun j v hv => by
        have hj : j < n := by rw [← hlen]; exact (List.getElem?_eq_some_iff.1 hv).1
        have h1 : cur.toList[j]? = some v := by
          rw [← hv, ← hct, List.getElem?_take, if_pos hj]
        have e : (⟨g, 0, none⟩ : Addr).add j = ⟨g, j, none⟩ := by unfold Addr.add; split <;> simp_all
        rw [e, (hrow.drewN k).cell j, ← Array.getElem?_toList, h1]) (by rw [hlen]; omega) (fun v hv => by
        obtain ⟨a, _, ha⟩ := List.mem_flatMap.1 hv
        exact wEnc_ok.one a v ha)
    rw [hr, hlen]
    congr 1
    rw [List.take_zero, List.nil_append, Nat.zero_add, ← hct, List.take_append_drop, Array.toArray_toList]
    exact setRow_self _ _ _ _ _ hrow
  have hn63 : (n : Int) ≤ (c : Int) := by omega
  go_enter Tryz.func63, Tryz.ntmps63
  go_wp2_with fail
  refine (natMake_fits _ n c n _ hlc hcm).mono ?_
  rintro e w1 ⟨rfl, n1, rfl⟩
  have hcp1 := hcp n1
  go_wp2_with fail
  go_ret
  exact ⟨rfl, n1, rfl⟩

/-- one word is copied to the head of a row -/
theorem run_copy1 (w : World) (g c yb yo yn : Nat) (cur : Array Value) (y : Nat) (hrow : RowIs w g cur) (hc : 1 ≤ cur.size) (hcy : w.cell? ⟨yb, yo, none⟩ = some (.int .u64 (y : Int))) (ty : TypeId) :
    (Builtin.copy_ #[53, 53] ty #[.slice (some ⟨g, 0, none⟩) 1 c, .slice (some ⟨yb, yo, none⟩) 1 yn]).run Tryz.prog w = .ok (goInt 1) (w.setRow g (Value.int .u64 (y : Int) :: cur.toList.tail).toArray) := by
  have hr := run_copy_row (P := Tryz.prog) w 53 53 ty 70 g 0 1 c ⟨yb, yo, none⟩ 1 yn cur 70 [.int .u64 (y : Int)] Tryz.underlying53 word_size hrow (by simp)
    (fun j v hv => by
      match j, hv with
      | 0, hv =>
        simp at hv
        subst hv
        exact hcy) (by simp; omega) (fun v hv => by
      simp only [List.mem_singleton] at hv
      subst hv; rfl)
  rw [hr]
  simp

theorem wordsOf_1 {y : Nat} (h0 : y ≠ 0) (hy : y < W64) : wordsOf y = [y] := by unfold wordsOf; rw [if_neg h0, if_pos hy]
theorem wordsOf_0 : wordsOf 0 = [] := rfl
theorem take_head (a : Value) (l : List Value) : ((a :: l).toArray).toList.take 1 = [a] := by simp

set_option maxRecDepth 100000 in
theorem natSet_from (B n c : Nat) (A : Option Addr) (y yb yo yc : Nat) (w : World) (hBw : B ≤ w.heap.size) (hy : y < W64) (hy0 : y ≠ 0) (hn : n = 0) (h : Wds w B (.slice A n c) []) (hcy : w.cell? ⟨yb, yo, none⟩ = some (.int .u64 (y : Int))) :
    Calls Tryz.prog 63 #[.slice A n c, .slice (some ⟨yb, yo, none⟩) 1 yc] w
      fun e w' => ∃ V', e = .returned V' ∧ Gave w w' B (.slice A n c) V' (wordsOf y) := by
  subst hn
  rw [wordsOf_1 hy0 hy]
  have hcapc := capOf h
  have hcm : c ≤ maxLen := by
    obtain ⟨A', c', e1, e2, e3⟩ := h.own.form
    injection e1 with _ _ e1
    omega
  by_cases hc0 : c = 0
  · subst hc0
    have hcp := fun (W : World) (hr : RowIs W w.heap.size (zeros 1)) (hy : W.cell? ⟨yb, yo, none⟩ = some (.int .u64 (y : Int))) ty => run_copy1 W w.heap.size 1 yb yo yc (zeros 1) y hr (by simp [zeros]) hy ty
    have hcp1 := hcp (w.alloc (.cells (zeros 1) 70)) (RowIs.made w 1) (below_cell ((Below.refl w.heap.size w).alloc (Nat.le_refl _) _) (World.block_lt_of_cell? _ _ hcy) hcy)
    go_enter Tryz.func63, Tryz.ntmps63
    go_wp2_with fail
    refine (natMake_1 _ 0 _).mono ?_
    rintro e w1 ⟨rfl, rfl⟩
    generalize hwa : w.alloc (.cells (zeros 1) 70) = wa at hcp1 ⊢
    have hra : RowIs wa w.heap.size (zeros 1) := by rw [← hwa]; exact RowIs.made w 1
    have hga : w.grownBy wa (Value.slice A 0 0).ownBlock := by rw [← hwa]; exact World.grownBy_alloc w _ _
    clear hwa hcp
    go_wp2_with fail
    go_ret
    have hrs : RowIs (wa.setRow w.heap.size (Value.int .u64 (y : Int) :: (zeros 1).toList.tail).toArray) w.heap.size (Value.int .u64 (y : Int) :: (zeros 1).toList.tail).toArray := setRow_heap wa _ _ _ _ _ hra
    refine ⟨_, rfl, Wds.ofRow (ws := [y]) hrs (by simp [zeros]) (take_head _ _) hBw (by simp) (by unfold maxLen; omega) (by omega), ?_, .inr ⟨_, rfl, Nat.le_refl _⟩⟩
    refine ⟨hga.os, hga.tape, hga.output, by simpa using hga.size, fun i hi hne => ?_⟩
    exact (setRow_other wa _ i _ (by omega)).trans (hga.block i hi hne)
  · obtain ⟨g, rfl⟩ : ∃ g, A = some ⟨g, 0, none⟩ := by
      rcases h.own.2 with ⟨hv, _⟩ | ⟨g', cap, cur, hv, _⟩
      · injection hv with e1 e2 e3; omega
      · injection hv with e1; exact ⟨g', e1⟩
    obtain ⟨cur, hrow, hcs, hct, hBg, hlc, hcm'⟩ := h.row
    have hcp := fun (k : Nat) ty => run_copy1 (w.drewN k) g c yb yo yc cur y hrow (by omega) hcy ty
    have hc1 : (1 : Int) ≤ (c : Int) := by omega
    go_enter Tryz.func63, Tryz.ntmps63
    go_wp2_with fail
    refine (natMake_fits _ 0 c 1 _ (by omega) hcm).mono ?_
    rintro e w1 ⟨rfl, n1, rfl⟩
    have hcp1 := hcp n1
    have hra := hrow.drewN n1
    have hga : w.grownBy (w.drewN n1) (some g) := only_drewN (only_refl w (some g)) n1
    generalize w.drewN n1 = wa at hcp1 hra hga ⊢
    clear hcp
    go_wp2_with fail
    go_ret
    have hrs : RowIs (wa.setRow g (Value.int .u64 (y : Int) :: cur.toList.tail).toArray) g (Value.int .u64 (y : Int) :: cur.toList.tail).toArray := setRow_heap wa _ _ _ _ _ hra
    exact ⟨_, rfl, Wds.ofRow (ws := [y]) hrs (by simp; omega) (take_head _ _) hBg (by simp; omega) hcm hcapc, hga.trans (setRow_only wa g _), .inl rfl⟩
end Go.Proofs.YtkeapacfmeblgaaGreatDoor
