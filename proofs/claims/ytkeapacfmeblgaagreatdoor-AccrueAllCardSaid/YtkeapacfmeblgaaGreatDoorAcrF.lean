/- accrue.part, Part: what they return. -/
import Derived.Test.YtkeapacfmeblgaaGreatDoorAcrA
import Derived.Deep.RegionHeld3
namespace Go.Proofs.YtkeapacfmeblgaaGreatDoor
open Go Go.RowKit
set_option linter.unusedVariables false

set_option maxHeartbeats 2000000 in
set_option maxRecDepth 100000 in
theorem apart_any (x : Pln) (period : Int) (w : World) (hn : numE x = 0) (h0 : 1 ≤ period) (h1 : period ≤ 120) :
    Calls Tryz.prog 9 #[plnV x, .int .i64 period] w fun e w' => e = .returned (.int .i64 (partOf x period)) ∧ Below w.heap.size w w' := by
  obtain ⟨_, ⟨a0, a1⟩, ⟨p0, p1⟩, f0, f1⟩ := numE_ok hn
  clear hn
  have hb : Below w.heap.size w (w.alloc (.cells #[.string x.ref, .int .i64 x.ent, .string x.fr, .string x.to, .string x.cur, .int .i64 x.amt, .int .i64 x.first, .int .i64 x.per] 23)) := (Below.refl _ _).alloc (Nat.le_refl _) _
  have hX := PlnAt.new w x
  have hs : w.heap.size ≤ (w.alloc (.cells #[.string x.ref, .int .i64 x.ent, .string x.fr, .string x.to, .string x.cur, .int .i64 x.amt, .int .i64 x.first, .int .i64 x.per] 23)).heap.size := hb.size
  by_cases k1 : period - x.first + 1 < 1
  · have HF : Hid (partOf x period = 0) := by show _ = _; unfold partOf; rw [if_pos (by omega)]
    unfold plnV
    go_enter Tryz.func9, Tryz.ntmps9
    go_wp2_with fail
    go_ret
    exact ⟨by rw [HF.out]; rfl, hb⟩
  · by_cases k2 : x.per < period - x.first + 1
    · have HF : Hid (partOf x period = 0) := by show _ = _; unfold partOf; rw [if_neg (by omega), if_pos (by omega)]
      unfold plnV
      go_enter Tryz.func9, Tryz.ntmps9
      go_wp2_with fail
      go_ret
      exact ⟨by rw [HF.out]; rfl, hb⟩
    · have HF : Hid (partOf x period = uptoI x.amt x.per (period - x.first + 1) - uptoI x.amt x.per (period - x.first + 1 - 1)) := by
        show _ = _
        unfold partOf
        rw [if_neg (by omega), if_neg (by omega), show period - x.first + 1 - 1 = period - x.first from by omega]
      have HCK : Hid (∀ (k : Int) (W : World), 0 ≤ k → k ≤ 120 → Calls Tryz.prog 15 #[.agg #[.string x.ref, .int .i64 x.ent, .string x.fr, .string x.to, .string x.cur, .int .i64 x.amt, .int .i64 x.first, .int .i64 x.per], .int .i64 k] W fun e w' => e = .returned (.int .i64 (uptoI x.amt x.per k)) ∧ Below W.heap.size W w') := fun k W h1 h2 => upto_any x k W h1 h2 p0 p1 a0 a1
      have hd1 := upto_bnd x.amt x.per (period - x.first + 1) (by omega) (by omega) (by omega) (by omega)
      have hd2 := upto_bnd x.amt x.per (period - x.first + 1 - 1) (by omega) (by omega) (by omega) (by omega)
      have hk1 : 1 ≤ period - x.first + 1 := by omega
      have hk2 : period - x.first + 1 ≤ 120 := by omega
      unfold plnV
      go_enter Tryz.func9, Tryz.ntmps9
      go_upto_region 4 with fail
      generalize w.alloc (.cells #[.string x.ref, .int .i64 x.ent, .string x.fr, .string x.to, .string x.cur, .int .i64 x.amt, .int .i64 x.first, .int .i64 x.per] 23) = W1 at hX hb hs ⊢
      have HF := HF.out
      clear k1 k2 h0 h1 f0 f1 a0 a1 p0 p1
      generalize period - x.first + 1 = K at HF hd1 hd2 hk1 hk2 ⊢
      have e1a : -120000000000000000 ≤ uptoI x.amt x.per K := by omega
      have e1b : uptoI x.amt x.per K ≤ 120000000000000000 := by omega
      have e2a : -120000000000000000 ≤ uptoI x.amt x.per (K - 1) := by omega
      have e2b : uptoI x.amt x.per (K - 1) ≤ 120000000000000000 := by omega
      have hwk : IntKind.i64.wrap (K - 1) = K - 1 := IntWalk.i64_in _ (by omega)
      have hwd : IntKind.i64.wrap (uptoI x.amt x.per K - uptoI x.amt x.per (K - 1)) = uptoI x.amt x.per K - uptoI x.amt x.per (K - 1) := IntWalk.i64_in _ (by omega)
      have HF := hide HF
      have HP : Hid (PlnAt W1.drew w.heap.size x) := ⟨hX.c0, hX.c1, hX.c2, hX.c3, hX.c4, hX.c5, hX.c6, hX.c7⟩
      have HBW : Hid (Below w.heap.size w W1.drew) := bdrewN hb 1
      clear hd1 hd2 hX hb hs
      have hS := HP.out.eight
      go_region_held3 (fun w' => w'.cell? ⟨w.heap.size, 0, none⟩ = some (.string x.ref) ∧ w'.cell? ⟨w.heap.size, 1, none⟩ = some (.int .i64 x.ent) ∧ w'.cell? ⟨w.heap.size, 2, none⟩ = some (.string x.fr) ∧ w'.cell? ⟨w.heap.size, 3, none⟩ = some (.string x.to) ∧ w'.cell? ⟨w.heap.size, 4, none⟩ = some (.string x.cur) ∧ w'.cell? ⟨w.heap.size, 5, none⟩ = some (.int .i64 x.amt) ∧ w'.cell? ⟨w.heap.size, 6, none⟩ = some (.int .i64 x.first) ∧ w'.cell? ⟨w.heap.size, 7, none⟩ = some (.int .i64 x.per)) (first | exact hS) (first | (go_at_call 15; refine (HCK.out _ _ (by omega) (by omega)).mono ?_; rintro e w2 ⟨rfl, hb2⟩; have HP := hide (HP.out.below hb2); have hS := HP.out.eight; have HBW := hide (bthen HBW.out (Nat.le_refl _) hb2); clear hb2))
      all_goals
        go_wp2_with fail
      all_goals
        go_ret
        exact ⟨by rw [HF.out]; rfl, HBW.out⟩

set_option maxRecDepth 100000 in
theorem aPart_ok (x : Pln) (period : Int) (w : World) (hn : numE x = 0) (h0 : 1 ≤ period) (h1 : period ≤ 120) :
    Calls Tryz.prog 4 #[plnV x, .int .i64 period] w fun e w' => e = .returned (.tuple #[.int .i64 (partOf x period), .nilIface]) ∧ Below w.heap.size w w' := by
  have hp : inB 1 120 period = true := inB_iff.2 ⟨h0, h1⟩
  have HP := hide hp
  have hb : Below w.heap.size w (w.alloc (.cells #[.string x.ref, .int .i64 x.ent, .string x.fr, .string x.to, .string x.cur, .int .i64 x.amt, .int .i64 x.first, .int .i64 x.per] 23)) := (Below.refl _ _).alloc (Nat.le_refl _) _
  have hX := PlnAt.new w x
  have hev : errV (numE x) = .nilIface := by rw [hn]; rfl
  have HE := hide hev
  have HN := hide hn
  have H0 := hide h0
  have H1 := hide h1
  obtain ⟨v, hv⟩ : ∃ v, v = partOf x period := ⟨_, rfl⟩
  rw [← hv]
  have HV := hide hv
  clear hp hev hn h0 h1 hv
  go_enter Tryz.func4, Tryz.ntmps4
  unfold plnV
  go_upto_region 1 with fail
  generalize w.alloc (.cells #[.string x.ref, .int .i64 x.ent, .string x.fr, .string x.to, .string x.cur, .int .i64 x.amt, .int .i64 x.first, .int .i64 x.per] 23) = W1 at hX hb ⊢
  have hX0 := hX
  obtain ⟨c0, c1, c2, c3, c4, c5, c6, c7⟩ := hX
  go_wp2_with fail
  refine (numbers_any x _).mono ?_
  rintro e w2 ⟨rfl, hb2⟩
  rw [HE.out]
  have hX2 := hX0.below hb2
  have hb2 := bthen hb (Nat.le_refl _) hb2
  obtain ⟨d0, d1, d2, d3, d4, d5, d6, d7⟩ := hX2
  clear c0 c1 c2 c3 c4 c5 c6 c7 hX0
  go_wp2_with fail
  refine (period_any _ _).mono ?_
  rintro e w3 ⟨rfl, rfl⟩
  rw [HP.out]
  go_wp2_with fail
  refine (apart_any x period _ HN.out H0.out H1.out).mono ?_
  rintro e w4 ⟨rfl, hb4⟩
  rw [← HV.out]
  go_wp2_with fail
  go_ret2
  exact ⟨rfl, bthen hb2 (Nat.le_refl _) hb4⟩
set_option maxRecDepth 100000 in
theorem aPart_bad (x : Pln) (period : Int) (w : World) (hn : numE x ≠ 0) :
    Calls Tryz.prog 4 #[plnV x, .int .i64 period] w fun e w' => e = .returned (.tuple #[.int .i64 0, .iface 37 (.int .i64 1)]) ∧ Below w.heap.size w w' := by
  have hb : Below w.heap.size w (w.alloc (.cells #[.string x.ref, .int .i64 x.ent, .string x.fr, .string x.to, .string x.cur, .int .i64 x.amt, .int .i64 x.first, .int .i64 x.per] 23)) := (Below.refl _ _).alloc (Nat.le_refl _) _
  have hX := PlnAt.new w x
  have hev : errV (numE x) = .iface 37 (.int .i64 1) := by
    rcases numE_01 (x := x) with h | h
    · exact absurd h hn
    · rw [h]; rfl
  have HE := hide hev
  clear hev hn
  go_enter Tryz.func4, Tryz.ntmps4
  unfold plnV
  go_upto_region 1 with fail
  generalize w.alloc (.cells #[.string x.ref, .int .i64 x.ent, .string x.fr, .string x.to, .string x.cur, .int .i64 x.amt, .int .i64 x.first, .int .i64 x.per] 23) = W1 at hX hb ⊢
  obtain ⟨c0, c1, c2, c3, c4, c5, c6, c7⟩ := hX
  go_wp2_with fail
  refine (numbers_any x _).mono ?_
  rintro e w2 ⟨rfl, hb2⟩
  rw [HE.out]
  have hb2 := bthen hb (Nat.le_refl _) hb2
  go_wp2_with fail
  go_ret2
  exact ⟨rfl, hb2⟩
end Go.Proofs.YtkeapacfmeblgaaGreatDoor
