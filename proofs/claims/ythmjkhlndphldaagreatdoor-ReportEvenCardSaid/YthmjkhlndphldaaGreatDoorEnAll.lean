/- What chart.Check may return: a number from 0 to 12. -/
import Derived.Test.YthmjkhlndphldaaGreatDoorChartP
import Derived.Test.YthmjkhlndphldaaGreatDoorRefZ
import Derived.Test.YthmjkhlndphldaaGreatDoorErrAll
namespace Go.Proofs.YthmjkhlndphldaaGreatDoor
open Go Go.RowKit
set_option linter.unusedVariables false

theorem accF_range (f : List Acc) (a : Acc) : 0 ≤ accF f a ∧ accF f a ≤ 12 := by
  unfold accF
  repeat' split
  all_goals omega
theorem accE_range (l : List Acc) (i : Nat) : 0 ≤ accE l i ∧ accE l i ≤ 12 := by
  unfold accE
  split
  · exact accF_range _ _
  · omega
theorem scanE_range (l : List Acc) : ∀ n i, 0 ≤ scanE l i n ∧ scanE l i n ≤ 12 := by
  intro n
  induction n with
  | zero => intro i; unfold scanE; omega
  | succ n ih =>
    intro i
    unfold scanE
    split
    · exact ih _
    · exact accE_range _ _
theorem chartE_range (l : List Acc) : 0 ≤ chartE l ∧ chartE l ≤ 12 := by
  unfold chartE
  split
  · omega
  · exact scanE_range _ _ _
end Go.Proofs.YthmjkhlndphldaaGreatDoor

namespace Go.Proofs.YthmjkhlndphldaaGreatDoor
open Go Go.RowKit
set_option linter.unusedVariables false

theorem leafE_range (l : List Acc) (c : ByteArray) : 0 ≤ leafE l c ∧ leafE l c ≤ 12 := by
  unfold leafE
  repeat' split
  all_goals omega
theorem lineE_range (c : List Acc) (x : Line) : 0 ≤ lineE c x ∧ lineE c x ≤ 12 := by
  have h := leafE_range c x.acc
  unfold lineE
  by_cases h1 : leafE c x.acc = 0
  · rw [if_neg (by simpa using h1)]
    cases curB x.cur with
    | false => rw [if_pos rfl]; omega
    | true =>
      rw [if_neg (by decide)]
      by_cases h3 : x.amt = 0
      · rw [if_pos h3]; omega
      · rw [if_neg h3]
        cases farB x with
        | true => rw [if_pos rfl]; omega
        | false => rw [if_neg (by decide)]; omega
  · rw [if_pos h1]; exact h
theorem linesE_range (c : List Acc) (l : List Line) : 0 ≤ linesE c l ∧ linesE c l ≤ 12 := by
  unfold linesE
  cases l.find? (fun x => lineE c x != 0) with
  | none => exact ⟨Int.le_refl _, by show (0 : Int) ≤ 12; decide⟩
  | some x => exact lineE_range c x
theorem entE_range (c : List Acc) (ref : ByteArray) (ent per : Int) (l : List Line) : 0 ≤ entE c ref ent per l ∧ entE c ref ent per l ≤ 12 := by
  have h := chartE_range c
  have h' := linesE_range c l
  unfold entE
  repeat' split
  all_goals omega

set_option maxRecDepth 100000 in
theorem enChecks_any (c : List Acc) (CA : Option Addr) (cn ccap : Nat) (ref : ByteArray) (ent per : Int) (l : List Line) (A : Option Addr) (n cap : Nat) (w : World)
    (hcc : cn ≤ ccap) (hcm : ccap ≤ maxLen) (hc : Accs w CA cn c) (hcok : AccOk c) (hr : ref.size ≤ 9223372036854775807)
    (hnc : n ≤ cap) (hm : cap ≤ maxLen) (ha : Rd w 3 lineEnc A n l) (hA : A = none → cap = 0) (hok : LinesOk l) (hg : ErrTy w) :
    Calls Tryz.prog 3 #[.slice CA cn ccap, .agg #[.string ref, .int .i64 ent, .int .i64 per, .slice A n cap]] w
      fun e w' => e = .returned (.bool true) ∧ Below w.heap.size w w' := by
  have hR := hide (entE_range c ref ent per l)
  have hcn : cn ≤ 9223372036854775807 := by unfold maxLen at hcm; omega
  have hn : n ≤ 9223372036854775807 := by unfold maxLen at hm; omega
  go_enter Tryz.func3, Tryz.ntmps3
  go_wp2_with fail
  have hbx : Below w.heap.size w (w.alloc (.cells #[.string ref, .int .i64 ent, .int .i64 per, .slice A n cap] 25)) := (Below.refl _ _).alloc (Nat.le_refl _) _
  have hE0 : EntAt (w.alloc (.cells #[.string ref, .int .i64 ent, .int .i64 per, .slice A n cap] 25)) w.heap.size ref ent per (.slice A n cap) := by unfold EntAt; simp
  refine (refEntry_any c _ _ _ ref ent per l _ _ _ _ hcn hcc (hc.below hbx) hcok hr hn (Rd.below ha hbx) hok).mono ?_
  rintro e w1 ⟨rfl, hb1⟩
  obtain ⟨e0, e1, e2, e3⟩ := hE0.below hb1
  have hb1 := bof_alloc hb1
  go_wp2_with fail
  refine (entCheck_any c _ _ _ ref ent per l _ _ _ _ hcn hcc (hc.below hb1) hcok hr hn (Rd.below ha hb1) hA hok).mono ?_
  rintro e w2 ⟨rfl, hb2⟩
  have hb2 := bthen hb1 (Nat.le_refl _) hb2
  go_wp2_with fail
  have h3 := error_any (entE c ref ent per l) (entE c ref ent per l) _ (hg.below hb2) hR.out.1 hR.out.2
  rw [beq_self_eq_true] at h3
  refine h3.mono ?_
  rintro e w3 ⟨rfl, hb3⟩
  have hb3 := bthen hb2 (Nat.le_refl _) hb3
  go_wp2_with fail
  go_ret
  exact ⟨rfl, hb3⟩
end Go.Proofs.YthmjkhlndphldaaGreatDoor
