/- daylaw1.ChartParses returns true. -/
import Derived.Test.YthmjkhlndphldaaDoorPrsE
import Derived.Test.YthmjkhlndphldaaDoorPrsF
import Derived.Test.YthmjkhlndphldaaDoorTold
namespace Go.Proofs.YthmjkhlndphldaaDoor
open Go Go.RowKit
set_option linter.unusedVariables false

theorem accF_rng (f : List Acc) (a : Acc) : 0 ≤ accF f a ∧ accF f a ≤ 12 := by
  unfold accF
  repeat' split
  all_goals omega
theorem parseR_range : ∀ (ps : List (List UInt8)) (acc : List Acc), 0 ≤ (parseR ps acc).2.2 ∧ (parseR ps acc).2.2 ≤ 12 := by
  intro ps
  induction ps with
  | nil => intro acc; exact ⟨(by decide : (0 : Int) ≤ 0), (by decide : (0 : Int) ≤ 12)⟩
  | cons p ps ih =>
    intro acc
    by_cases h : ps = []
    · subst h
      unfold parseR
      split
      · exact ⟨(by decide : (0 : Int) ≤ 0), (by decide : (0 : Int) ≤ 12)⟩
      · exact ⟨(by decide : (0 : Int) ≤ 2), (by decide : (2 : Int) ≤ 12)⟩
    · rw [parse_two p h]
      split
      · exact ⟨(by decide : (0 : Int) ≤ 2), (by decide : (2 : Int) ≤ 12)⟩
      · split
        · exact ⟨(by decide : (0 : Int) ≤ 4), (by decide : (4 : Int) ≤ 12)⟩
        · split
          · exact ih _
          · rename_i a _ _ _
            exact accF_rng _ _
set_option maxRecDepth 100000 in
theorem parses_any (s : ByteArray) (w : World) (hg : ErrTy w) (hs : s.size ≤ 4294967280) :
    Calls Tryd.prog 9 #[.string s] w fun e w' => e = .returned (.bool true) ∧ Below w.heap.size w w' := by
  have hp := parse_any s
  have hr := refParse_any s w hs
  have hrg := parseR_range (cutL 10 s.data.toList) []
  generalize parseR (cutL 10 s.data.toList) [] = r at hp hr hrg
  obtain ⟨m, k, e0⟩ := r
  simp only at hp hr hrg
  have HS := hide hs
  have HR := hide hrg
  have HP := hide hp
  clear hs hrg hp
  go_enter Tryd.func9, Tryd.ntmps9
  go_wp2_with fail
  refine hr.mono ?_
  rintro e w1 ⟨v1, rfl, hown1, hb1⟩
  obtain ⟨A1, c1, rfl, hc1, hm1⟩ := hown1.form
  have hr1 := hown1.rd accEncR
  have hg1 := hg.below hb1
  clear hown1 hr
  go_wp2_with fail
  refine (HP.out w1 HS.out).mono ?_
  rintro e w2 ⟨v2, rfl, hown2, hb2⟩
  obtain ⟨A2, c2, rfl, hc2, hm2⟩ := hown2.form
  have hr2 := hown2.rd accEncR
  have hr1 := Rd.below hr1 hb2
  have hg2 := hg1.below hb2
  have hb12 := bthen hb1 (Nat.le_refl _) hb2
  clear hown2 hg1 hb1 hb2
  go_wp2_with fail
  refine (error_any e0 e0 _ hg2 HR.out.1 HR.out.2).mono ?_
  rintro e w3 ⟨rfl, hb3⟩
  have hr1 := Rd.below hr1 hb3
  have hr2 := Rd.below hr2 hb3
  have hb13 := bthen hb12 (Nat.le_refl _) hb3
  clear hg2 hb12 hb3
  go_wp2_with fail
  refine (charts_same m _ _ _ _ _ _ (by unfold maxLen at hm1; omega) hr2 hr1).mono ?_
  rintro e w4 ⟨rfl, hb4⟩
  have hb14 := bthen hb13 (Nat.le_refl _) hb4
  clear hb13 hb4 hr1 hr2
  go_wp2_with fail
  go_ret
  exact ⟨ret_bool (by simp), hb14⟩
end Go.Proofs.YthmjkhlndphldaaDoor
