/- dayref1.Cut, daysame.Charts: what each returns. -/
import Derived.Test.YthmjkhlndphldaaDoorPrsQ
import Derived.Test.YthmjkhlndphldaaDoorRefD
import Derived.Deep.QuietTactic
import Derived.BigQuiet
namespace Go.Proofs.YthmjkhlndphldaaDoor
open Go Go.RowKit
set_option linter.unusedVariables false

set_option maxRecDepth 100000 in
theorem refCut_any (s : ByteArray) (c : UInt8) (w : World) (hs : s.size ≤ 1099511627776) :
    Calls Tryd.prog 67 #[.string s, .int .u8 c.toNat] w fun e w' => ∃ v, e = .returned v ∧ Own w' w.heap.size 9 1 strEnc v ((cutL c s.data.toList).map bs) ∧ Below w.heap.size w w' := by
  obtain ⟨i0, hi0, hz0, hz1, hz2⟩ := info_parts str_info
  go_enter Tryd.func67, Tryd.ntmps67
  go_wp2_with fail
  go_loopw [5, 6, 7] (fun ov fv iv wr => ∃ (f i : Nat) (out : List (List UInt8)), fv = .int .i64 f ∧ iv = .int .i64 i ∧ i ≤ s.size ∧ CutTo c s f i out ∧ Own wr w.heap.size 9 1 strEnc ov (out.map bs) ∧ Below w.heap.size w wr) (fun _ _ iv _ => s.size - (intOf iv).toNat)
  case atStart => exact ⟨0, 0, [], rfl, rfl, by omega, CutTo.zero c s, Own.nil _ _ _ _ _, Below.refl _ _⟩
  case round =>
    obtain ⟨f, i, out, rfl, rfl, hi, hct, hown, hbr⟩ := hrel
    have HC := hide hct
    have hfi := hct.le
    have hfew := hct.few
    clear hct
    have hol : (out.map bs).length ≤ s.size := by rw [List.length_map]; omega
    by_cases hlt : i < s.size
    · have k0 : (0 : Int) ≤ (i : Int) := by omega
      have k1 : (i : Int) < (s.size : Int) := by omega
      have f0 : (0 : Int) ≤ (f : Int) := by omega
      have f1 : (f : Int) ≤ (i : Int) := by omega
      have f2 : (i : Int) ≤ (s.size : Int) := by omega
      by_cases hb : s[i] = c
      · have HS := hide (HC.out.hit hlt hb)
        have hbn : ((s[i].toNat : Int) == (c.toNat : Int)) = true := by rw [hb]; simp
        clear hb
        go_wp2_with (first | (at_builtin; go_loud (refine wpList_push _ rfl _ _ 23 rfl w.heap.size 9 i0 (.string ⟨#[]⟩) 1 16 Tryd.underlying23 hi0 hz0 hz1 hz2 rfl (by decide) strEnc_ok _ (out.map bs) rfl (hown.alloc _) _ 1 1 [s.extract f i] rfl (Rd.boxed _ strEnc_ok _ _ _ rfl) (by intro h; cases h) (by simp only [maxLen]; omega) (by omega) (by have := hbr.size; simp; omega) ?_); intro v' w3 hown3 hg3 hat3))
        go_roundw
        case rel =>
          refine ⟨i + 1, i + 1, _, rfl, rfl, by omega, HS.out, ?_, bpush hbr (hbr.size) hg3 (fun k hk => (hown.block k hk).1)⟩
          rw [List.map_append]; exact hown3
        case measure => simp [intOf]; omega
      · have HS := hide (HC.out.miss hlt hb)
        have hbn : ((s[i].toNat : Int) == (c.toNat : Int)) = false := by
          rw [beq_eq_false_iff_ne]
          intro e
          exact hb (UInt8.toNat_inj.1 (by omega))
        clear hb
        go_wp2_with fail
        go_roundw
        case rel => exact ⟨f, i + 1, out, rfl, by go_num, by omega, HS.out, hown, hbr⟩
        case measure => simp [intOf]; omega
    · have hie : i = s.size := by omega
      have HS := hide (HC.out.done hie)
      have f0 : (0 : Int) ≤ (f : Int) := by omega
      have f1 : (f : Int) ≤ (s.size : Int) := by omega
      clear hie
      go_wp2_with (first | (at_builtin; go_loud (refine wpList_push _ rfl _ _ 23 rfl w.heap.size 9 i0 (.string ⟨#[]⟩) 1 16 Tryd.underlying23 hi0 hz0 hz1 hz2 rfl (by decide) strEnc_ok _ (out.map bs) rfl (hown.alloc _) _ 1 1 [s.extract f s.size] rfl (Rd.boxed _ strEnc_ok _ _ _ rfl) (by intro h; cases h) (by simp only [maxLen]; omega) (by omega) (by have := hbr.size; simp; omega) ?_); intro v' w3 hown3 hg3 hat3))
      go_ret
      refine ⟨_, rfl, ?_, bpush hbr hbr.size hg3 (fun k hk => (hown.block k hk).1)⟩
      rw [HS.out, List.map_append]; exact hown3

/-- two charts that are one -/
theorem charts_same (q : List Acc) (A B : Option Addr) (m c d : Nat) (w : World) (hm : m ≤ 9223372036854775807) (ha : Accs w A m q) (hb : Accs w B m q) :
    Calls Tryd.prog 23 #[.slice A m c, .slice B m d] w fun e w' => e = .returned (.bool true) ∧ Below w.heap.size w w' := by
  have Hn := hide ha.1
  go_enter Tryd.func23, Tryd.ntmps23
  go_wp2_with fail
  go_loopw [5] (fun i wr => ∃ k : Nat, k ≤ m ∧ i = .int .i64 k ∧ Below w.heap.size w wr) (fun i _ => m - (intOf i).toNat)
  case atStart => exact ⟨0, by omega, rfl, Below.refl _ _⟩
  case round =>
    obtain ⟨k, hk, rfl, hbw⟩ := hrel
    by_cases hlt : k < m
    · obtain ⟨b1, o1, rfl, hc1⟩ := Accs.at_ (Rd.below ha hbw) (by omega)
      obtain ⟨b2, o2, rfl, hc2⟩ := Accs.at_ (Rd.below hb hbw) (by omega)
      have hkq : k < q.length := by have := Hn.out; omega
      obtain ⟨p0, p1, p2, p3, p4⟩ := hc1 k hkq
      obtain ⟨q0, q1, q2, q3, q4⟩ := hc2 k hkq
      have k0 : (0 : Int) ≤ (k : Int) := by omega
      have k1 : (k : Int) < (m : Int) := by omega
      clear hc1 hc2
      go_wp2_with fail
      go_quiet (fail)
      go_wp2_with fail
      go_roundw
      case rel => exact ⟨k + 1, by omega, by go_num, bdrewN hbw _⟩
      case measure => simp [intOf]; omega
    · go_wp2_with fail
      go_ret
      exact ⟨rfl, hbw⟩
end Go.Proofs.YthmjkhlndphldaaDoor
