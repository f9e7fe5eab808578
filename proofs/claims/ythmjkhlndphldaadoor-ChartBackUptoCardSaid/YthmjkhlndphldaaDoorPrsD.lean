/- strings.Lines: its iterator. -/
import Derived.Test.YthmjkhlndphldaaDoorPrsC
namespace Go.Proofs.YthmjkhlndphldaaDoor
open Go Go.RowKit Go.Shelf
set_option linter.unusedVariables false
attribute [local go_sem] Oper.semAt_some

def boxLen (b : Nat) (W : World) : Nat := match W.cell? ⟨b, 0, none⟩ with
  | some (.string s) => s.size
  | _ => 0
theorem boxLen_of {W : World} {b : Nat} {t : TypeId} {s : ByteArray} (h : Boxed W b t (.string s)) : boxLen b W = s.size := by
  unfold boxLen
  rw [h.cell]

/-- something is left -/
def Live (s : ByteArray) : Prop := s.size ≠ 0
set_option maxRecDepth 100000 in
set_option maxHeartbeats 1000000 in
theorem lines_turns (n : Nat) (hn : 2 ≤ n) (b : Nat) : Turns Fence.wide n Tryd.prog 79 #[.pointer (some ⟨b, 0, none⟩)] b (fun s : ByteArray => #[Value.string (headB s)]) tailB Live (fun s => s.size ≤ 4294967280) (fun s => .cells #[.string s] 9 (0, 0)) := by
  intro l J Jx W s0 hJ hY hgood hbox h0
  have h1 : 1 ≤ n := by omega
  refine callsIn_of_wp Tryd.func79 rfl trivial ?_ rfl
  simp only [Tryd.ntmps79, List.size_toArray, List.length_cons, List.length_nil, Nat.reduceAdd, Nat.reduceSub, Array.replicate_succ, Array.replicate_zero, List.push_toArray, List.append_toArray, List.nil_append, List.cons_append]
  gi_wp2
  gi_loopw [3] (fun p wr => ∃ s : ByteArray, s.size ≤ 4294967280 ∧ Boxed wr b 9 (.string s) ∧ J s wr) (fun p wr => boxLen b wr)
  case atStart => exact ⟨s0, hgood, hbox, h0⟩
  case round =>
    obtain ⟨s, hsb, hb, hJs⟩ := hrel
    have hc := hb.cell
    have hf := hb.frozen
    by_cases hs : s.size = 0
    · have hs0 : ¬ (0 : Int) < (s.size : Int) := by omega
      gi_wp2
      go_end0
      refine ⟨⟨_, rfl⟩, .inl ?_⟩
      exact ⟨s, fun h => h hs, hJs⟩
    · have hs0 : (0 : Int) < (s.size : Int) := by omega
      rcases line_cases s with ⟨i, hi, hil, eh, et, hdrop⟩ | ⟨hi, eh, et, hdrop⟩
      · have hix : ∀ W, Calls Tryd.prog 80 #[.string s, .int .u8 10] W fun e w' => e = .returned (.int .i64 (i : Int)) ∧ w' = W := fun W => (Tryd.strings_IndexByte s 10 W).mono fun e w' ⟨he, hw⟩ => ⟨by rw [he, ← hi]; rfl, hw⟩
        clear hdrop
        have hi0 : (0 : Int) ≤ (i : Int) := by omega
        have hi1 : (i : Int) < (s.size : Int) := by omega
        have hi2 : (i : Int) + 1 ≤ 4294967280 := by omega
        have hlive : Live s := hs
        have HE := hide eh
        have HT := hide et
        clear hs eh et
        have HI := hide hi
        have HSB := hide hsb
        have HG := hide hgood
        have HI1 := hide hi1
        clear hi hil hi1 hi2 hgood hsb
        gi_wp2_with (refine ⟨trivial, ?_⟩; gi_at_call 80; refine (callsIn_wide.2 (hix _)).mono ?_; rintro e w' ⟨rfl, rfl⟩)
        have hi1 := HI1.out
        have hw : wrap64 ((i : Int) + 1) = (i : Int) + 1 := by have := HSB.out; unfold wrap64; omega
        have hi3 : (0 : Int) ≤ (i : Int) + 1 := by omega
        have hi4 : (i : Int) + 1 ≤ (s.size : Int) := by omega
        gi_region
        clear hi1 hw hi3 hi4
        obtain ⟨W1, hW1⟩ : ∃ W1, W1 = (w'.setCell ⟨b, 0, none⟩ (.string (s.extract (i + 1) s.size))).drew := ⟨_, rfl⟩
        rw [← hW1]
        have hbx : Boxed W1 b 9 (.string (tailB s)) := by rw [hW1, HT.out]; exact hb.set _
        have hJ1 : J s W1 := hJ s w' W1 (some b) hJs (by rw [hW1]; exact only_drewN (only_setCell (only_refl w' (some b)) 0 _) 1) (fun r e => by injection e with e; exact e.symm)
        obtain ⟨fn, tmps, assign, body, hy, hR⟩ := hY s W1 hJ1 hlive
        rw [HE.out] at hy
        clear hW1
        gi_wp2
        refine hR.mono ?_
        rintro e W3 (⟨rfl, hJ3, hk3⟩ | ⟨rfl, hJx3⟩)
        · have hb3 : Boxed W3 b 9 (.string (tailB s)) := hk3.trans hbx
          gi_wp2
          go_roundw
          case rel => exact ⟨tailB s, by have := tail_lt hlive; have := HSB.out; omega, hb3, hJ3⟩
          case measure => rw [boxLen_of hb3, boxLen_of hb]; exact tail_lt hlive
        · gi_wp2
          refine bodyPost_ret (results_none rfl _ _ _) rfl ?_
          exact ⟨⟨_, rfl⟩, .inr hJx3⟩
      · have hix : ∀ W, Calls Tryd.prog 80 #[.string s, .int .u8 10] W fun e w' => e = .returned (.int .i64 (-1)) ∧ w' = W := fun W => (Tryd.strings_IndexByte s 10 W).mono fun e w' ⟨he, hw⟩ => ⟨by rw [he, ← hi]; rfl, hw⟩
        clear hdrop
        have hlive : Live s := hs
        have HE := hide eh
        have HT := hide et
        have HSB := hide hsb
        clear hs eh et hi hgood hsb
        have hbx : Boxed (wr.setCell ⟨b, 0, none⟩ (.string ⟨#[]⟩)) b 9 (.string (tailB s)) := by rw [HT.out]; exact hb.set _
        have hJ1 : J s (wr.setCell ⟨b, 0, none⟩ (.string ⟨#[]⟩)) := hJ s wr _ (some b) hJs (only_setCell (only_refl wr (some b)) 0 _) (fun r e => by injection e with e; exact e.symm)
        obtain ⟨fn, tmps, assign, body, hy, hR⟩ := hY s _ hJ1 hlive
        rw [HE.out] at hy
        gi_wp2_with (refine ⟨trivial, ?_⟩; gi_at_call 80; refine (callsIn_wide.2 (hix _)).mono ?_; rintro e w' ⟨rfl, rfl⟩)
        refine hR.mono ?_
        rintro e W3 (⟨rfl, hJ3, hk3⟩ | ⟨rfl, hJx3⟩)
        · have hb3 : Boxed W3 b 9 (.string (tailB s)) := hk3.trans hbx
          gi_wp2
          go_roundw
          case rel => exact ⟨tailB s, by have := tail_lt hlive; have := HSB.out; omega, hb3, hJ3⟩
          case measure => rw [boxLen_of hb3, boxLen_of hb]; exact tail_lt hlive
        · gi_wp2
          refine bodyPost_ret (results_none rfl _ _ _) rfl ?_
          exact ⟨⟨_, rfl⟩, .inr hJx3⟩
end Go.Proofs.YthmjkhlndphldaaDoor
