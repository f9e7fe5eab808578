/- rate.Convert at no rates, both currencies the base. -/
import Derived.Test.YtggmbjdonlbfkaaGreatDoorBesafterRatW
import Derived.Test.YtggmbjdonlbfkaaGreatDoorBesafterRevX
namespace Go.Proofs.YtggmbjdonlbfkaaGreatDoorBesafter
open Go Go.RowKit
set_option linter.unusedVariables false

theorem convert_same (per amt : Int) (hp : inB 1 120 per = true) (h0 : -9223372036854775808 ≤ amt) (h1 : amt ≤ 9223372036854775807) (w : World) :
    Calls Tryz.prog 25 #[.slice none 0 0, .string eur, .string eur, .string eur, .int .i64 per, .int .i64 amt] w fun e w' => e = .returned (.tuple #[.int .i64 amt, .nilIface]) ∧ Below w.heap.size w w' := by
  go_enter Tryz.func25, Tryz.ntmps25
  go_wp2_with fail
  refine (find_same per hp _).mono ?_
  rintro e w1 ⟨rfl, hb1⟩
  go_wp2_with fail
  refine (ratio_one amt _ h0 h1).mono ?_
  rintro e w2 ⟨rfl, hb2⟩
  go_wp2_with fail
  go_ret2
  exact ⟨rfl, bthen hb1 (Nat.le_refl _) hb2⟩

end Go.Proofs.YtggmbjdonlbfkaaGreatDoorBesafter

namespace Go.Proofs.YtggmbjdonlbfkaaGreatDoorBesafter
open Go Go.RowKit
set_option linter.unusedVariables false

theorem int_infoR : (Tryz.prog.info? 3).map (fun i => (i.zero, i.size, i.bytes)) = some (some (.int .i64 0), 1, 8) := by kernel_rfl
theorem Rd.boxedR {α : Type} {enc : α → List Value} (w : World) {sz : Nat} (he : Enc sz enc) (x : α) (cs : Array Value) (e : TypeId) (hcs : cs.toList = enc x) (g : Nat) (hg : g = w.heap.size) : Rd (w.alloc (.cells cs e)) sz enc (some ⟨g, 0, none⟩) 1 [x] := by
  subst hg; exact Rd.boxed w he x cs e hcs
theorem atE_0 {ent per : Int} (h : atE ent per = 0) : inB 1 120 per = true := by
  unfold atE at h
  by_cases e : inB 1 12 ent = true ∧ inB 1 120 per = true
  · exact e.2
  · rw [if_neg e] at h; cases h

set_option maxHeartbeats 2000000 in
set_option maxRecDepth 100000 in
theorem worth_any (S : List Bal) (A : Option Addr) (n cap : Nat) (ent per : Int) (w : World) (hl : n ≤ 9223372036854775807) (ha : Rd w 4 balEnc A n S) (hE : Eurs S) (hok : BalsOk S) :
    Calls Tryz.prog 24 #[.slice none 0 0, .string eur, .slice A n cap, .int .i64 ent, .int .i64 per] w
      fun e w' => Below w.heap.size w w' ∧ ((worthE S ent per = 0 ∧ ∃ v, e = .returned (.tuple #[v, .nilIface]) ∧ Own w' w.heap.size 3 1 intEnc2 v (worthTo ent S n)) ∨ (∃ k, worthE S ent per = k ∧ k ≠ 0 ∧ e = .returned (.tuple #[.slice none 0 0, .iface 41 (.int .i64 k)]))) := by
  obtain ⟨i0, hi0, hz0, hz1, hz2⟩ := info_parts int_infoR
  have Hn := hide ha.1
  by_cases hb : balsE S = 0
  · have hn200 : n ≤ 200 := by have := (balsE_0 hb).1; have := Hn.out; omega
    have e0 := hide (errV_0 hb)
    by_cases ht : atE ent per = 0
    · have e1 := hide (errV_0 ht)
      have HP := hide (atE_0 ht)
      have HW : Hid (worthE S ent per = 0) := by show _ = _; rw [worthE_2 hb, ht]
      clear hb ht
      go_enter Tryz.func24, Tryz.ntmps24
      go_wp2_with fail
      refine (revcheck_any S _ _ _ _ hl ha).mono ?_
      rintro e w1 ⟨rfl, hb1⟩
      rw [e0.out]
      go_wp2_with fail
      refine (at_any ent per _).mono ?_
      rintro e w2 ⟨rfl, rfl⟩
      rw [e1.out]
      go_wp2_with fail
      go_loopw [14, 34] (fun ov iv wr => ∃ k : Nat, k ≤ n ∧ iv = .int .i64 k ∧ Own wr w.heap.size 3 1 intEnc2 ov (worthTo ent S k) ∧ Below w.heap.size w wr) (fun _ iv _ => n - (intOf iv).toNat)
      case atStart => exact ⟨0, by omega, rfl, Own.nil _ _ _ _ _, hb1⟩
      case round =>
        obtain ⟨k, hk, rfl, hown, hbr⟩ := hrel
        have hlen : (worthTo ent S k).length = k := worthTo_len ent S k (by have := Hn.out; omega)
        by_cases hlt : k < n
        · have hkl : k < S.length := by have := Hn.out; omega
          obtain ⟨b, off, rfl, hcs⟩ := (Rd.below ha hbr).2 (by omega)
          have q0 := hcs k 0 _ hkl rfl
          have q1 := hcs k 1 _ hkl rfl
          have q2 := hcs k 2 _ hkl rfl
          have q3 := hcs k 3 _ hkl rfl
          rw [Nat.add_zero] at q0
          rw [hE k hkl] at q2
          clear hcs
          have k0 : (0 : Int) ≤ (k : Int) := by omega
          have k1 : (k : Int) < (n : Int) := by omega
          have hamt := (hok _ (List.getElem_mem hkl)).2.2.2
          have hsz := hbr.size
          cases e0 : (S[k].ent == ent) with
          | false =>
            have HV : Hid (worthOf ent S[k] = 0) := if_neg (by simpa using e0)
            go_wp2_with (first | (at_builtin; go_loud (refine wpList_push _ rfl _ _ 25 rfl w.heap.size 3 i0 (.int .i64 0) 1 8 Tryz.underlying25 hi0 hz0 hz1 hz2 rfl (by decide) intEnc2_ok _ (worthTo ent S k) rfl ((hown.alloc _).alloc _) _ 1 1 [0] rfl (Rd.boxedR _ intEnc2_ok (0 : Int) _ _ rfl _ (by simp)) (by intro h; cases h) (by simp only [maxLen]; omega) (by omega) (by simp; omega) ?_); intro v' w4 hown4 hg4 hat4; have hb4 : Below w.heap.size w w4 := ((hbr.alloc hsz _).alloc (by simp; omega) _).grown hg4 (by simp; omega) (fun q e => (hown.block q e).1)))
            go_roundw
            case rel => exact ⟨k + 1, by omega, by go_num, by rw [worthTo_succ hkl, HV.out]; exact hown4, hb4⟩
            case measure => simp [intOf]; omega
          | true =>
            have HV : Hid (worthOf ent S[k] = S[k].amt) := if_pos (by simpa using e0)
            have hax : Below wr.heap.size wr (wr.alloc (.cells #[.int .i64 S[k].ent, .string S[k].acc, .string eur, .int .i64 S[k].amt] 33)) := (Below.refl _ _).alloc (Nat.le_refl _) _
            go_wp2_with fail
            refine (convert_same per S[k].amt HP.out hamt.1 hamt.2 _).mono ?_
            rintro e w3 ⟨rfl, hb3⟩
            have hw3 := bof_alloc hb3
            have hown3 := hown.below hw3
            have hbw := bthen hbr (Nat.le_refl _) hw3
            have hs3 := hw3.size
            go_wp2_with (first | (at_builtin; go_loud (refine wpList_push _ rfl _ _ 25 rfl w.heap.size 3 i0 (.int .i64 0) 1 8 Tryz.underlying25 hi0 hz0 hz1 hz2 rfl (by decide) intEnc2_ok _ (worthTo ent S k) rfl (hown3.alloc _) _ 1 1 [S[k].amt] rfl (Rd.boxed _ intEnc2_ok _ _ _ rfl) (by intro h; cases h) (by simp only [maxLen]; omega) (by omega) (by simp; omega) ?_); intro v' w4 hown4 hg4 hat4; have hb4 : Below w.heap.size w w4 := (hbw.alloc (by omega) _).grown hg4 (by simp; omega) (fun q e => (hown.block q e).1)))
            go_roundw
            case rel => exact ⟨k + 1, by omega, by go_num, by rw [worthTo_succ hkl, HV.out]; exact hown4, hb4⟩
            case measure => simp [intOf]; omega
        · have hkn : k = n := by omega
          subst hkn
          go_wp2_with fail
          go_ret2
          exact ⟨hbr, .inl ⟨HW.out, _, rfl, hown⟩⟩
    · have e1 := hide (errV_n ht)
      have HW : Hid (worthE S ent per = atE ent per) := by show _ = _; rw [worthE_2 hb]
      have HT := hide ht
      clear hb ht
      go_enter Tryz.func24, Tryz.ntmps24
      go_wp2_with fail
      refine (revcheck_any S _ _ _ _ hl ha).mono ?_
      rintro e w1 ⟨rfl, hb1⟩
      rw [e0.out]
      go_wp2_with fail
      refine (at_any ent per _).mono ?_
      rintro e w2 ⟨rfl, rfl⟩
      rw [e1.out]
      go_wp2_with fail
      go_ret2
      exact ⟨hb1, .inr ⟨_, HW.out, HT.out, rfl⟩⟩
  · have e0 := hide (errV_n hb)
    have HB := hide hb
    have HW : Hid (worthE S ent per = balsE S) := worthE_1 hb
    clear hb
    go_enter Tryz.func24, Tryz.ntmps24
    go_wp2_with fail
    refine (revcheck_any S _ _ _ _ hl ha).mono ?_
    rintro e w1 ⟨rfl, hb1⟩
    rw [e0.out]
    go_wp2_with fail
    go_ret2
    exact ⟨hb1, .inr ⟨_, HW.out, HB.out, rfl⟩⟩
end Go.Proofs.YtggmbjdonlbfkaaGreatDoorBesafter
