/- package dayref1: Leaf and In; daysame.Texts: what each returns. -/
import Derived.Test.YthmjkhlndphldaaGreatDoorChartP
import Derived.Deep.QuietTactic
import Derived.BigQuiet
namespace Go.Proofs.YthmjkhlndphldaaGreatDoor
open Go Go.RowKit
set_option linter.unusedVariables false

theorem refLeaf_any (l : List Acc) (c : ByteArray) (A : Option Addr) (n cap : Nat) (w : World) (hl : n ≤ 9223372036854775807) (ha : Accs w A n l) :
    Calls Tryz.prog 62 #[.slice A n cap, .string c] w fun e w' => e = .returned (.int .i64 (leafE l c)) ∧ w = w' := by
  have Hn := hide ha.1
  by_cases hi : idxI l c < 0
  · have HE := hide (leafE_6 hi)
    go_enter Tryz.func62, Tryz.ntmps62
    go_wp2_with (go_at_call 110; refine (refAt_any l c _ _ _ _ hl ha).mono ?_; rintro e w1 ⟨rfl, rfl⟩)
    go_ret
    exact ⟨ret_int HE.out.symm, rfl⟩
  · have hi0 : 0 ≤ idxI l c := by omega
    clear hi
    go_enter Tryz.func62, Tryz.ntmps62
    go_wp2_with (go_at_call 110; refine (refAt_any l c _ _ _ _ hl ha).mono ?_; rintro e w1 ⟨rfl, rfl⟩)
    go_loop [6] (fun i => ∃ k : Nat, k ≤ n ∧ i = .int .i64 k ∧ NoneParTo l c k) (fun i => n - (intOf i).toNat)
    case atStart => exact ⟨0, by omega, rfl, NoneParTo.zero _ _⟩
    case round =>
      obtain ⟨k, hk, rfl, hno⟩ := hrel
      by_cases hlt : k < n
      · obtain ⟨b, off, rfl, hcs⟩ := ha.at_ (by omega)
        have hkl : k < l.length := by have := Hn.out; omega
        have hc := (hcs k hkl).2.2.2.1
        clear hcs
        cases hq : l[k].parent.toList == c.toList with
        | true =>
          have HE := hide (leafE_12 hi0 (by rw [hno.hit hkl hq]; omega))
          go_wp2_with fail
          go_ret
          exact ⟨ret_int HE.out.symm, rfl⟩
        | false =>
          have HN := hide (hno.succ hkl hq)
          go_wp2_with fail
          go_round
          case rel => exact ⟨k + 1, by omega, by go_num, HN.out⟩
          case measure => simp [intOf]; omega
      · go_wp2_with fail
        go_ret
        exact ⟨ret_int (leafE_0 hi0 (by rw [hno.miss (by have := Hn.out; omega)]; omega)).symm, rfl⟩

theorem idx_code {l : List Acc} (h : chartE l = 0) {p : Nat} (hp : p < l.length) {c : ByteArray} (e : l[p].code.toList = c.toList) : idxO l c = some p := by
  rw [← ch_idx h p hp]
  unfold idxO
  rw [e]

theorem refAt_in (l : List Acc) (c : ByteArray) (k : Nat) (A : Option Addr) (n cap : Nat) (w : World) (hl : n ≤ 9223372036854775807) (ha : Accs w A n l) (hk : idxO l c = some k) :
    Calls Tryz.prog 110 #[.slice A n cap, .string c] w fun e w' => e = .returned (.int .i64 k) ∧ w = w' := by
  have := refAt_any l c A n cap w hl ha
  rw [show idxI l c = k from by simp [idxI, hk]] at this
  exact this

theorem refIn_any (l : List Acc) (A : Option Addr) (cap k top : Nat) (w : World) (ha : Accs w A l.length l) (he : chartE l = 0) (hk : k < l.length) (htop : top < l.length) :
    Calls Tryz.prog 83 #[.slice A l.length cap, .int .i64 k, .int .i64 top] w fun e w' => e = .returned (.bool (bel l top k)) ∧ w = w' := by
  have HE := hide he
  have hl : l.length ≤ 60 := chartE_len he
  clear he
  go_enter Tryz.func83, Tryz.ntmps83
  go_wp2_with fail
  go_loop [1] (fun i => ∃ j : Nat, j < l.length ∧ i = .int .i64 j ∧ Hid (bel l top j = bel l top k)) (fun i => (intOf i).toNat)
  case atStart => exact ⟨k, hk, rfl, rfl⟩
  case round =>
    obtain ⟨j, hj, rfl, hbj⟩ := hrel
    have HB := hide hbj
    clear hbj
    obtain ⟨b, off, rfl, hcs⟩ := ha.at_ (by omega)
    have hc := (hcs j hj).2.2.2.1
    clear hcs
    have j0 : (0 : Int) ≤ (j : Int) := by omega
    have j1 : (j : Int) < (l.length : Int) := by omega
    by_cases e : j = top
    · subst e
      have hjj : ((j : Int) == (j : Int)) = true := by simp
      go_wp2_with fail
      go_ret
      exact ⟨ret_bool (by rw [← HB.out.out, bel_self]), rfl⟩
    · have hne : ((j : Int) == (top : Int)) = false := by rw [beq_eq_false_iff_ne]; omega
      have hne2 : ¬ (j = top) := e
      cases hx : l[j].parent.toList.isEmpty with
      | true =>
        have HF : Hid (bel l top j = false) := by
          show bel l top j = false
          rcases Nat.lt_or_ge j top with h1 | h1
          · exact bel_lt h1
          · rw [bel_gt (by omega) hj, ch_noroot HE.out j hj hx]
        go_wp2_with fail
        go_ret
        exact ⟨ret_bool (by rw [← HB.out.out, HF.out]), rfl⟩
      | false =>
        obtain ⟨p, hp, e1, e2, _⟩ := ch_parent HE.out j hj hx
        have HP := hide (idx_code HE.out (show p < l.length by omega) e2)
        have HF : Hid (bel l top p = bel l top j) := by
          show bel l top p = bel l top j
          rcases Nat.lt_or_ge j top with h1 | h1
          · rw [bel_lt h1, bel_lt (show p < top by omega)]
          · rw [bel_gt (by omega) hj, e1]
        clear e1 e2
        go_wp2_with (go_at_call 110; refine (refAt_in l _ p _ _ _ _ (by omega) ha HP.out).mono ?_; rintro e w1 ⟨rfl, rfl⟩)
        go_round
        case rel => exact ⟨p, by omega, rfl, by show bel l top p = _; rw [HF.out, HB.out.out]⟩
        case measure => simp [intOf]; omega

end Go.Proofs.YthmjkhlndphldaaGreatDoor
