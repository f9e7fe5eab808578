/- dayref1.Account and dayref1.Chart: what each returns. -/
import Derived.Test.YtfkhcdcmcplfoaaGreatDoorRefB
import Derived.Test.YtfkhcdcmcplfoaaGreatDoorChartX
import Derived.Test.YtfkhcdcmcplfoaaGreatDoorChartP
import Derived.Deep.QuietTactic
import Derived.BigQuiet
namespace Go.Proofs.YtfkhcdcmcplfoaaGreatDoor
open Go Go.RowKit
set_option linter.unusedVariables false

theorem refAccount_any (l : List Acc) (A : Option Addr) (n cap i : Nat) (w : World) (hl : n ≤ 9223372036854775807) (hcap : n ≤ cap) (ha : Accs w A n l) (hok : AccOk l) (hil : i < l.length) :
    Calls Tryz.prog 43 #[.slice A n cap, .int .i64 i] w fun e w' => e = .returned (.int .i64 (accE l i)) ∧ Below w.heap.size w w' := by
  obtain ⟨hs1, hs2⟩ := hok i hil
  rw [accE_at hil]
  cases h1 : digitsB l[i].code 6 with
  | false =>
    rw [show accF (l.take i) l[i] = 2 from by unfold accF; rw [if_pos h1]]
    exact rac_1 l A n cap i w hl hcap ha hil hs1 hs2 h1
  | true =>
    have hb : nameB l[i].name = false → accF (l.take i) l[i] = 2 := fun h2 => by unfold accF; rw [if_neg (by simp [h1]), if_pos h2]
    cases h2 : l[i].name.toList.isEmpty with
    | true =>
      rw [hb (by simp [nameB, h2])]
      exact rac_2 l A n cap i w hl hcap ha hil hs1 hs2 h1 h2
    | false =>
      by_cases h3 : (l[i].name.size : Int) ≤ 24
      · cases h4 : allIn l[i].name nameSet with
        | false =>
          rw [hb (by simp [nameB, h4])]
          exact rac_4 l A n cap i w hl hcap ha hil hs1 hs2 h1 h2 h3 (hide h4)
        | true =>
          rw [accF_R h1 (by simp [nameB, h2, h3, h4])]
          exact rac_T l A n cap i w hl hcap ha hil hs1 hs2 h1 h2 h3 (hide h4)
      · rw [hb (by simp [nameB, h3])]
        exact rac_3 l A n cap i w hl hcap ha hil hs1 hs2 h1 h2 (by omega)

theorem refChart_any (l : List Acc) (A : Option Addr) (n cap : Nat) (w : World) (hl : n ≤ 9223372036854775807) (hcap : n ≤ cap) (ha : Accs w A n l) (hok : AccOk l) :
    Calls Tryz.prog 17 #[.slice A n cap] w fun e w' => e = .returned (.int .i64 (chartE l)) ∧ Below w.heap.size w w' := by
  have hn : l.length = n := ha.1
  by_cases h60 : 60 < n
  · have hf : chartE l = 4 := by rw [chartE, if_pos (by omega)]
    rw [hf]
    have h60' : (60 : Int) < (n : Int) := by omega
    clear hf h60 hn
    go_enter Tryz.func17, Tryz.ntmps17
    go_wp2_with fail
    go_ret
    exact ⟨rfl, Below.refl _ _⟩
  · have hf : chartE l = scanE l 0 l.length := by rw [chartE, if_neg (by omega)]
    rw [hf]
    have h60' : (n : Int) ≤ 60 := by omega
    have h60d : decide ((60 : Int) < (n : Int)) = false := by simp; omega
    have Hn := hide hn
    clear hf h60 hn
    go_enter Tryz.func17, Tryz.ntmps17
    go_wp2_with fail
    go_loopw [3] (fun i wr => ∃ k : Nat, k ≤ n ∧ i = .int .i64 k ∧ OkTo l k ∧ Below w.heap.size w wr) (fun i _ => n - (intOf i).toNat)
    case atStart => exact ⟨0, by omega, rfl, fun j hj => absurd hj (by omega), Below.refl _ _⟩
    case round =>
      obtain ⟨k, hk, rfl, hno, hb⟩ := hrel
      by_cases hlt : k < n
      · have hkl : k < l.length := by have := Hn.out; omega
        by_cases he : accE l k = 0
        · have HE := hide he
          have he1 : (accE l k == 0) = true := by rw [beq_iff_eq]; exact he
          have he2 : (accE l k != 0) = false := by rw [bne, he1]; rfl
          clear he
          go_wp2_with (go_at_call 43; refine (refAccount_any l _ _ _ _ _ hl hcap (ha.below hb) hok hkl).mono ?_; rintro e w1 ⟨rfl, hb1⟩)
          go_roundw
          case rel => exact ⟨k + 1, by omega, by go_num, fun j hj => (by by_cases e : j = k; (· subst e; exact HE.out); (· exact hno j (by omega))), bthen hb (Nat.le_refl _) hb1⟩
          case measure => simp [intOf]; omega
        · have HE := hide he
          have he1 : (accE l k == 0) = false := by rw [beq_eq_false_iff_ne]; exact he
          have he2 : (accE l k != 0) = true := by rw [bne, he1]; rfl
          clear he
          go_wp2_with (go_at_call 43; refine (refAccount_any l _ _ _ _ _ hl hcap (ha.below hb) hok hkl).mono ?_; rintro e w1 ⟨rfl, hb1⟩)
          go_ret
          exact ⟨ret_int (scanE_hit hno HE.out _ 0 (by omega) (by omega)).symm, bthen hb (Nat.le_refl _) hb1⟩
      · go_wp2_with fail
        go_ret
        exact ⟨ret_int (scanE_none (m := k) hno _ 0 (by have := Hn.out; omega)).symm, hb⟩
end Go.Proofs.YtfkhcdcmcplfoaaGreatDoor

namespace Go.Proofs.YtfkhcdcmcplfoaaGreatDoor
open Go Go.RowKit
set_option linter.unusedVariables false

theorem refLeaf_any (l : List Acc) (c : ByteArray) (A : Option Addr) (n cap : Nat) (w : World) (hl : n ≤ 9223372036854775807) (ha : Accs w A n l) :
    Calls Tryz.prog 19 #[.slice A n cap, .string c] w fun e w' => e = .returned (.int .i64 (leafE l c)) ∧ w = w' := by
  have Hn := hide ha.1
  by_cases hi : idxI l c < 0
  · have HE := hide (leafE_6 hi)
    go_enter Tryz.func19, Tryz.ntmps19
    go_wp2_with (go_at_call 44; refine (refAt_any l c _ _ _ _ hl ha).mono ?_; rintro e w1 ⟨rfl, rfl⟩)
    go_ret
    exact ⟨ret_int HE.out.symm, rfl⟩
  · have hi0 : 0 ≤ idxI l c := by omega
    clear hi
    go_enter Tryz.func19, Tryz.ntmps19
    go_wp2_with (go_at_call 44; refine (refAt_any l c _ _ _ _ hl ha).mono ?_; rintro e w1 ⟨rfl, rfl⟩)
    go_loop [6] (fun i => ∃ k : Nat, k ≤ n ∧ i = .int .i64 k ∧ NoneParTo l c k) (fun i => n - (intOf i).toNat)
    case atStart => exact ⟨0, by omega, rfl, NoneParTo.zero _ _⟩
    case round =>
      obtain ⟨k, hk, rfl, hno⟩ := hrel
      by_cases hlt : k < n
      · obtain ⟨b, off, rfl, hcs⟩ := ha.at_ (by omega)
        have hkl : k < l.length := by have := Hn.out; omega
        have hc := (hcs k hkl).2.2.2.1
        clear hcs
        cases hq : l[k].parent.toList == c.toList with
        | true =>
          have HE := hide (leafE_12 hi0 (by rw [hno.hit hkl hq]; omega))
          go_wp2_with fail
          go_ret
          exact ⟨ret_int HE.out.symm, rfl⟩
        | false =>
          have HN := hide (hno.succ hkl hq)
          go_wp2_with fail
          go_round
          case rel => exact ⟨k + 1, by omega, by go_num, HN.out⟩
          case measure => simp [intOf]; omega
      · go_wp2_with fail
        go_ret
        exact ⟨ret_int (leafE_0 hi0 (by rw [hno.miss (by have := Hn.out; omega)]; omega)).symm, rfl⟩

theorem idx_code {l : List Acc} (h : chartE l = 0) {p : Nat} (hp : p < l.length) {c : ByteArray} (e : l[p].code.toList = c.toList) : idxO l c = some p := by
  rw [← ch_idx h p hp]
  unfold idxO
  rw [e]

theorem refAt_in (l : List Acc) (c : ByteArray) (k : Nat) (A : Option Addr) (n cap : Nat) (w : World) (hl : n ≤ 9223372036854775807) (ha : Accs w A n l) (hk : idxO l c = some k) :
    Calls Tryz.prog 44 #[.slice A n cap, .string c] w fun e w' => e = .returned (.int .i64 k) ∧ w = w' := by
  have := refAt_any l c A n cap w hl ha
  rw [show idxI l c = k from by simp [idxI, hk]] at this
  exact this

end Go.Proofs.YtfkhcdcmcplfoaaGreatDoor
