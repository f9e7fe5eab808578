/- rate.Check, Find at no rates, both currencies the base; ledger.At; revalue.check. -/
import Derived.Test.YtmaaehajficnhaaGreatDoorRevP
import Derived.Test.YtmaaehajficnhaaGreatDoorBalB
namespace Go.Proofs.YtmaaehajficnhaaGreatDoor
open Go Go.RowKit
set_option linter.unusedVariables false

theorem eur_cur : curB eur = true := by decide +kernel
theorem eur_size : eur.size ≤ 9223372036854775807 := by decide

theorem ratecheck_nil (w : World) : Calls Tryz.prog 16 #[.slice none 0 0] w fun e w' => e = .returned .nilIface ∧ Below w.heap.size w w' := by
  have hb : Below w.heap.size w (w.alloc (.map #[] 0)) := (Below.refl _ _).alloc (Nat.le_refl _) _
  have hmm := @run_makeMap Tryz.prog
  go_enter Tryz.func16, Tryz.ntmps16
  go_wp2_with fail
  go_loopw [14] (fun iv wr => iv = .int .i64 0 ∧ wr = w.alloc (.map #[] 0)) (fun _ _ => 0)
  case atStart => exact ⟨rfl, rfl⟩
  case round =>
    obtain ⟨rfl, rfl⟩ := hrel
    go_wp2_with fail
    go_ret
    exact ⟨rfl, hb⟩

theorem direct_same (s : ByteArray) (per : Int) (w : World) : Calls Tryz.prog 33 #[.slice none 0 0, .string s, .string s, .int .i64 per] w fun e w' => e = .returned (.tuple #[.int .i64 1, .int .i64 1, .bool true]) ∧ Below w.heap.size w w' := by
  go_enter Tryz.func33, Tryz.ntmps33
  go_wp2_with fail
  go_ret3
  exact ⟨rfl, Below.refl _ _⟩

theorem find_same (per : Int) (hp : inB 1 120 per = true) (w : World) : Calls Tryz.prog 19 #[.slice none 0 0, .string eur, .string eur, .string eur, .int .i64 per] w fun e w' => e = .returned (.tuple #[.int .i64 1, .int .i64 1, .nilIface]) ∧ Below w.heap.size w w' := by
  have HP := hide hp
  clear hp
  go_enter Tryz.func19, Tryz.ntmps19
  go_wp2_with fail
  refine (ratecheck_nil _).mono ?_
  rintro e w1 ⟨rfl, hb1⟩
  go_wp2_with fail
  refine (cur_any eur _ eur_size).mono ?_
  rintro e w2 ⟨rfl, hb2⟩
  rw [eur_cur]
  have hb2 := bthen hb1 (Nat.le_refl _) hb2
  go_wp2_with fail
  refine (cur_any eur _ eur_size).mono ?_
  rintro e w3 ⟨rfl, hb3⟩
  rw [eur_cur]
  have hb3 := bthen hb2 (Nat.le_refl _) hb3
  go_wp2_with fail
  refine (cur_any eur _ eur_size).mono ?_
  rintro e w4 ⟨rfl, hb4⟩
  rw [eur_cur]
  have hb4 := bthen hb3 (Nat.le_refl _) hb4
  go_wp2_with fail
  refine (period_any per _).mono ?_
  rintro e w5 ⟨rfl, rfl⟩
  rw [HP.out]
  go_wp2_with fail
  refine (direct_same eur per _).mono ?_
  rintro e w6 ⟨rfl, hb6⟩
  have hb6 := bthen hb4 (Nat.le_refl _) hb6
  go_wp2_with fail
  go_ret3
  exact ⟨rfl, hb6⟩

theorem revcheck_any (S : List Bal) (A : Option Addr) (n cap : Nat) (w : World) (hl : n ≤ 9223372036854775807) (ha : Rd w 4 balEnc A n S) :
    Calls Tryz.prog 6 #[.slice none 0 0, .string eur, .slice A n cap] w fun e w' => e = .returned (errV (balsE S)) ∧ Below w.heap.size w w' := by
  by_cases h : balsE S = 0
  · have e0 := errV_0 h
    rw [e0]
    have HB := hide e0
    clear h e0
    go_enter Tryz.func6, Tryz.ntmps6
    go_wp2_with fail
    refine (lcheck_any S _ _ _ _ hl ha).mono ?_
    rintro e w1 ⟨rfl, hb1⟩
    rw [HB.out]
    go_wp2_with fail
    refine (ratecheck_nil _).mono ?_
    rintro e w2 ⟨rfl, hb2⟩
    go_wp2_with fail
    refine (cur_any eur _ eur_size).mono ?_
    rintro e w3 ⟨rfl, hb3⟩
    rw [eur_cur]
    go_wp2_with fail
    go_ret
    exact ⟨rfl, bthen (bthen hb1 (Nat.le_refl _) hb2) (Nat.le_refl _) hb3⟩
  · have e0 := errV_n h
    rw [e0]
    have HB := hide e0
    clear h e0
    go_enter Tryz.func6, Tryz.ntmps6
    go_wp2_with fail
    refine (lcheck_any S _ _ _ _ hl ha).mono ?_
    rintro e w1 ⟨rfl, hb1⟩
    rw [HB.out]
    go_wp2_with fail
    go_ret
    exact ⟨rfl, hb1⟩

theorem at_any (ent per : Int) (w : World) : Calls Tryz.prog 7 #[.int .i64 ent, .int .i64 per] w fun e w' => e = .returned (errV (atE ent per)) ∧ w = w' := by
  by_cases h1 : ent < 1
  · have hf : atE ent per = 1 := if_neg (by simp [inB]; omega)
    rw [hf]; clear hf
    go_enter Tryz.func7, Tryz.ntmps7
    go_wp2_with fail
    go_ret
    exact ⟨rfl, rfl⟩
  · by_cases h2 : 12 < ent
    · have hf : atE ent per = 1 := if_neg (by simp [inB]; omega)
      rw [hf]; clear hf
      go_enter Tryz.func7, Tryz.ntmps7
      go_wp2_with fail
      go_ret
      exact ⟨rfl, rfl⟩
    · have he : inB 1 12 ent = true := by simp [inB]; omega
      cases hp : inB 1 120 per with
      | true =>
        have hf : atE ent per = 0 := if_pos ⟨he, hp⟩
        rw [hf]
        have HP := hide hp
        clear hf he hp
        go_enter Tryz.func7, Tryz.ntmps7
        go_wp2_with fail
        refine (period_any per _).mono ?_
        rintro e w1 ⟨rfl, rfl⟩
        rw [HP.out]
        go_wp2_with fail
        go_ret
        exact ⟨rfl, rfl⟩
      | false =>
        have hf : atE ent per = 1 := if_neg (by rw [hp]; simp)
        rw [hf]
        have HP := hide hp
        clear hf he hp
        go_enter Tryz.func7, Tryz.ntmps7
        go_wp2_with fail
        refine (period_any per _).mono ?_
        rintro e w1 ⟨rfl, rfl⟩
        rw [HP.out]
        go_wp2_with fail
        go_ret
        exact ⟨rfl, rfl⟩
end Go.Proofs.YtmaaehajficnhaaGreatDoor
