/- report.check: what it returns. -/
import Derived.Test.YtjojjicpdfmopaaGreatDoorTrlP
import Derived.Test.YtjojjicpdfmopaaGreatDoorBalX
namespace Go.Proofs.YtjojjicpdfmopaaGreatDoor
open Go Go.RowKit
set_option linter.unusedVariables false

def rcE (c : List Acc) (l : List Bal) (ent : Int) : Int := if chartE c ≠ 0 then chartE c else if balsE l ≠ 0 then balsE l else if inB 1 12 ent = false then 1 else 0
section
variable {c : List Acc} {l : List Bal} {ent : Int} {cur : ByteArray}
theorem rcE_1 (h : chartE c ≠ 0) : rcE c l ent = chartE c := if_pos h
theorem rcE_2 (h : chartE c = 0) (h2 : balsE l ≠ 0) : rcE c l ent = balsE l := by rw [rcE, if_neg (by simpa using h), if_pos h2]
theorem rcE_3 (h : chartE c = 0) (h2 : balsE l = 0) (h3 : inB 1 12 ent = false) : rcE c l ent = 1 := by rw [rcE, if_neg (by simpa using h), if_neg (by simpa using h2), if_pos h3]
theorem rcE_4 (h : chartE c = 0) (h2 : balsE l = 0) (h3 : inB 1 12 ent = true) : rcE c l ent = 0 := by rw [rcE, if_neg (by simpa using h), if_neg (by simpa using h2), if_neg (by rw [h3]; decide)]
theorem rcE_0 (h : rcE c l ent = 0) : chartE c = 0 ∧ balsE l = 0 ∧ inB 1 12 ent = true := by
  by_cases h1 : chartE c = 0
  · by_cases h2 : balsE l = 0
    · cases h3 : inB 1 12 ent with
      | true => exact ⟨h1, h2, rfl⟩
      | false => rw [rcE_3 h1 h2 h3] at h; cases h
    · rw [rcE_2 h1 h2] at h; exact absurd h h2
  · rw [rcE_1 h1] at h; exact absurd h h1
theorem rcE_range : 0 ≤ rcE c l ent ∧ rcE c l ent ≤ 12 := by
  have h1 := chartE_range c
  have h2 := balsE_range l
  unfold rcE
  repeat' split
  all_goals omega
end

set_option maxRecDepth 100000 in
theorem rcheck_any (c : List Acc) (CA : Option Addr) (cn ccap : Nat) (l : List Bal) (A : Option Addr) (n cap : Nat) (ent : Int) (w : World) (hcl : cn ≤ 9223372036854775807) (hcc : cn ≤ ccap) (hc : Accs w CA cn c) (hcok : AccOk c) (hl : n ≤ 9223372036854775807) (ha : Rd w 4 balEnc A n l) :
    Calls Tryz.prog 7 #[.slice CA cn ccap, .slice A n cap, .int .i64 ent] w fun e w' => e = .returned (errV (rcE c l ent)) ∧ Below w.heap.size w w' := by
  by_cases h1 : chartE c = 0
  · have H1 := hide h1
    clear h1
    by_cases h2 : balsE l = 0
    · have H2 := hide h2
      clear h2
      cases h3 : inB 1 12 ent with
      | true =>
        have HE := hide (rcE_4 H1.out H2.out h3)
        have H3 := hide h3
        clear h3
        go_enter Tryz.func7, Tryz.ntmps7
        go_wp2_with fail
        refine (check_ok c _ _ _ _ hcl hcc hc hcok H1.out).mono ?_
        rintro e w1 ⟨rfl, hb1⟩
        go_wp2_with fail
        refine (lcheck_any l _ _ _ _ hl (ha.below hb1)).mono ?_
        rintro e w2 ⟨rfl, hb2⟩
        rw [errV_0 H2.out]
        have hb2 := bthen hb1 (Nat.le_refl _) hb2
        go_wp2_with fail
        refine (entity_any _ _).mono ?_
        rintro e w3 ⟨rfl, rfl⟩
        rw [H3.out]
        go_wp2_with fail
        go_ret
        exact ⟨by rw [errV_0 HE.out]; rfl, hb2⟩
      | false =>
        have HE := hide (rcE_3 H1.out H2.out h3)
        have H3 := hide h3
        clear h3
        go_enter Tryz.func7, Tryz.ntmps7
        go_wp2_with fail
        refine (check_ok c _ _ _ _ hcl hcc hc hcok H1.out).mono ?_
        rintro e w1 ⟨rfl, hb1⟩
        go_wp2_with fail
        refine (lcheck_any l _ _ _ _ hl (ha.below hb1)).mono ?_
        rintro e w2 ⟨rfl, hb2⟩
        rw [errV_0 H2.out]
        have hb2 := bthen hb1 (Nat.le_refl _) hb2
        go_wp2_with fail
        refine (entity_any _ _).mono ?_
        rintro e w3 ⟨rfl, rfl⟩
        rw [H3.out]
        go_wp2_with fail
        go_ret
        exact ⟨by rw [HE.out]; rfl, hb2⟩
    · have HE := hide (rcE_2 (ent := ent) H1.out h2)
      have HN := hide h2
      clear h2
      go_enter Tryz.func7, Tryz.ntmps7
      go_wp2_with fail
      refine (check_ok c _ _ _ _ hcl hcc hc hcok H1.out).mono ?_
      rintro e w1 ⟨rfl, hb1⟩
      go_wp2_with fail
      refine (lcheck_any l _ _ _ _ hl (ha.below hb1)).mono ?_
      rintro e w2 ⟨rfl, hb2⟩
      rw [errV_n HN.out]
      have hb2 := bthen hb1 (Nat.le_refl _) hb2
      go_wp2_with fail
      go_ret
      exact ⟨by rw [HE.out, errV_n HN.out]; rfl, hb2⟩
  · have HE := hide (rcE_1 (l := l) (ent := ent) h1)
    have HN := hide h1
    clear h1
    go_enter Tryz.func7, Tryz.ntmps7
    go_wp2_with fail
    refine (check_bad c _ _ _ _ hcl hcc hc hcok HN.out).mono ?_
    rintro e w1 ⟨rfl, hb1⟩
    go_wp2_with fail
    go_ret
    exact ⟨by rw [HE.out, errV_n HN.out]; rfl, hb1⟩


/-- the closure of Trial: is an account's code the balance's? -/
theorem trClo (a : Acc) (c : ByteArray) (g : Nat) (w : World) (hp : w.cell? ⟨g, 1, none⟩ = some (.string c)) :
    Calls Tryz.prog 13 #[.agg #[.string a.code, .string a.name, .int .i64 a.kind, .string a.parent, .bool a.money], .pointer (some ⟨g, 0, none⟩)] w
      fun e w' => e = .returned (.bool (a.code.toList == c.toList)) ∧ Below w.heap.size w w' := by
  have hg : g < w.heap.size := World.block_lt_of_cell? _ _ hp
  go_enter Tryz.func13, Tryz.ntmps13
  go_wp2
  go_ret
  exact ⟨rfl, (Below.refl _ _).alloc (Nat.le_refl _) _⟩
/-- slices.IndexFunc over accounts, at that closure. -/
theorem trIndex (l : List Acc) (c : ByteArray) (A : Option Addr) (n cap g : Nat) (w : World) (hl : n ≤ 9223372036854775807) (ha : Accs w A n l) (hp : w.cell? ⟨g, 1, none⟩ = some (.string c)) :
    Calls Tryz.prog 12 #[.slice A n cap, .func (.func 13) #[] #[.pointer (some ⟨g, 0, none⟩)]] w
      fun e w' => e = .returned (.int .i64 (idxI l c)) ∧ Below w.heap.size w w' := by
  have hn : l.length = n := ha.1
  have Hn := hide hn
  clear hn
  go_enter Tryz.func12, Tryz.ntmps12
  go_wp2
  go_loopw [8] (fun i wr => ∃ k : Nat, k ≤ n ∧ i = .int .i64 k ∧ NoneTo l c k ∧ Below w.heap.size w wr) (fun i _ => n - (intOf i).toNat)
  case atStart => exact ⟨0, by omega, rfl, NoneTo.zero _ _, Below.refl _ _⟩
  case round =>
    obtain ⟨k, hk, rfl, hno, hb⟩ := hrel
    by_cases hlt : k < n
    · obtain ⟨b, off, rfl, hcs⟩ := (ha.below hb).at_ (by omega)
      obtain ⟨h0, h1, h2, h3, h4⟩ := hcs k (by have := Hn.out; omega)
      clear hcs
      have hp' := below_cell hb (World.block_lt_of_cell? _ _ hp) hp
      go_wp2_with (go_at_call 13; refine (trClo _ c g _ hp').mono ?_; rintro e w1 ⟨rfl, hb1⟩)
      · go_ret
        exact ⟨ret_int (hno.hit _ (by assumption)).symm, bthen hb (Nat.le_refl _) hb1⟩
      · go_roundw
        case rel => exact ⟨k + 1, by omega, by go_num, hno.succ _ (by assumption), bthen hb (Nat.le_refl _) hb1⟩
        case measure => simp [intOf]; omega
    · go_wp2
      go_ret
      exact ⟨ret_int (hno.miss (by have := Hn.out; omega)).symm, hb⟩
end Go.Proofs.YtjojjicpdfmopaaGreatDoor
