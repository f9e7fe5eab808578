/- dayref2.Full, Put: what each returns. -/
import Derived.Test.YthmjkhlndphldaaGreatDoorLedQ
import Derived.Test.YthmjkhlndphldaaGreatDoorBalAll
import Derived.Test.YthmjkhlndphldaaGreatDoorRefZ
namespace Go.Proofs.YthmjkhlndphldaaGreatDoor
open Go Go.RowKit
set_option linter.unusedVariables false

def zeroBal : Value := .agg #[.int .i64 0, .string ⟨#[]⟩, .string ⟨#[]⟩, .int .i64 0]
theorem bal_info : (Tryz.prog.info? 73).map (fun i => (i.zero, i.size, i.bytes)) = some (some zeroBal, 4, 48) := by kernel_rfl

set_option maxHeartbeats 1000000 in
set_option maxRecDepth 100000 in
theorem refFull_any (l : List Bal) (A : Option Addr) (n cap : Nat) (w : World) (hl : n ≤ 1000) (ha : Rd w 4 balEnc A n l) :
    Calls Tryz.prog 57 #[.slice A n cap] w fun e w' => ∃ v, e = .returned v ∧ Own w' w.heap.size 73 4 balEnc v (fullB l) ∧ Below w.heap.size w w' := by
  obtain ⟨i0, hi0, hz0, hz1, hz2⟩ := info_parts bal_info
  have Hn := hide ha.1
  go_enter Tryz.func57, Tryz.ntmps57
  go_wp2_with fail
  go_loopw [3, 4] (fun ov iv wr => ∃ k : Nat, k ≤ n ∧ iv = .int .i64 k ∧ Own wr w.heap.size 73 4 balEnc ov (fullTo l k) ∧ Below w.heap.size w wr) (fun _ iv _ => n - (intOf iv).toNat)
  case atStart => exact ⟨0, by omega, rfl, Own.nil _ _ _ _ _, Below.refl _ _⟩
  case round =>
    obtain ⟨k, hk, rfl, hown, hbr⟩ := hrel
    by_cases hlt : k < n
    · have hkl : k < l.length := by have := Hn.out; omega
      obtain ⟨b, off, rfl, hcs⟩ := (Rd.below ha hbr).2 (by omega)
      have q0 := hcs k 0 _ hkl rfl
      have q1 := hcs k 1 _ hkl rfl
      have q2 := hcs k 2 _ hkl rfl
      have q3 := hcs k 3 _ hkl rfl
      rw [Nat.add_zero] at q0
      clear hcs
      have k0 : (0 : Int) ≤ (k : Int) := by omega
      have k1 : (k : Int) < (n : Int) := by omega
      have hfl := fullTo_len l k
      obtain ⟨UA, uc, rfl, huc, hum⟩ := hown.form
      by_cases hz : l[k].amt = 0
      · have hzc : (l[k].amt != 0) = false := by simp [hz]
        have HF := hide (fullTo_succ_no hkl hz)
        clear hz
        go_wp2_with fail
        go_roundw
        case rel => exact ⟨k + 1, by omega, by go_num, by rw [HF.out]; exact hown, hbr⟩
        case measure => simp [intOf]; omega
      · have hzc : (l[k].amt != 0) = true := by simp [hz]
        have HF := hide (fullTo_succ_yes hkl hz)
        clear hz
        go_wp2_with (first | (at_builtin; go_loud (refine wpList_push _ rfl _ _ 74 rfl w.heap.size 73 i0 zeroBal 4 48 Tryz.underlying74 hi0 hz0 hz1 hz2 rfl (by decide) balEnc_ok _ (fullTo l k) rfl (hown.alloc _) _ 1 1 [l[k]] rfl (Rd.boxedAt _ balEnc_ok l[k] _ _ rfl _ (by simp)) (by intro h; cases h) (by unfold maxLen; omega) (by omega) (by have := hbr.size; simp; omega) ?_); intro v2 w2 hown2 hg2 hat2; have hb2 := (hbr.alloc hbr.size _).grown hg2 (by have := hbr.size; simp; omega) (fun k e => (hown.block k e).1)))
        go_roundw
        case rel => exact ⟨k + 1, by omega, by go_num, by rw [HF.out]; exact hown2, hb2⟩
        case measure => simp [intOf]; omega
    · go_wp2_with fail
      have HF := hide (fullTo_all (l := l) (k := k) (by have := Hn.out; omega))
      go_ret
      exact ⟨_, rfl, by rw [← HF.out]; exact hown, hbr⟩
end Go.Proofs.YthmjkhlndphldaaGreatDoor
