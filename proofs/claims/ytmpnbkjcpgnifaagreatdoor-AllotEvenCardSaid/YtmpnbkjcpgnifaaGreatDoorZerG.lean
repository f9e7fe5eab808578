/- daylaw3.zero of entries that are even: true. -/
import Derived.Test.YtmpnbkjcpgnifaaGreatDoorAcrE
namespace Go.Proofs.YtmpnbkjcpgnifaaGreatDoor
open Go Go.RowKit
set_option linter.unusedVariables false

set_option maxHeartbeats 1000000 in
set_option maxRecDepth 100000 in
theorem zeroG_any (es : List Ent) (A : Option Addr) (n c : Nat) (w : World) (hn : n ≤ 9223372036854775807) (ha : Rd w 4 Ent.enc A n es) (h1 : ∀ e, e ∈ es → Rd w 3 lineEnc e.A e.n e.lines ∧ e.n ≤ 20) (h2 : ∀ e, e ∈ es → Bnd 1000000000000000 e.lines ∧ ∀ y, y ∈ canon (e.lines.map blank) → y.amt = 0) :
    Calls Tryz.prog 6 #[.slice A n c] w fun e w' => e = .returned (.bool true) ∧ Below w.heap.size w w' := by
  have Hn := hide ha.1
  go_enter Tryz.func6, Tryz.ntmps6
  go_wp2_with fail
  go_loopw [3] (fun iv wr => ∃ k : Nat, k ≤ n ∧ iv = .int .i64 k ∧ Below w.heap.size w wr) (fun iv _ => n - (intOf iv).toNat)
  case atStart => exact ⟨0, by omega, rfl, Below.refl _ _⟩
  case round =>
    obtain ⟨k, hk, rfl, hbr⟩ := hrel
    by_cases hlt : k < n
    · have hkl : k < es.length := by have := Hn.out; omega
      obtain ⟨b, off, rfl, hcs⟩ := (Rd.below ha hbr).2 (by omega)
      have q0 := hcs k 0 _ hkl rfl
      have q1 := hcs k 1 _ hkl rfl
      have q2 := hcs k 2 _ hkl rfl
      have q3 := hcs k 3 _ hkl rfl
      rw [Nat.add_zero] at q0
      clear hcs
      obtain ⟨hx1, hx2⟩ := h1 _ (List.getElem_mem hkl)
      obtain ⟨hb1, hz⟩ := h2 _ (List.getElem_mem hkl)
      have k0 : (0 : Int) ≤ (k : Int) := by omega
      have k1 : (k : Int) < (n : Int) := by omega
      have hb1 : Bnd 1000000000000000 es[k].lines := hb1
      have hz : ∀ y, y ∈ canon (es[k].lines.map blank) → y.amt = 0 := hz
      go_wp2_with fail
      refine (refSums_ok es[k].ref es[k].ent es[k].per es[k].lines _ _ _ _ (hx1.below hbr) hx2 hb1).mono ?_
      rintro e w4 ⟨v4, rfl, hown4, hb4⟩
      obtain ⟨VA, vc, rfl, hvc, hvm⟩ := hown4.form
      have hrd := hown4.rd lineEnc_ok
      generalize canon (es[k].lines.map blank) = cl at hown4 hvc hrd hz ⊢
      have hcl : cl.length ≤ 9223372036854775807 := by unfold maxLen at hvm; omega
      go_wp2_with fail
      go_loopw [5] (fun jv wi => ∃ j : Nat, j ≤ cl.length ∧ jv = .int .i64 j ∧ Below w4.heap.size w4 wi) (fun jv _ => cl.length - (intOf jv).toNat)
      case atStart => exact ⟨0, by omega, rfl, Below.refl _ _⟩
      case round =>
        obtain ⟨j, hj, rfl, hbi⟩ := hrel
        by_cases hjl : j < cl.length
        · obtain ⟨g, off2, rfl, hcs⟩ := (hrd.below hbi).2 (by omega)
          have s2 := hcs j 2 _ hjl rfl
          clear hcs
          have j0 : (0 : Int) ≤ (j : Int) := by omega
          have j1 : (j : Int) < (cl.length : Int) := by omega
          rw [hz _ (List.getElem_mem hjl)] at s2
          go_wp2_with fail
          go_roundw
          case rel => exact ⟨j + 1, by omega, by go_num, hbi⟩
          case measure => simp [intOf]; omega
        · go_wp2_with fail
          go_roundw
          case rel => exact ⟨k + 1, by omega, by go_num, hbr.trans ((hb4.trans (hbi.mono hb4.size)).mono hbr.size)⟩
          case measure => simp [intOf]; omega
    · go_wp2_with fail
      go_ret
      exact ⟨rfl, hbr⟩
end Go.Proofs.YtmpnbkjcpgnifaaGreatDoor
