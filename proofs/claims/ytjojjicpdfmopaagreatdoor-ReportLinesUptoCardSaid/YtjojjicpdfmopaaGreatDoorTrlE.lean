/- report.Trial: joined; and the fact that ReportLines asks. -/
import Derived.Test.YtjojjicpdfmopaaGreatDoorTrlD
namespace Go.Proofs.YtjojjicpdfmopaaGreatDoor
open Go Go.RowKit
set_option linter.unusedVariables false

theorem trial_any (c : List Acc) (S : List Bal) (CA A : Option Addr) (cn ccap n cap : Nat) (e : Int) (p : Nat) (w : World) (hcl : cn ≤ 9223372036854775807) (hcc : cn ≤ ccap) (hc : Accs w CA cn c) (hcok : AccOk c) (hl : n ≤ 9223372036854775807) (ha : Rd w 4 balEnc A n S) (hp : p ≤ 6)
    (hz : ∀ x, x ∈ S → x.acc.size ≤ 1048576 ∧ x.cur.size ≤ 1048576) (hz2 : ∀ a, a ∈ c → a.name.size ≤ 1048576) (hlf : w.cell? ⟨2, 0, none⟩ = some (.int .i64 8)) :
    Calls Tryz.prog 4 #[.slice CA cn ccap, .slice A n cap, .int .i64 e, .int .i64 (p : Int)] w fun en w' => (∃ r, en = .returned r ∧ TrPost c S e p r) ∧ Below w.heap.size w w' := by
  by_cases hr : rcE c S e = 0
  · refine trial_ok c S CA A cn ccap n cap e p w hcl hcc hc hcok hl ha hp ⟨fun x hx => ⟨(hz x hx).1, (hz x hx).2, ?_⟩, hz2⟩ hlf hr
    have h1 := balsE_may (rcE_0 hr).2.1 x hx
    unfold mayB inB at h1
    simp at h1; omega
  · exact trial_bad c S CA A cn ccap n cap e p w hcl hcc hc hcok hl ha hr

def acct5L : List Acc := [⟨⟨#[49, 48]⟩, ⟨#[99, 97, 115, 104]⟩, 1, ⟨#[]⟩, true⟩, ⟨⟨#[50, 48]⟩, ⟨#[100, 101, 98, 116]⟩, 2, ⟨#[]⟩, true⟩, ⟨⟨#[51, 48]⟩, ⟨#[107, 101, 112, 116]⟩, 3, ⟨#[]⟩, false⟩, ⟨⟨#[52, 48]⟩, ⟨#[115, 97, 108, 101, 115]⟩, 4, ⟨#[]⟩, false⟩, ⟨⟨#[53, 48]⟩, ⟨#[99, 111, 115, 116]⟩, 5, ⟨#[]⟩, false⟩]
theorem accEnc_okL : Enc 5 Acc.enc := ⟨fun _ => rfl, by
  intro a u hu
  simp only [Acc.enc, List.mem_cons, List.not_mem_nil, or_false] at hu
  rcases hu with rfl | rfl | rfl | rfl | rfl <;> rfl⟩
theorem accountsL_any (w : World) : Calls Tryz.prog 5 #[] w fun e w' => ∃ g, e = .returned (.slice (some ⟨g, 0, none⟩) 5 5) ∧ Accs w' (some ⟨g, 0, none⟩) 5 acct5L ∧ Below w.heap.size w w' := by
  go_enter Tryz.func5, Tryz.ntmps5
  go_wp2_with fail
  go_ret
  exact ⟨_, rfl, Rd.lit w accEnc_okL acct5L 5 rfl _ _ rfl, (Below.refl _ _).alloc (Nat.le_refl _) _⟩
theorem acct5L_ok : AccOk acct5L := by
  intro i hi
  have ha := List.getElem_mem hi
  generalize acct5L[i] = a at ha ⊢
  simp only [acct5L, List.mem_cons, List.not_mem_nil, or_false] at ha
  rcases ha with rfl | rfl | rfl | rfl | rfl <;> exact ⟨by decide, by decide⟩
def balL8 : Bal := ⟨1, ⟨#[49, 48]⟩, ⟨#[69, 85, 82]⟩, -8⟩
theorem factL_E : rcE acct5L [balL8] 1 = 0 := by kernel_rfl
theorem factL_I : idxI acct5L balL8.acc = 0 := by kernel_rfl
theorem factL_C : curIn 1 [balL8] = [⟨#[69, 85, 82]⟩] := by
  have h : balL8.ent = 1 := rfl
  show curAdd 1 [] balL8 = _
  unfold curAdd
  rw [if_pos h, if_neg (by simp)]
  rfl
def factL : ByteArray := ⟨#[49, 48, 32, 99, 97, 115, 104, 32, 69, 85, 82, 32, 67, 32, 48, 46, 48, 56, 10, 116, 111, 116, 97, 108, 32, 69, 85, 82, 32, 48, 46, 48, 48, 32, 48, 46, 48, 56, 10]⟩
theorem factL_T : (⟨(accT acct5L 2 1 [balL8] ++ totT 2 1 [balL8] [⟨#[69, 85, 82]⟩]).toArray⟩ : ByteArray) = factL := by kernel_rfl
theorem factL_G : trGood acct5L [balL8] 1 := by
  refine ⟨factL_E, fun x hx _ => ?_, fun k hk => ?_⟩
  · obtain rfl := List.mem_singleton.1 hx
    rw [factL_I]; decide
  · rw [factL_C] at hk
    obtain rfl := List.mem_singleton.1 hk
    exact ⟨by kernel_rfl, by kernel_rfl⟩
theorem trial_fact (CA A : Option Addr) (w : World) (hc : Accs w CA 5 acct5L) (ha : Rd w 4 balEnc A 1 [balL8]) (hlf : w.cell? ⟨2, 0, none⟩ = some (.int .i64 8)) :
    Calls Tryz.prog 4 #[.slice CA 5 5, .slice A 1 1, .int .i64 1, .int .i64 2] w fun en w' => en = .returned (.tuple #[.string factL, .nilIface]) ∧ Below w.heap.size w w' := by
  refine (trial_any acct5L [balL8] CA A 5 5 1 1 1 2 w (by omega) (by omega) hc acct5L_ok (by omega) ha (by omega) (fun x hx => by obtain rfl := List.mem_singleton.1 hx; exact ⟨by decide, by decide⟩) (fun a ha => by
    simp only [acct5L, List.mem_cons, List.not_mem_nil, or_false] at ha
    rcases ha with rfl | rfl | rfl | rfl | rfl <;> decide) hlf).mono ?_
  rintro en w' ⟨⟨r, rfl, ⟨_, _, _, h⟩ | ⟨_, ks, hks, rfl⟩⟩, hb⟩
  · exact absurd factL_G h
  · rw [factL_C] at hks
    rw [List.perm_singleton.1 hks, factL_T]
    exact ⟨rfl, hb⟩
end Go.Proofs.YtjojjicpdfmopaaGreatDoor
