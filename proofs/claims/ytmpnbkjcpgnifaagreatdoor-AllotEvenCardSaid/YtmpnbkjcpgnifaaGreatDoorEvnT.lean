/- daylaw3.AllotEven: what it begins with. -/
import Derived.Test.YtmpnbkjcpgnifaaGreatDoorAloC
import Derived.Test.YtmpnbkjcpgnifaaGreatDoorEvnX
namespace Go.Proofs.YtmpnbkjcpgnifaaGreatDoor
open Go Go.RowKit
set_option linter.unusedVariables false

def acct5V : List Acc := [⟨⟨#[49, 48]⟩, ⟨#[99, 97, 115, 104]⟩, 1, ⟨#[]⟩, true⟩, ⟨⟨#[50, 48]⟩, ⟨#[100, 101, 98, 116]⟩, 2, ⟨#[]⟩, true⟩, ⟨⟨#[51, 48]⟩, ⟨#[107, 101, 112, 116]⟩, 3, ⟨#[]⟩, false⟩, ⟨⟨#[52, 48]⟩, ⟨#[115, 97, 108, 101, 115]⟩, 4, ⟨#[]⟩, false⟩, ⟨⟨#[53, 48]⟩, ⟨#[99, 111, 115, 116]⟩, 5, ⟨#[]⟩, false⟩]
theorem accEnc_okV : Enc 5 Acc.enc := ⟨fun _ => rfl, by
  intro a u hu
  simp only [Acc.enc, List.mem_cons, List.not_mem_nil, or_false] at hu
  rcases hu with rfl | rfl | rfl | rfl | rfl <;> rfl⟩
theorem accountsV_any (w : World) : Calls Tryz.prog 5 #[] w fun e w' => ∃ g, e = .returned (.slice (some ⟨g, 0, none⟩) 5 5) ∧ Accs w' (some ⟨g, 0, none⟩) 5 acct5V ∧ Below w.heap.size w w' := by
  go_enter Tryz.func5, Tryz.ntmps5
  go_wp2_with fail
  go_ret
  exact ⟨_, rfl, Rd.lit w accEnc_okV acct5V 5 rfl _ _ rfl, (Below.refl _ _).alloc (Nat.le_refl _) _⟩
theorem acct5V_ok : AccOk acct5V := accOk_of (by
  intro a ha
  simp only [acct5V, List.mem_cons, List.not_mem_nil, or_false] at ha
  rcases ha with rfl | rfl | rfl | rfl | rfl <;> exact ⟨by decide, by decide⟩)
def eurV : ByteArray := ⟨#[69, 85, 82]⟩
def polV (T U : Option Addr) : Pol := ⟨⟨#[53, 48]⟩, eurV, T, 2, 2, [⟨#[49, 48]⟩, ⟨#[50, 48]⟩], U, 2, 2, [1, 3]⟩
def balV : List Bal := [⟨1, ⟨#[53, 48]⟩, eurV, 8⟩]
theorem factV_E (T U : Option Addr) : allotE acct5V [polV T U] balV 1 1 = 0 := by kernel_rfl
theorem factV_P (T U : Option Addr) : poolE acct5V (polV T U) = 0 := by kernel_rfl
theorem factV_G (T U : Option Addr) : getB balV 1 (polV T U).acc (polV T U).cur = 8 := by kernel_rfl
theorem factV_give (T U : Option Addr) : giveCore 1 1 (refL ++ ⟨#[]⟩) (polV T U) 8 [2, 6] = (refL ++ ⟨#[]⟩, 1, 1, [⟨⟨#[53, 48]⟩, eurV, -8⟩, ⟨⟨#[49, 48]⟩, eurV, 2⟩, ⟨⟨#[50, 48]⟩, eurV, 6⟩]) := rfl
theorem allot_factV (CA A B T U : Option Addr) (dg : Nat → ByteArray) (w : World) (hc : Accs w CA 5 acct5V) (ha : Rd w 4 Pol.enc A 1 [polV T U]) (hf : PolFits w (polV T U)) (hb : Rd w 4 balEnc B 1 balV) (hdg : ∀ k, k < 20 → (dg k).size ≤ 21)
    (HIt : Hid (∀ k : Nat, k < 20 → ∀ W : World, Below w.heap.size w W → Calls Tryz.prog 15 #[.int .i64 k] W fun e w' => e = .returned (.string (dg k)) ∧ Below W.heap.size W w')) :
    Calls Tryz.prog 4 #[.slice CA 5 5, .slice A 1 1, .slice B 1 1, .int .i64 1, .int .i64 1] w fun e w' => (∃ (g c lb lo lc : Nat), e = .returned (.tuple #[.slice (some ⟨g, 0, none⟩) 1 c, .nilIface]) ∧ w'.cell? ⟨g, 3, none⟩ = some (.slice (some ⟨lb, lo, none⟩) 3 lc) ∧ w'.cell? ⟨lb, lo + 8, none⟩ = some (.int .i64 6)) ∧ Below w.heap.size w w' := by
  refine (allotEntries_any acct5V CA 5 5 [polV T U] A 1 1 balV B 1 1 1 1 dg w (by omega) (by omega) hc acct5V_ok (by omega) (by unfold maxLen; omega) ha (fun p hp => by obtain rfl := List.mem_singleton.1 hp; exact hf) (by omega) hb hdg HIt).mono ?_
  rintro e w' ⟨⟨h, _⟩ | ⟨_, v, es, rfl, hpk, hg⟩, hbl⟩
  · exact absurd (factV_E T U) h
  refine ⟨?_, hbl⟩
  rcases gave_one hg (by simp) with ⟨_, h0⟩ | ⟨_, _, out, hs, he⟩
  · have h0 : getB balV 1 (polV T U).acc (polV T U).cur = 0 := h0
    rw [factV_G T U] at h0
    cases h0
  · have hs : Shared (getB balV 1 (polV T U).acc (polV T U).cur) [1, 3] out := hs
    rw [factV_G T U] at hs
    obtain rfl := shared_fact hs
    have he : es.map Ent.core = [giveCore 1 1 (refL ++ dg 0) (polV T U) (getB balV 1 (polV T U).acc (polV T U).cur) [2, 6]] := he
    rw [factV_G T U] at he
    obtain ⟨E, rfl⟩ : ∃ E, es = [E] := by
      have hl : es.length = 1 := by have := congrArg List.length he; simpa using this
      exact List.length_eq_one_iff.1 hl
    have hl : E.lines = [⟨⟨#[53, 48]⟩, eurV, -8⟩, ⟨⟨#[49, 48]⟩, eurV, 2⟩, ⟨⟨#[50, 48]⟩, eurV, 6⟩] := by
      have := (List.cons.inj he).1
      exact congrArg (fun x : Core => x.2.2.2) this
    obtain ⟨r1, _, b, off, e1, _, _⟩ := hpk.all E (by simp)
    have hn : E.n = 3 := by rw [← r1.1, hl]; rfl
    rcases hpk.own.2 with ⟨_, h0⟩ | ⟨g, cap, cur, rfl, _⟩
    · cases h0
    · have c3 := (hpk.own.cells entEnc_okA 0 3 (.slice E.A E.n E.cap) (by simp) rfl).1
      obtain ⟨b2, off2, e2, hcs⟩ := r1.2 (by omega)
      have c5 := hcs 2 2 (.int .i64 6) (by rw [hl]; decide) (by simp only [hl]; rfl)
      rw [e2, hn] at c3
      exact ⟨g, cap, b2, off2, E.cap, rfl, by simpa using c3, by simpa [Nat.add_assoc] using c5⟩
end Go.Proofs.YtmpnbkjcpgnifaaGreatDoor
