/- slices.SortFunc over balances: a slice of the call's own is put in order. -/
import Derived.Test.YtafgceikjomnpaaGreatDoorLedY
import Derived.Test.YtafgceikjomnpaaGreatDoorOpenY
import Derived.Test.YtafgceikjomnpaaGreatDoorSortB
import Derived.Test.YtafgceikjomnpaaGreatDoorShel3
namespace Go.Proofs.YtafgceikjomnpaaGreatDoor
open Go Go.RowKit
set_option linter.unusedVariables false

theorem ltOf_bal : Go.Proofs.ltOf cmpBal = fun x y => Pl.lt x.pl y.pl := by
  funext x y
  exact cmpBal_lt x y
theorem Pl.le_trans {x y z : Pl} (h : Pl.lt y x = false) (k : Pl.lt z y = false) : Pl.lt z x = false := by
  cases hz : Pl.lt z x with
  | false => rfl
  | true =>
    cases hy : Pl.lt y z with
    | true => rw [Pl.trans hy hz] at h; cases h
    | false =>
      obtain rfl := Pl.tri hy k
      rw [hz] at h; cases h
theorem swo_bal : Go.Sort.SWO (Go.Proofs.ltOf cmpBal) := by
  rw [ltOf_bal]
  exact ⟨fun x => Pl.irrefl _, fun x y z h k => Pl.trans h k, fun x y z h k => Pl.le_trans k h⟩
theorem cmpLays_bal (g size : Nat) (w : World) : Go.Proofs.CmpLays Tryz.prog 24 #[] balEnc 4 cmpBal g 0 size w :=
  fun _ _ _ _ x y => compare_bal x y _

set_option maxRecDepth 100000 in
theorem sort_bals (l : List Bal) (B : Nat) (v : Value) (w : World) (h : Own w B 36 4 balEnc v l) (hB : B ≤ w.heap.size) (hl : l.length ≤ 1000) :
    Calls Tryz.prog 39 #[v, .func (.func 24) #[] #[]] w
      fun e w' => e = .returned (.tuple #[]) ∧ ∃ s : List Bal, s.Perm l ∧ (s.Pairwise fun x y => Pl.lt y.pl x.pl = false) ∧ Own w' B 36 4 balEnc v s ∧ w.grownBy w' v.ownBlock := by
  have h' := h
  rcases h.2 with ⟨rfl, h0⟩ | ⟨g, cap, cur, rfl, hBg, hg, hc, hm, hcs, ht⟩
  · have hl0 : l = [] := List.eq_nil_of_length_eq_zero h0
    subst hl0
    refine Calls.mono (Go.Proofs.AnyF.slices_SortFunc_none Tryz.g39 none 0 (.func (.func 24) #[] #[]) w) (fun e w' hw => ?_)
    obtain ⟨rfl, rfl⟩ := hw
    exact ⟨rfl, [], List.Perm.refl _, List.Pairwise.nil, h', World.grownBy.refl _ _⟩
  · have hr : RowAt w g 36 4 balEnc (cap * 4) l := ⟨cur, hg, hcs, ht⟩
    have eg : ∀ args w, (callFunc 24 args).run Tryz.prog w = .ok (.enter 24 args) w := enters_of Tryz.func24 (by kernel_rfl) rfl
    have hcon := Go.Proofs.AnyQ.slices_SortFunc Tryz.g39 4 Tryz.isAgg36 Tryz.sizeOf36 balEnc (fun _ => rfl) balEnc_ok.one cmpBal swo_bal 24 #[] g 0 cap l.toArray w eg
      (cmpLays_bal g _ w) (hr.holds balEnc_ok) hr.lt (by simp; omega)
    change Calls Tryz.prog 39 _ _ _ at hcon
    refine Calls.mono (by simpa using hcon) (fun e w' hw => ?_)
    obtain ⟨rfl, d, hp, hs, q, os, rfl⟩ := hw
    have hd : d.size = l.length := by rw [hp.1]; simp
    obtain ⟨h1, h2⟩ := hr.resorted balEnc_ok q os d hd
    have hperm : d.toList.Perm l := by
      have := hp.2.2
      have h3 : (d.extract 0 l.length).toList = d.toList := by rw [← hd]; simp
      rw [h3] at this
      simpa using this
    refine ⟨rfl, d.toList, hperm, ?_, ?_, h2⟩
    · rw [List.pairwise_iff_getElem]
      intro i j hi hj hij
      have h3 := hs i j (Nat.zero_le _) hij (by rw [← hd]; simpa using hj)
      rw [ltOf_bal] at h3
      have e1 : d[j]! = d[j]'(by simpa using hj) := getElem!_pos d j _
      have e2 : d[i]! = d[i]'(by simpa using hi) := getElem!_pos d i _
      rw [e1, e2] at h3
      simpa using h3
    · have hlen := hperm.length_eq
      rw [← hlen]
      exact h1.own balEnc_ok hBg (by omega) hm
end Go.Proofs.YtafgceikjomnpaaGreatDoor
