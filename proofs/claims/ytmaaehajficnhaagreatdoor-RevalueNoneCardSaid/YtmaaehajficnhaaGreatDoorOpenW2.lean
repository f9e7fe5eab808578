/- How many balances a slice can hold that the claim's form lets in. -/
import Derived.Test.YtmaaehajficnhaaGreatDoorOpenB
namespace Go.Proofs.YtmaaehajficnhaaGreatDoor
open Go Go.RowKit Go.Deep Go.ChangeShapes Go.WideShapes
set_option linter.unusedVariables false

theorem bytes_bal : Tryz.prog.bytesOf 30 = 48 := by kernel_rfl
theorem balLen_of_weights {H : Type} {enc : TypeId × Value → H} {w : World} {base : Nat} {spare : Nat → Bool} {held : Bool} {fuel len cap : Nat} {A : Option Addr} {d : DataW H} {pl : List MemPlace}
    (h : DataW.trod enc Tryz.prog w base spare held fuel 23 [.slice A len cap] = some (d, pl)) (hw : (d.weights Tryz.prog 23).all (fun x => decide (x ≤ reachBytes)) = true) : len ≤ 2932031007402 := by
  rcases open_slice Tryz.underlying23 h with ⟨h0, _⟩ | ⟨a, len', cap', m, n, D, Pl, hcs, hb, hl, hm, hmm, hx, _⟩
  · injection h0 with h0 _
    injection h0 with _ h1 _
    omega
  · injection hcs with hcs _
    injection hcs with _ h1 _
    subst h1
    injection hx with hx _
    subst hx
    simp only [DataW.weights, Tryz.underlying23, List.all_cons, Bool.and_eq_true, decide_eq_true_eq, List.length_map, List.length_range, bytes_bal] at hw
    have := hw.1
    unfold reachBytes at this
    omega
end Go.Proofs.YtmaaehajficnhaaGreatDoor
