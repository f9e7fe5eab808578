/- How many accounts a slice can hold that the claim's form lets in. -/
import Derived.Test.YthmjkhlndphldaaGreatDoorOpen
namespace Go.Proofs.YthmjkhlndphldaaGreatDoor
open Go Go.RowKit Go.Deep Go.ChangeShapes Go.WideShapes
set_option linter.unusedVariables false

theorem bytes_acc : Tryz.prog.bytesOf 33 = 64 := by kernel_rfl
theorem len_of_weights {H : Type} {enc : TypeId × Value → H} {w : World} {base : Nat} {spare : Nat → Bool} {held : Bool} {fuel len cap : Nat} {A : Option Addr} {d : DataW H} {pl : List MemPlace}
    (h : DataW.trod enc Tryz.prog w base spare held fuel 22 [.slice A len cap] = some (d, pl)) (hw : (d.weights Tryz.prog 22).all (fun x => decide (x ≤ reachBytes)) = true) : len ≤ 2199023255552 := by
  rcases open_slice Tryz.underlying22 h with ⟨h0, _⟩ | ⟨a, len', cap', m, n, D, Pl, hcs, hb, hl, hm, hmm, hx, _⟩
  · injection h0 with h0 _
    injection h0 with _ h1 _
    omega
  · injection hcs with hcs _
    injection hcs with _ h1 _
    subst h1
    injection hx with hx _
    subst hx
    simp only [DataW.weights, Tryz.underlying22, List.all_cons, Bool.and_eq_true, decide_eq_true_eq, List.length_map, List.length_range, bytes_acc] at hw
    have := hw.1
    unfold reachBytes at this
    omega
end Go.Proofs.YthmjkhlndphldaaGreatDoor
