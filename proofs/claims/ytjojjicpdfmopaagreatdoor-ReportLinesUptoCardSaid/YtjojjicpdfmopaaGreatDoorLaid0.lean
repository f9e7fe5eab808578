/- The listed variables, where none holds a handle: a world in which they hold what the text lays. -/
import Derived.Test.YtjojjicpdfmopaaGreatDoorRows
import Derived.ProofKit
import Derived.OpenShut
import Derived.LaidMore
import Derived.Lay
import Derived.LaidHandle
import Derived.Stop.Joined
namespace Go.Proofs.YtjojjicpdfmopaaGreatDoor
open Go Go.RowKit Go.ChangeShapes Go.WideShapes
set_option linter.unusedVariables false

theorem own_knob : ownKnob Tryz.prog.godebug = none := by kernel_rfl
theorem laid_out : laidOutB Tryz.prog = true := by kernel_rfl
noncomputable def handWorld (os : Os) : World := World.holding Tryz.prog os ⟨#[], #[], []⟩
theorem laid_mix {os : Os} {laid : List (String × DataW Unit)} (args : Array Value)
    (hf : (handWorld os).layFits Tryz.prog (laid.filter fun x => x.2.handleName?.isNone) [] = true)
    (hi : (handWorld os).layIfaces Tryz.prog (laid.filter fun x => x.2.handleName?.isNone) ((handWorld os).layVars Tryz.prog (laid.filter fun x => x.2.handleName?.isNone)) = true)
    (hh : (laid.filter fun x => x.2.handleName?.isSome).all (handleAtB Tryz.prog ((handWorld os).layVars Tryz.prog (laid.filter fun x => x.2.handleName?.isNone))) = true) :
    laidMetH Tryz.prog laid (((handWorld os).layVars Tryz.prog (laid.filter fun x => x.2.handleName?.isNone)).forCall (fun _ _ => 0) ⟨#[], args, []⟩).memory := by
  have hp : laidMet Tryz.prog (laid.filter fun x => x.2.handleName?.isNone) ((handWorld os).layVars Tryz.prog (laid.filter fun x => x.2.handleName?.isNone)) := by
    generalize laid.filter (fun x => x.2.handleName?.isNone) = l at hf hi ⊢
    have e1 : (l.filter fun x => (l.map (·.1)).contains x.1) = l := List.filter_eq_self.2 fun x hx => List.contains_iff_mem.2 (List.mem_map.2 ⟨x, hx, rfl⟩)
    have e2 : (l.filter fun x => !(l.map (·.1)).contains x.1) = [] := List.filter_eq_nil_iff.2 fun x hx => by rw [List.contains_iff_mem.2 (List.mem_map.2 ⟨x, hx, rfl⟩)]; simp
    exact laidMet_layVars (w0 := handWorld os) (l.map (·.1)) [] (by rw [e1]) (by rw [e1]; exact hf) (by rw [e1]; exact hi) (by rw [e2]; exact LaidIn.none)
  exact (laidMetH_of_parts hp hh).of_heap (by simp [World.memory, World.forCall, Input.heap])
theorem laid_mix_os {os : Os} {l : List (String × DataW Unit)} : ((handWorld os).layVars Tryz.prog l).os = os := (World.layVars_os _ _ _).trans rfl
end Go.Proofs.YtjojjicpdfmopaaGreatDoor
