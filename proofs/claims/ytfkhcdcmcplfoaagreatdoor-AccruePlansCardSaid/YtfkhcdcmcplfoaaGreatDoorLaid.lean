/- The listed variables: a world in which they hold what the text lays; the handle of the type error. -/
import Derived.Test.YtfkhcdcmcplfoaaGreatDoorRows
import Derived.Test.YtfkhcdcmcplfoaaGreatDoorTold
import Derived.ProofKit
import Derived.OpenShut
import Derived.LaidMore
import Derived.Lay
import Derived.LaidHandle
import Derived.Stop.Joined
namespace Go.Proofs.YtfkhcdcmcplfoaaGreatDoor
open Go Go.RowKit Go.ChangeShapes Go.WideShapes
set_option linter.unusedVariables false

theorem own_knob : ownKnob Tryz.prog.godebug = none := by kernel_rfl
theorem laid_out : laidOutB Tryz.prog = true := by kernel_rfl
theorem et_glob : Tryz.prog.globalNamed "errors.errorType" = some 0 := by kernel_rfl
theorem rt_type : (Tryz.prog.cutTypes.find? (·.1 == "internal/reflectlite.rtype")).map (·.2) = some 129 := by kernel_rfl
theorem one_row : ((List.range Tryz.prog.types.size).filter fun t => Tryz.prog.rowNamed t [101, 114, 114, 111, 114]) = [26] := by kernel_rfl
theorem err_handle : typeHandle Tryz.prog 26 = .pointer (some ⟨Tryz.prog.globals.size, 26, none⟩) := by kernel_rfl

theorem handle_met {P : Program} {laid : List (String × DataW Unit)} {w : World} (h : laidMetH P laid w) (x : String × DataW Unit) (hx : x ∈ laid) (hs : x.2.handleName?.isSome = true) : handlesMet P [x] w := by
  have hm : x ∈ laid.filter fun x => x.2.handleName?.isSome := List.mem_filter.2 ⟨hx, hs⟩
  unfold laidMetH at h
  generalize hfl : (laid.filter fun x => x.2.handleName?.isSome) = fl at h hm
  cases fl with
  | nil => cases hm
  | cons a rest =>
    intro y hy
    obtain rfl := List.mem_singleton.1 hy
    exact h.2 y hm

theorem errTy_of_laid {laid : List (String × DataW Unit)} {W : World} (h : laidMetH Tryz.prog laid W) (hx : ("errors.errorType", Rows.laid_errors_errorType) ∈ laid) : ErrTy W := by
  obtain ⟨name, u, ty, e1, e2, e3, e4, e5⟩ := handle_met h _ hx rfl _ (List.mem_singleton.2 rfl)
  have en : name = [101, 114, 114, 111, 114] := (Option.some.inj e1).symm
  subst en
  obtain rfl := Option.some.inj (rt_type.symm.trans e2)
  have hm : ty ∈ (List.range Tryz.prog.types.size).filter fun t => Tryz.prog.rowNamed t [101, 114, 114, 111, 114] := List.mem_filter.2 ⟨List.mem_range.2 e3, e4⟩
  rw [one_row] at hm
  obtain rfl := List.mem_singleton.1 hm
  rw [err_handle] at e5
  unfold ErrTy
  simpa using World.var?_cell et_glob e5 0

/-- the settled world, the handle laid -/
noncomputable def handWorld (os : Os) : World :=
  let w0 := World.holding Tryz.prog os ⟨#[], #[], []⟩
  { w0 with heap := w0.heap.modify 0 fun
      | .cells _ t frozen => .cells #[.iface 129 (.agg #[.pointer (some ⟨22, 26, none⟩)])] t frozen
      | o => o }

theorem laid_mix {os : Os} {laid : List (String × DataW Unit)} (args : Array Value)
    (hf : (handWorld os).layFits Tryz.prog (laid.filter fun x => x.2.handleName?.isNone) [] = true)
    (hi : (handWorld os).layIfaces Tryz.prog (laid.filter fun x => x.2.handleName?.isNone) ((handWorld os).layVars Tryz.prog (laid.filter fun x => x.2.handleName?.isNone)) = true)
    (hh : (laid.filter fun x => x.2.handleName?.isSome).all (handleAtB Tryz.prog ((handWorld os).layVars Tryz.prog (laid.filter fun x => x.2.handleName?.isNone))) = true) :
    laidMetH Tryz.prog laid (((handWorld os).layVars Tryz.prog (laid.filter fun x => x.2.handleName?.isNone)).forCall (fun _ _ => 0) ⟨#[], args, []⟩).memory := by
  have hp : laidMet Tryz.prog (laid.filter fun x => x.2.handleName?.isNone) ((handWorld os).layVars Tryz.prog (laid.filter fun x => x.2.handleName?.isNone)) := by
    generalize laid.filter (fun x => x.2.handleName?.isNone) = l at hf hi ⊢
    have e1 : (l.filter fun x => (l.map (·.1)).contains x.1) = l := List.filter_eq_self.2 fun x hx => List.contains_iff_mem.2 (List.mem_map.2 ⟨x, hx, rfl⟩)
    have e2 : (l.filter fun x => !(l.map (·.1)).contains x.1) = [] := List.filter_eq_nil_iff.2 fun x hx => by rw [List.contains_iff_mem.2 (List.mem_map.2 ⟨x, hx, rfl⟩)]; simp
    exact laidMet_layVars (w0 := handWorld os) (l.map (·.1)) [] (by rw [e1]) (by rw [e1]; exact hf) (by rw [e1]; exact hi) (by rw [e2]; exact LaidIn.none)
  exact (laidMetH_of_parts hp hh).of_heap (by simp [World.memory, World.forCall, Input.heap])
theorem laid_mix_os {os : Os} {l : List (String × DataW Unit)} : ((handWorld os).layVars Tryz.prog l).os = os := (World.layVars_os _ _ _).trans rfl
end Go.Proofs.YtfkhcdcmcplfoaaGreatDoor
