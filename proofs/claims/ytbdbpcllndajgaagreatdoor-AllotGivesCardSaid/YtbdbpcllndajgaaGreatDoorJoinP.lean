/- The closed facts of a row, one at a time (memory). -/
import Derived.Stop.Joined
import Derived.ProofKit
import Derived.ChangeOld
namespace Go.Proofs.YtbdbpcllndajgaaGreatDoor
open Go Go.RowKit
set_option linter.unusedVariables false

def jf1 (P : Program) (f : FuncId) (fn : Func) (s : ChangeSpec) (c : OpenClaim) : Bool :=
  c.wf (OpenSpec.ofChange s) && laidOutB P && mapsRowed P && fn.params.all (P.readableRec ·) && namedTie P c.named s.vars && (c.stops == []) && (P.stops == []) && (c.knobs == []) && (P.stopKnobs == [])
def jf2 (P : Program) (f : FuncId) (c : OpenClaim) : Bool := c.inPlace == P.inPlace f
def jf3 (P : Program) (f : FuncId) (c : OpenClaim) : Bool := c.unfollowed == P.unfollowed f
def jf4 (P : Program) (f : FuncId) (c : OpenClaim) : Bool := c.recurses == P.recurses f
def jf5 (P : Program) (f : FuncId) (c : OpenClaim) : Bool := c.named == P.varsNamed f
def jf6 (P : Program) (f : FuncId) (fn : Func) (s : ChangeSpec) (c : OpenClaim) : Bool :=
  (c.maps == (fn.params.toList ++ s.plain.varTypes P).any (P.mapsRec ·)) && (c.ifaces == (fn.params.toList ++ s.plain.varTypes P).any (P.ifacesRec ·)) && (c.mapsOut == P.mapsAmong fn.resultTypes.toList) &&
  (c.loops == (fn.params.toList ++ s.plain.varTypes P).any (P.loopsFrom ·)) && (c.wideKeys == (fn.params.toList ++ s.plain.varTypes P ++ fn.resultTypes.toList).any (P.wideKeysFrom ·)) &&
  s.vars.all (P.varReadable ·) && fn.resultTypes.all (fun t => P.readableRec t && decide (t < P.types.size)) && (c.ifacesOut == fn.resultTypes.toList.any (P.ifacesRec ·)) && (c.loopsOut == fn.resultTypes.toList.any (P.loopsFrom ·)) && (c.plainKeys == P.plainKeys)
def jf7 (P : Program) (c : OpenClaim) : Bool := c.shortTexts.isNone && P.stopsHeard
def jf8 (P : Program) : Bool := P.mayEnter
def jf9 (P : Program) (c : OpenClaim) : Bool := c.lifted == P.liftsFinal
def jf10 (P : Program) (f : FuncId) (fn : Func) (s : ChangeSpec) (c : OpenClaim) : Bool :=
  (P.make == some c.make) && (c.kinds == (if c.domain.isEmpty then [] else fn.params.toList.map fun t => match P.underlying t with | some (.int k) => some k | _ => none)) && (c.pinned == c.pinnedBy) &&
  (c.veiled == (fn.params.toList ++ s.plain.varTypes P ++ fn.resultTypes.toList).any (P.veiledRec ·)) && c.veiledFits P fn.params.toList (fn.params.toList ++ s.plain.varTypes P ++ fn.resultTypes.toList)
theorem joined_split (P : Program) (f : FuncId) (fn : Func) (s : ChangeSpec) (c : OpenClaim) (h1 : jf1 P f fn s c = true) (h2 : jf2 P f c = true) (h3 : jf3 P f c = true) (h4 : jf4 P f c = true) (h5 : jf5 P f c = true) (h6 : jf6 P f fn s c = true) (h7 : jf7 P c = true) (h8 : jf8 P = true) (h9 : jf9 P c = true) (h10 : jf10 P f fn s c = true) : joinedFacts P f fn s c = true := by
  simp only [jf1, jf2, jf3, jf4, jf5, jf6, jf7, jf8, jf9, jf10, Bool.and_eq_true] at h1 h2 h3 h4 h5 h6 h7 h8 h9 h10
  simp only [and_assoc] at h1 h6 h7 h10
  obtain ⟨a1, a2, a3, a4, a5, a6, a7, a8, a9⟩ := h1
  obtain ⟨b1, b2, b3, b4, b5, b6, b7, b8, b9, b10⟩ := h6
  obtain ⟨c1, c2⟩ := h7
  obtain ⟨d1, d2, d3, d4, d5⟩ := h10
  unfold joinedFacts
  simp only [Bool.and_eq_true, and_assoc]
  exact ⟨a1, a2, a3, a4, a5, a6, a7, a8, a9, h2, h3, h4, h5, b1, b2, b3, b4, b5, b6, b7, b8, b9, b10, c1, c2, h8, h9, d1, d2, d3, d4, d5⟩
end Go.Proofs.YtbdbpcllndajgaaGreatDoor
