/- What comes in: a plan, a slice of plans. -/
import Derived.Test.YtkeapacfmeblgaaGreatDoorOpen
import Derived.Test.YtkeapacfmeblgaaGreatDoorPlnP
namespace Go.Proofs.YtkeapacfmeblgaaGreatDoor
open Go Go.RowKit Go.Deep Go.ChangeShapes Go.WideShapes
set_option linter.unusedVariables false

theorem wf64p {n : Int} (h : (Lit.int .i64 n).wf = true) : In64 n := by
  simp [Lit.wf, IntKind.min, IntKind.max, IntKind.signed, IntKind.bits] at h
  unfold In64
  omega
theorem cells_plan : Tryz.prog.cellsOf 23 = 8 := by kernel_rfl
theorem list8 {β : Type} {l : List β} (h : l.length = 8) : ∃ a b c d e f g i, l = [a, b, c, d, e, f, g, i] := by
  match l, h with
  | [a, b, c, d, e, f, g, i], _ => exact ⟨a, b, c, d, e, f, g, i, rfl⟩
set_option maxRecDepth 100000 in
theorem open_plan {H : Type} {enc : TypeId × Value → H} {w : World} {base : Nat} {spare : Nat → Bool} {held : Bool} (fuel : Nat) (cs : List Value) (y : DataW H × List MemPlace)
    (h : DataW.trod enc Tryz.prog w base spare held fuel 23 cs = some y) : ∃ a : Pln, cs = plnEnc a ∧ PlnFits a := by
  obtain ⟨xs, n, _, _, hlen, hxl, hf⟩ := DataW.trod_struct Tryz.underlying23 h
  rw [cells_plan] at hlen
  obtain ⟨c0, c1, c2, c3, c4, c5, c6, c7, rfl⟩ := list8 hlen
  obtain ⟨y0, y1, y2, y3, y4, y5, y6, y7, rfl⟩ := list8 hxl
  have e0 := hf 0 _ rfl
  have e1 := hf 1 _ rfl
  have e2 := hf 2 _ rfl
  have e3 := hf 3 _ rfl
  have e4 := hf 4 _ rfl
  have e5 := hf 5 _ rfl
  have e6 := hf 6 _ rfl
  have e7 := hf 7 _ rfl
  change DataW.trod enc Tryz.prog w base spare held n 9 (([c0, c1, c2, c3, c4, c5, c6, c7].drop 0).take (Tryz.prog.cellsOf 9)) = some y0 at e0
  change DataW.trod enc Tryz.prog w base spare held n 3 (([c0, c1, c2, c3, c4, c5, c6, c7].drop 1).take (Tryz.prog.cellsOf 3)) = some y1 at e1
  change DataW.trod enc Tryz.prog w base spare held n 9 (([c0, c1, c2, c3, c4, c5, c6, c7].drop 2).take (Tryz.prog.cellsOf 9)) = some y2 at e2
  change DataW.trod enc Tryz.prog w base spare held n 9 (([c0, c1, c2, c3, c4, c5, c6, c7].drop 3).take (Tryz.prog.cellsOf 9)) = some y3 at e3
  change DataW.trod enc Tryz.prog w base spare held n 9 (([c0, c1, c2, c3, c4, c5, c6, c7].drop 4).take (Tryz.prog.cellsOf 9)) = some y4 at e4
  change DataW.trod enc Tryz.prog w base spare held n 3 (([c0, c1, c2, c3, c4, c5, c6, c7].drop 5).take (Tryz.prog.cellsOf 3)) = some y5 at e5
  change DataW.trod enc Tryz.prog w base spare held n 3 (([c0, c1, c2, c3, c4, c5, c6, c7].drop 6).take (Tryz.prog.cellsOf 3)) = some y6 at e6
  change DataW.trod enc Tryz.prog w base spare held n 3 (([c0, c1, c2, c3, c4, c5, c6, c7].drop 7).take (Tryz.prog.cellsOf 3)) = some y7 at e7
  simp only [cells_str] at e0 e2 e3 e4
  simp only [cells_int] at e1 e5 e6 e7
  obtain ⟨s0, g0, _, m0⟩ := DataW.trod_string Tryz.underlying9 e0
  obtain ⟨k1, g1, _, m1⟩ := DataW.trod_int Tryz.underlying3 e1
  obtain ⟨s2, g2, _, m2⟩ := DataW.trod_string Tryz.underlying9 e2
  obtain ⟨s3, g3, _, m3⟩ := DataW.trod_string Tryz.underlying9 e3
  obtain ⟨s4, g4, _, m4⟩ := DataW.trod_string Tryz.underlying9 e4
  obtain ⟨k5, g5, _, m5⟩ := DataW.trod_int Tryz.underlying3 e5
  obtain ⟨k6, g6, _, m6⟩ := DataW.trod_int Tryz.underlying3 e6
  obtain ⟨k7, g7, _, m7⟩ := DataW.trod_int Tryz.underlying3 e7
  simp at g0 g1 g2 g3 g4 g5 g6 g7
  subst g0 g1 g2 g3 g4 g5 g6 g7
  unfold maxLen at m0 m2 m3 m4
  exact ⟨⟨s0, k1, s2, s3, s4, k5, k6, k7⟩, rfl, m0, m2, m3, m4, wf64p m1, wf64p m5, wf64p m6, wf64p m7⟩
theorem open_plans {H : Type} {enc : TypeId × Value → H} {w : World} {base : Nat} {spare : Nat → Bool} {held : Bool} {fuel : Nat} {cs : List Value} {x : DataW H × List MemPlace}
    (h : DataW.trod enc Tryz.prog w base spare held fuel 25 cs = some x) :
    ∃ A len cap l, cs = [.slice A len cap] ∧ len ≤ cap ∧ cap ≤ maxLen ∧ Rd w 8 plnEnc A len l ∧ PlnsOk l ∧ (A = none → cap = 0) :=
  open_recs plnEnc PlnFits 8 (by omega) (fun _ => rfl) Tryz.underlying25 cells_plan open_plan h
theorem plan_agg {cs : Array Value} {x : Pln} (h : (Value.agg cs).cells.toList = plnEnc x) : cs = #[.string x.ref, .int .i64 x.ent, .string x.fr, .string x.to, .string x.cur, .int .i64 x.amt, .int .i64 x.first, .int .i64 x.per] := by
  have h' : cs.toList = plnEnc x := h
  apply Array.toList_inj.1
  rw [h']; rfl
end Go.Proofs.YtkeapacfmeblgaaGreatDoor
