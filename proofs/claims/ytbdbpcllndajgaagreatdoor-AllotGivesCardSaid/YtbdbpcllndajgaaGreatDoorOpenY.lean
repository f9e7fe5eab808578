/- What comes in: an entry, a slice of entries. -/
import Derived.Test.YtbdbpcllndajgaaGreatDoorOpenX
import Derived.Test.YtbdbpcllndajgaaGreatDoorEntX
import Derived.Test.YtbdbpcllndajgaaGreatDoorBalY
namespace Go.Proofs.YtbdbpcllndajgaaGreatDoor
open Go Go.RowKit Go.Deep Go.ChangeShapes Go.WideShapes
set_option linter.unusedVariables false

instance : Inhabited Line := ⟨⟨⟨#[]⟩, ⟨#[]⟩, 0⟩⟩
def LineFits (a : Line) : Prop := a.acc.size ≤ 9223372036854775807 ∧ a.cur.size ≤ 9223372036854775807
theorem cells_line : Tryz.prog.cellsOf 59 = 3 := by kernel_rfl
theorem cells_ent : Tryz.prog.cellsOf 57 = 4 := by kernel_rfl
theorem cells_lines : Tryz.prog.cellsOf 55 = 1 := by kernel_rfl
set_option maxRecDepth 100000 in
theorem open_line {H : Type} {enc : TypeId × Value → H} {w : World} {base : Nat} {spare : Nat → Bool} {held : Bool} (fuel : Nat) (cs : List Value) (y : DataW H × List MemPlace)
    (h : DataW.trod enc Tryz.prog w base spare held fuel 59 cs = some y) : ∃ a : Line, cs = lineEnc a ∧ LineFits a := by
  obtain ⟨xs, n, _, _, hlen, hxl, hf⟩ := DataW.trod_struct Tryz.underlying59 h
  rw [cells_line] at hlen
  obtain ⟨c0, c1, c2, rfl⟩ := list3 hlen
  obtain ⟨y0, y1, y2, rfl⟩ := list3 hxl
  have e0 := hf 0 _ rfl
  have e1 := hf 1 _ rfl
  have e2 := hf 2 _ rfl
  change DataW.trod enc Tryz.prog w base spare held n 9 (([c0, c1, c2].drop 0).take (Tryz.prog.cellsOf 9)) = some y0 at e0
  change DataW.trod enc Tryz.prog w base spare held n 9 (([c0, c1, c2].drop 1).take (Tryz.prog.cellsOf 9)) = some y1 at e1
  change DataW.trod enc Tryz.prog w base spare held n 3 (([c0, c1, c2].drop 2).take (Tryz.prog.cellsOf 3)) = some y2 at e2
  simp only [cells_str] at e0 e1
  simp only [cells_int] at e2
  obtain ⟨s0, g0, _, m0⟩ := DataW.trod_string Tryz.underlying9 e0
  obtain ⟨s1, g1, _, m1⟩ := DataW.trod_string Tryz.underlying9 e1
  obtain ⟨k2, g2, _, _⟩ := DataW.trod_int Tryz.underlying3 e2
  simp at g0 g1 g2
  subst g0 g1 g2
  unfold maxLen at m0 m1
  exact ⟨⟨s0, s1, k2⟩, rfl, m0, m1⟩

/-- an entry, and where its lines lie -/
structure Ent where
  ref : ByteArray
  ent : Int
  per : Int
  A : Option Addr
  n : Nat
  cap : Nat
  lines : List Line
instance : Inhabited Ent := ⟨⟨⟨#[]⟩, 0, 0, none, 0, 0, []⟩⟩
def Ent.enc (e : Ent) : List Value := [.string e.ref, .int .i64 e.ent, .int .i64 e.per, .slice e.A e.n e.cap]
def EntFits (w : World) (e : Ent) : Prop := e.ref.size ≤ 9223372036854775807 ∧ e.n ≤ e.cap ∧ e.cap ≤ maxLen ∧ Rd w 3 lineEnc e.A e.n e.lines ∧ LinesOk e.lines ∧ (e.A = none → e.cap = 0)

theorem open_lines {H : Type} {enc : TypeId × Value → H} {w : World} {base : Nat} {spare : Nat → Bool} {held : Bool} {fuel : Nat} {cs : List Value} {x : DataW H × List MemPlace}
    (h : DataW.trod enc Tryz.prog w base spare held fuel 55 cs = some x) :
    ∃ A len cap l, cs = [.slice A len cap] ∧ len ≤ cap ∧ cap ≤ maxLen ∧ Rd w 3 lineEnc A len l ∧ LinesOk l ∧ (A = none → cap = 0) :=
  open_recs lineEnc LineFits 3 (by omega) (fun _ => rfl) Tryz.underlying55 cells_line open_line h

set_option maxRecDepth 100000 in
theorem open_ent {H : Type} {enc : TypeId × Value → H} {w : World} {base : Nat} {spare : Nat → Bool} {held : Bool} (fuel : Nat) (cs : List Value) (y : DataW H × List MemPlace)
    (h : DataW.trod enc Tryz.prog w base spare held fuel 57 cs = some y) : ∃ e : Ent, cs = e.enc ∧ EntFits w e := by
  obtain ⟨xs, n, _, _, hlen, hxl, hf⟩ := DataW.trod_struct Tryz.underlying57 h
  rw [cells_ent] at hlen
  obtain ⟨c0, c1, c2, c3, rfl⟩ := list4 hlen
  obtain ⟨y0, y1, y2, y3, rfl⟩ := list4 hxl
  have e0 := hf 0 _ rfl
  have e1 := hf 1 _ rfl
  have e2 := hf 2 _ rfl
  have e3 := hf 3 _ rfl
  change DataW.trod enc Tryz.prog w base spare held n 9 (([c0, c1, c2, c3].drop 0).take (Tryz.prog.cellsOf 9)) = some y0 at e0
  change DataW.trod enc Tryz.prog w base spare held n 3 (([c0, c1, c2, c3].drop 1).take (Tryz.prog.cellsOf 3)) = some y1 at e1
  change DataW.trod enc Tryz.prog w base spare held n 3 (([c0, c1, c2, c3].drop 2).take (Tryz.prog.cellsOf 3)) = some y2 at e2
  change DataW.trod enc Tryz.prog w base spare held n 55 (([c0, c1, c2, c3].drop 3).take (Tryz.prog.cellsOf 55)) = some y3 at e3
  simp only [cells_str] at e0
  simp only [cells_int] at e1 e2
  simp only [cells_lines] at e3
  obtain ⟨s0, g0, _, m0⟩ := DataW.trod_string Tryz.underlying9 e0
  obtain ⟨k1, g1, _, _⟩ := DataW.trod_int Tryz.underlying3 e1
  obtain ⟨k2, g2, _, _⟩ := DataW.trod_int Tryz.underlying3 e2
  obtain ⟨LA, ln, lc, l, g3, h1, h2, h3, h4, h5⟩ := open_lines e3
  simp at g0 g1 g2 g3
  subst g0 g1 g2 g3
  unfold maxLen at m0
  exact ⟨⟨s0, k1, k2, LA, ln, lc, l⟩, rfl, m0, h1, h2, h3, h4, h5⟩

/-- an entry handed in by itself -/
theorem ent_agg {cs : Array Value} {e : Ent} (h : (Value.agg cs).cells.toList = e.enc) : cs = #[.string e.ref, .int .i64 e.ent, .int .i64 e.per, .slice e.A e.n e.cap] := by
  have h' : cs.toList = e.enc := h
  apply Array.toList_inj.1
  rw [h']; rfl
end Go.Proofs.YtbdbpcllndajgaaGreatDoor

namespace Go.Proofs.YtbdbpcllndajgaaGreatDoor
open Go Go.RowKit Go.Deep Go.ChangeShapes Go.WideShapes
set_option linter.unusedVariables false

instance : Inhabited Bal := ⟨⟨0, ⟨#[]⟩, ⟨#[]⟩, 0⟩⟩
instance : Inhabited Pr := ⟨⟨0, 0, ⟨#[]⟩, ⟨#[]⟩, ⟨#[]⟩⟩⟩
theorem wf64 {n : Int} (h : (Lit.int .i64 n).wf = true) : -9223372036854775808 ≤ n ∧ n ≤ 9223372036854775807 := by
  simp [Lit.wf, IntKind.min, IntKind.max, IntKind.signed, IntKind.bits] at h
  omega
theorem cells_bal : Tryz.prog.cellsOf 89 = 4 := by kernel_rfl
set_option maxRecDepth 100000 in
theorem open_bal {H : Type} {enc : TypeId × Value → H} {w : World} {base : Nat} {spare : Nat → Bool} {held : Bool} (fuel : Nat) (cs : List Value) (y : DataW H × List MemPlace)
    (h : DataW.trod enc Tryz.prog w base spare held fuel 89 cs = some y) : ∃ a : Bal, cs = balEnc a ∧ BalFits a := by
  obtain ⟨xs, n, _, _, hlen, hxl, hf⟩ := DataW.trod_struct Tryz.underlying89 h
  rw [cells_bal] at hlen
  obtain ⟨c0, c1, c2, c3, rfl⟩ := list4 hlen
  obtain ⟨y0, y1, y2, y3, rfl⟩ := list4 hxl
  have e0 := hf 0 _ rfl
  have e1 := hf 1 _ rfl
  have e2 := hf 2 _ rfl
  have e3 := hf 3 _ rfl
  change DataW.trod enc Tryz.prog w base spare held n 3 (([c0, c1, c2, c3].drop 0).take (Tryz.prog.cellsOf 3)) = some y0 at e0
  change DataW.trod enc Tryz.prog w base spare held n 9 (([c0, c1, c2, c3].drop 1).take (Tryz.prog.cellsOf 9)) = some y1 at e1
  change DataW.trod enc Tryz.prog w base spare held n 9 (([c0, c1, c2, c3].drop 2).take (Tryz.prog.cellsOf 9)) = some y2 at e2
  change DataW.trod enc Tryz.prog w base spare held n 3 (([c0, c1, c2, c3].drop 3).take (Tryz.prog.cellsOf 3)) = some y3 at e3
  simp only [cells_str] at e1 e2
  simp only [cells_int] at e0 e3
  obtain ⟨k0, g0, _, m0⟩ := DataW.trod_int Tryz.underlying3 e0
  obtain ⟨s1, g1, _, m1⟩ := DataW.trod_string Tryz.underlying9 e1
  obtain ⟨s2, g2, _, m2⟩ := DataW.trod_string Tryz.underlying9 e2
  obtain ⟨k3, g3, _, m3⟩ := DataW.trod_int Tryz.underlying3 e3
  simp at g0 g1 g2 g3
  subst g0 g1 g2 g3
  unfold maxLen at m1 m2
  exact ⟨⟨k0, s1, s2, k3⟩, rfl, wf64 m0, m1, m2, wf64 m3⟩
theorem open_bals {H : Type} {enc : TypeId × Value → H} {w : World} {base : Nat} {spare : Nat → Bool} {held : Bool} {fuel : Nat} {cs : List Value} {x : DataW H × List MemPlace}
    (h : DataW.trod enc Tryz.prog w base spare held fuel 24 cs = some x) :
    ∃ A len cap l, cs = [.slice A len cap] ∧ len ≤ cap ∧ cap ≤ maxLen ∧ Rd w 4 balEnc A len l ∧ BalsOk l ∧ (A = none → cap = 0) :=
  open_recs balEnc BalFits 4 (by omega) (fun _ => rfl) Tryz.underlying24 cells_bal open_bal h
end Go.Proofs.YtbdbpcllndajgaaGreatDoor
