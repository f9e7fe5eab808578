/- What comes in: a slice of accounts, read as a list. -/
import Derived.Test.YtfkhcdcmcplfoaaGreatDoorChartB
import Derived.Deep.Slices
import Derived.ProofKit
import Derived.Test.YtfkhcdcmcplfoaaGreatDoorEntX
import Derived.Test.YtfkhcdcmcplfoaaGreatDoorPlnP
namespace Go.Proofs.YtfkhcdcmcplfoaaGreatDoor
open Go Go.RowKit Go.Deep Go.ChangeShapes Go.WideShapes
set_option linter.unusedVariables false

section
variable {H : Type} {enc : TypeId × Value → H} {P : Program} {w : World} {base : Nat} {spare : Nat → Bool} {held : Bool}

theorem open_recs {α : Type} [Inhabited α] (en : α → List Value) (Ok : α → Prop) (sz : Nat) (hsz : 0 < sz) (hlen : ∀ a, (en a).length = sz) {t e : TypeId} (ht : P.underlying t = some (.slice e)) (hC : P.cellsOf e = sz)
    (hel : ∀ (fuel : Nat) (cs : List Value) (y : DataW H × List MemPlace), DataW.trod enc P w base spare held fuel e cs = some y → ∃ a, cs = en a ∧ Ok a)
    {fuel : Nat} {cs : List Value} {x : DataW H × List MemPlace} (h : DataW.trod enc P w base spare held fuel t cs = some x) :
    ∃ A len cap l, cs = [.slice A len cap] ∧ len ≤ cap ∧ cap ≤ maxLen ∧ Rd w sz en A len l ∧ (∀ a ∈ l, Ok a) ∧ (A = none → cap = 0) := by
  rcases open_slice ht h with ⟨h0, _⟩ | ⟨a, len, cap, m, n, D, Pl, hcs, hb, hl, hm, hmm, hx, hi⟩
  · exact ⟨none, 0, 0, [], h0, by omega, by unfold maxLen; omega, Rd.nil _ _ _ _, fun a ha => by simp at ha, fun _ => rfl⟩
  · have hlm : len ≤ m := by rw [hmm]; split <;> omega
    obtain ⟨f, hf⟩ := choose_lt (α := α) (n := len) (p := fun i r => w.cells? base (a.add (i * P.cellsOf e)) (P.cellsOf e) = some (en r) ∧ Ok r) (fun i hil => by
      obtain ⟨cs', h1, h2⟩ := hi i (by omega)
      obtain ⟨r, rfl, hr⟩ := hel _ _ _ h2
      exact ⟨r, h1, hr⟩)
    refine ⟨some a, len, cap, (List.range len).map f, hcs, hl, hm, ⟨by simp, fun hn => ?_⟩, ?_, fun h => by cases h⟩
    · have hcell : ∀ i, i < len → ∀ j u, (en (f i))[j]? = some u → w.cell? (a.add (i * sz + j)) = some u := by
        intro i hil j u hu
        obtain ⟨h1, _⟩ := hf i hil
        rw [hC] at h1
        obtain ⟨_, _, hc⟩ := World.cells?_some h1
        have hj : j < sz := by
          have := (List.getElem?_eq_some_iff.1 hu).1
          rw [hlen] at this; exact this
        rw [← hu, ← hc j hj, Go.Deep.add_add]
      have h0 := hcell 0 hn 0 _ (List.getElem?_eq_getElem (by rw [hlen]; exact hsz))
      have hspot : a.spot = none := by
        have := World.cell?_spot h0
        simpa [Addr.add] using this
      obtain ⟨b, off, sp⟩ := a
      simp only at hspot
      subst hspot
      refine ⟨b, off, rfl, fun k j u hk hu => ?_⟩
      have hkl : k < len := by simpa using hk
      have hu' : (en (f k))[j]? = some u := by simpa using hu
      have := hcell k hkl j u hu'
      unfold Addr.add at this
      by_cases hz : k * sz + j = 0
      · rw [if_pos hz] at this
        rw [show off + k * sz + j = off from by omega]; exact this
      · rw [if_neg hz] at this
        rw [Nat.add_assoc]; exact this
    · intro r hr
      obtain ⟨i, hir, rfl⟩ := List.mem_map.1 hr
      exact (hf i (List.mem_range.1 hir)).2
end

instance : Inhabited Acc := ⟨⟨⟨#[]⟩, ⟨#[]⟩, 0, ⟨#[]⟩, false⟩⟩

def AccFits (a : Acc) : Prop := a.code.size ≤ 9223372036854775807 ∧ a.name.size ≤ 9223372036854775807

theorem cells_acc : Tryz.prog.cellsOf 74 = 5 := by kernel_rfl
theorem cells_str : Tryz.prog.cellsOf 9 = 1 := by kernel_rfl
theorem cells_int : Tryz.prog.cellsOf 3 = 1 := by kernel_rfl
theorem cells_bool : Tryz.prog.cellsOf 4 = 1 := by kernel_rfl

theorem list3 {β : Type} {l : List β} (h : l.length = 3) : ∃ a b c, l = [a, b, c] := by
  match l, h with
  | [a, b, c], _ => exact ⟨a, b, c, rfl⟩
theorem list4 {β : Type} {l : List β} (h : l.length = 4) : ∃ a b c d, l = [a, b, c, d] := by
  match l, h with
  | [a, b, c, d], _ => exact ⟨a, b, c, d, rfl⟩
theorem list5 {β : Type} {l : List β} (h : l.length = 5) : ∃ a b c d e, l = [a, b, c, d, e] := by
  match l, h with
  | [a, b, c, d, e], _ => exact ⟨a, b, c, d, e, rfl⟩
set_option maxRecDepth 100000 in
theorem open_acc {H : Type} {enc : TypeId × Value → H} {w : World} {base : Nat} {spare : Nat → Bool} {held : Bool} (fuel : Nat) (cs : List Value) (y : DataW H × List MemPlace)
    (h : DataW.trod enc Tryz.prog w base spare held fuel 74 cs = some y) : ∃ a : Acc, cs = a.enc ∧ AccFits a := by
  obtain ⟨xs, n, _, _, hlen, hxl, hf⟩ := DataW.trod_struct Tryz.underlying74 h
  rw [cells_acc] at hlen
  obtain ⟨c0, c1, c2, c3, c4, rfl⟩ := list5 hlen
  obtain ⟨y0, y1, y2, y3, y4, rfl⟩ := list5 hxl
  have e0 := hf 0 _ rfl
  have e1 := hf 1 _ rfl
  have e2 := hf 2 _ rfl
  have e3 := hf 3 _ rfl
  have e4 := hf 4 _ rfl
  change DataW.trod enc Tryz.prog w base spare held n 9 (([c0, c1, c2, c3, c4].drop 0).take (Tryz.prog.cellsOf 9)) = some y0 at e0
  change DataW.trod enc Tryz.prog w base spare held n 9 (([c0, c1, c2, c3, c4].drop 1).take (Tryz.prog.cellsOf 9)) = some y1 at e1
  change DataW.trod enc Tryz.prog w base spare held n 3 (([c0, c1, c2, c3, c4].drop 2).take (Tryz.prog.cellsOf 3)) = some y2 at e2
  change DataW.trod enc Tryz.prog w base spare held n 9 (([c0, c1, c2, c3, c4].drop 3).take (Tryz.prog.cellsOf 9)) = some y3 at e3
  change DataW.trod enc Tryz.prog w base spare held n 4 (([c0, c1, c2, c3, c4].drop 4).take (Tryz.prog.cellsOf 4)) = some y4 at e4
  simp only [cells_str] at e0 e1 e3
  simp only [cells_int] at e2
  simp only [cells_bool] at e4
  obtain ⟨s0, g0, _, m0⟩ := DataW.trod_string Tryz.underlying9 e0
  obtain ⟨s1, g1, _, m1⟩ := DataW.trod_string Tryz.underlying9 e1
  obtain ⟨k2, g2, _, _⟩ := DataW.trod_int Tryz.underlying3 e2
  obtain ⟨s3, g3, _, m3⟩ := DataW.trod_string Tryz.underlying9 e3
  obtain ⟨b4, g4, _⟩ := DataW.trod_bool Tryz.underlying4 e4
  simp at g0 g1 g2 g3 g4
  subst g0 g1 g2 g3 g4
  unfold maxLen at m0 m1
  exact ⟨⟨s0, s1, k2, s3, b4⟩, rfl, m0, m1⟩

theorem accOk_of {l : List Acc} (h : ∀ a ∈ l, AccFits a) : AccOk l := fun i hi => h _ (List.getElem_mem hi)

theorem open_accs {H : Type} {enc : TypeId × Value → H} {w : World} {base : Nat} {spare : Nat → Bool} {held : Bool} {fuel : Nat} {cs : List Value} {x : DataW H × List MemPlace}
    (h : DataW.trod enc Tryz.prog w base spare held fuel 22 cs = some x) :
    ∃ A len cap l, cs = [.slice A len cap] ∧ len ≤ cap ∧ cap ≤ maxLen ∧ Accs w A len l ∧ AccOk l := by
  obtain ⟨A, len, cap, l, h1, h2, h3, h4, h5, _⟩ := open_recs Acc.enc AccFits 5 (by omega) (fun _ => rfl) Tryz.underlying22 cells_acc open_acc h
  exact ⟨A, len, cap, l, h1, h2, h3, h4, accOk_of h5⟩
end Go.Proofs.YtfkhcdcmcplfoaaGreatDoor

namespace Go.Proofs.YtfkhcdcmcplfoaaGreatDoor
open Go Go.RowKit Go.Deep Go.ChangeShapes Go.WideShapes
set_option linter.unusedVariables false

instance : Inhabited Line := ⟨⟨⟨#[]⟩, ⟨#[]⟩, 0⟩⟩
def LineFits (a : Line) : Prop := a.acc.size ≤ 9223372036854775807 ∧ a.cur.size ≤ 9223372036854775807
theorem cells_line : Tryz.prog.cellsOf 56 = 3 := by kernel_rfl
theorem cells_ent : Tryz.prog.cellsOf 54 = 4 := by kernel_rfl
theorem cells_lines : Tryz.prog.cellsOf 52 = 1 := by kernel_rfl
set_option maxRecDepth 100000 in
theorem open_line {H : Type} {enc : TypeId × Value → H} {w : World} {base : Nat} {spare : Nat → Bool} {held : Bool} (fuel : Nat) (cs : List Value) (y : DataW H × List MemPlace)
    (h : DataW.trod enc Tryz.prog w base spare held fuel 56 cs = some y) : ∃ a : Line, cs = lineEnc a ∧ LineFits a := by
  obtain ⟨xs, n, _, _, hlen, hxl, hf⟩ := DataW.trod_struct Tryz.underlying56 h
  rw [cells_line] at hlen
  obtain ⟨c0, c1, c2, rfl⟩ := list3 hlen
  obtain ⟨y0, y1, y2, rfl⟩ := list3 hxl
  have e0 := hf 0 _ rfl
  have e1 := hf 1 _ rfl
  have e2 := hf 2 _ rfl
  change DataW.trod enc Tryz.prog w base spare held n 9 (([c0, c1, c2].drop 0).take (Tryz.prog.cellsOf 9)) = some y0 at e0
  change DataW.trod enc Tryz.prog w base spare held n 9 (([c0, c1, c2].drop 1).take (Tryz.prog.cellsOf 9)) = some y1 at e1
  change DataW.trod enc Tryz.prog w base spare held n 3 (([c0, c1, c2].drop 2).take (Tryz.prog.cellsOf 3)) = some y2 at e2
  simp only [cells_str] at e0 e1
  simp only [cells_int] at e2
  obtain ⟨s0, g0, _, m0⟩ := DataW.trod_string Tryz.underlying9 e0
  obtain ⟨s1, g1, _, m1⟩ := DataW.trod_string Tryz.underlying9 e1
  obtain ⟨k2, g2, _, _⟩ := DataW.trod_int Tryz.underlying3 e2
  simp at g0 g1 g2
  subst g0 g1 g2
  unfold maxLen at m0 m1
  exact ⟨⟨s0, s1, k2⟩, rfl, m0, m1⟩

/-- an entry, and where its lines lie -/
structure Ent where
  ref : ByteArray
  ent : Int
  per : Int
  A : Option Addr
  n : Nat
  cap : Nat
  lines : List Line
instance : Inhabited Ent := ⟨⟨⟨#[]⟩, 0, 0, none, 0, 0, []⟩⟩
def Ent.enc (e : Ent) : List Value := [.string e.ref, .int .i64 e.ent, .int .i64 e.per, .slice e.A e.n e.cap]
def EntFits (w : World) (e : Ent) : Prop := e.ref.size ≤ 9223372036854775807 ∧ e.n ≤ e.cap ∧ e.cap ≤ maxLen ∧ Rd w 3 lineEnc e.A e.n e.lines ∧ LinesOk e.lines ∧ (e.A = none → e.cap = 0)

theorem open_lines {H : Type} {enc : TypeId × Value → H} {w : World} {base : Nat} {spare : Nat → Bool} {held : Bool} {fuel : Nat} {cs : List Value} {x : DataW H × List MemPlace}
    (h : DataW.trod enc Tryz.prog w base spare held fuel 52 cs = some x) :
    ∃ A len cap l, cs = [.slice A len cap] ∧ len ≤ cap ∧ cap ≤ maxLen ∧ Rd w 3 lineEnc A len l ∧ LinesOk l ∧ (A = none → cap = 0) :=
  open_recs lineEnc LineFits 3 (by omega) (fun _ => rfl) Tryz.underlying52 cells_line open_line h

set_option maxRecDepth 100000 in
theorem open_ent {H : Type} {enc : TypeId × Value → H} {w : World} {base : Nat} {spare : Nat → Bool} {held : Bool} (fuel : Nat) (cs : List Value) (y : DataW H × List MemPlace)
    (h : DataW.trod enc Tryz.prog w base spare held fuel 54 cs = some y) : ∃ e : Ent, cs = e.enc ∧ EntFits w e := by
  obtain ⟨xs, n, _, _, hlen, hxl, hf⟩ := DataW.trod_struct Tryz.underlying54 h
  rw [cells_ent] at hlen
  obtain ⟨c0, c1, c2, c3, rfl⟩ := list4 hlen
  obtain ⟨y0, y1, y2, y3, rfl⟩ := list4 hxl
  have e0 := hf 0 _ rfl
  have e1 := hf 1 _ rfl
  have e2 := hf 2 _ rfl
  have e3 := hf 3 _ rfl
  change DataW.trod enc Tryz.prog w base spare held n 9 (([c0, c1, c2, c3].drop 0).take (Tryz.prog.cellsOf 9)) = some y0 at e0
  change DataW.trod enc Tryz.prog w base spare held n 3 (([c0, c1, c2, c3].drop 1).take (Tryz.prog.cellsOf 3)) = some y1 at e1
  change DataW.trod enc Tryz.prog w base spare held n 3 (([c0, c1, c2, c3].drop 2).take (Tryz.prog.cellsOf 3)) = some y2 at e2
  change DataW.trod enc Tryz.prog w base spare held n 52 (([c0, c1, c2, c3].drop 3).take (Tryz.prog.cellsOf 52)) = some y3 at e3
  simp only [cells_str] at e0
  simp only [cells_int] at e1 e2
  simp only [cells_lines] at e3
  obtain ⟨s0, g0, _, m0⟩ := DataW.trod_string Tryz.underlying9 e0
  obtain ⟨k1, g1, _, _⟩ := DataW.trod_int Tryz.underlying3 e1
  obtain ⟨k2, g2, _, _⟩ := DataW.trod_int Tryz.underlying3 e2
  obtain ⟨LA, ln, lc, l, g3, h1, h2, h3, h4, h5⟩ := open_lines e3
  simp at g0 g1 g2 g3
  subst g0 g1 g2 g3
  unfold maxLen at m0
  exact ⟨⟨s0, k1, k2, LA, ln, lc, l⟩, rfl, m0, h1, h2, h3, h4, h5⟩

/-- an entry handed in by itself -/
theorem ent_agg {cs : Array Value} {e : Ent} (h : (Value.agg cs).cells.toList = e.enc) : cs = #[.string e.ref, .int .i64 e.ent, .int .i64 e.per, .slice e.A e.n e.cap] := by
  have h' : cs.toList = e.enc := h
  apply Array.toList_inj.1
  rw [h']; rfl
end Go.Proofs.YtfkhcdcmcplfoaaGreatDoor

namespace Go.Proofs.YtfkhcdcmcplfoaaGreatDoor
open Go Go.RowKit Go.Deep Go.ChangeShapes Go.WideShapes
set_option linter.unusedVariables false

theorem wf64p {n : Int} (h : (Lit.int .i64 n).wf = true) : In64 n := by
  simp [Lit.wf, IntKind.min, IntKind.max, IntKind.signed, IntKind.bits] at h
  unfold In64
  omega
theorem cells_plan : Tryz.prog.cellsOf 37 = 8 := by kernel_rfl
theorem list8 {β : Type} {l : List β} (h : l.length = 8) : ∃ a b c d e f g i, l = [a, b, c, d, e, f, g, i] := by
  match l, h with
  | [a, b, c, d, e, f, g, i], _ => exact ⟨a, b, c, d, e, f, g, i, rfl⟩
set_option maxRecDepth 100000 in
theorem open_plan {H : Type} {enc : TypeId × Value → H} {w : World} {base : Nat} {spare : Nat → Bool} {held : Bool} (fuel : Nat) (cs : List Value) (y : DataW H × List MemPlace)
    (h : DataW.trod enc Tryz.prog w base spare held fuel 37 cs = some y) : ∃ a : Pln, cs = plnEnc a ∧ PlnFits a := by
  obtain ⟨xs, n, _, _, hlen, hxl, hf⟩ := DataW.trod_struct Tryz.underlying37 h
  rw [cells_plan] at hlen
  obtain ⟨c0, c1, c2, c3, c4, c5, c6, c7, rfl⟩ := list8 hlen
  obtain ⟨y0, y1, y2, y3, y4, y5, y6, y7, rfl⟩ := list8 hxl
  have e0 := hf 0 _ rfl
  have e1 := hf 1 _ rfl
  have e2 := hf 2 _ rfl
  have e3 := hf 3 _ rfl
  have e4 := hf 4 _ rfl
  have e5 := hf 5 _ rfl
  have e6 := hf 6 _ rfl
  have e7 := hf 7 _ rfl
  change DataW.trod enc Tryz.prog w base spare held n 9 (([c0, c1, c2, c3, c4, c5, c6, c7].drop 0).take (Tryz.prog.cellsOf 9)) = some y0 at e0
  change DataW.trod enc Tryz.prog w base spare held n 3 (([c0, c1, c2, c3, c4, c5, c6, c7].drop 1).take (Tryz.prog.cellsOf 3)) = some y1 at e1
  change DataW.trod enc Tryz.prog w base spare held n 9 (([c0, c1, c2, c3, c4, c5, c6, c7].drop 2).take (Tryz.prog.cellsOf 9)) = some y2 at e2
  change DataW.trod enc Tryz.prog w base spare held n 9 (([c0, c1, c2, c3, c4, c5, c6, c7].drop 3).take (Tryz.prog.cellsOf 9)) = some y3 at e3
  change DataW.trod enc Tryz.prog w base spare held n 9 (([c0, c1, c2, c3, c4, c5, c6, c7].drop 4).take (Tryz.prog.cellsOf 9)) = some y4 at e4
  change DataW.trod enc Tryz.prog w base spare held n 3 (([c0, c1, c2, c3, c4, c5, c6, c7].drop 5).take (Tryz.prog.cellsOf 3)) = some y5 at e5
  change DataW.trod enc Tryz.prog w base spare held n 3 (([c0, c1, c2, c3, c4, c5, c6, c7].drop 6).take (Tryz.prog.cellsOf 3)) = some y6 at e6
  change DataW.trod enc Tryz.prog w base spare held n 3 (([c0, c1, c2, c3, c4, c5, c6, c7].drop 7).take (Tryz.prog.cellsOf 3)) = some y7 at e7
  simp only [cells_str] at e0 e2 e3 e4
  simp only [cells_int] at e1 e5 e6 e7
  obtain ⟨s0, g0, _, m0⟩ := DataW.trod_string Tryz.underlying9 e0
  obtain ⟨k1, g1, _, m1⟩ := DataW.trod_int Tryz.underlying3 e1
  obtain ⟨s2, g2, _, m2⟩ := DataW.trod_string Tryz.underlying9 e2
  obtain ⟨s3, g3, _, m3⟩ := DataW.trod_string Tryz.underlying9 e3
  obtain ⟨s4, g4, _, m4⟩ := DataW.trod_string Tryz.underlying9 e4
  obtain ⟨k5, g5, _, m5⟩ := DataW.trod_int Tryz.underlying3 e5
  obtain ⟨k6, g6, _, m6⟩ := DataW.trod_int Tryz.underlying3 e6
  obtain ⟨k7, g7, _, m7⟩ := DataW.trod_int Tryz.underlying3 e7
  simp at g0 g1 g2 g3 g4 g5 g6 g7
  subst g0 g1 g2 g3 g4 g5 g6 g7
  unfold maxLen at m0 m2 m3 m4
  exact ⟨⟨s0, k1, s2, s3, s4, k5, k6, k7⟩, rfl, m0, m2, m3, m4, wf64p m1, wf64p m5, wf64p m6, wf64p m7⟩
theorem open_plans {H : Type} {enc : TypeId × Value → H} {w : World} {base : Nat} {spare : Nat → Bool} {held : Bool} {fuel : Nat} {cs : List Value} {x : DataW H × List MemPlace}
    (h : DataW.trod enc Tryz.prog w base spare held fuel 23 cs = some x) :
    ∃ A len cap l, cs = [.slice A len cap] ∧ len ≤ cap ∧ cap ≤ maxLen ∧ Rd w 8 plnEnc A len l ∧ PlnsOk l ∧ (A = none → cap = 0) :=
  open_recs plnEnc PlnFits 8 (by omega) (fun _ => rfl) Tryz.underlying23 cells_plan open_plan h
theorem plan_agg {cs : Array Value} {x : Pln} (h : (Value.agg cs).cells.toList = plnEnc x) : cs = #[.string x.ref, .int .i64 x.ent, .string x.fr, .string x.to, .string x.cur, .int .i64 x.amt, .int .i64 x.first, .int .i64 x.per] := by
  have h' : cs.toList = plnEnc x := h
  apply Array.toList_inj.1
  rw [h']; rfl
end Go.Proofs.YtfkhcdcmcplfoaaGreatDoor
