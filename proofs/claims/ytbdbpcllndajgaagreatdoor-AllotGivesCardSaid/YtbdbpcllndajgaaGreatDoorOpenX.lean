/- What comes in: a slice of accounts, read as a list. -/
import Derived.Test.YtbdbpcllndajgaaGreatDoorTrimX
import Derived.Deep.Slices
import Derived.ProofKit
import Derived.Test.YtbdbpcllndajgaaGreatDoorBigY
import Derived.Test.YtbdbpcllndajgaaGreatDoorChartX
namespace Go.Proofs.YtbdbpcllndajgaaGreatDoor
open Go Go.RowKit Go.Deep Go.ChangeShapes Go.WideShapes
set_option linter.unusedVariables false

section
variable {H : Type} {enc : TypeId × Value → H} {P : Program} {w : World} {base : Nat} {spare : Nat → Bool} {held : Bool}

theorem open_recs {α : Type} [Inhabited α] (en : α → List Value) (Ok : α → Prop) (sz : Nat) (hsz : 0 < sz) (hlen : ∀ a, (en a).length = sz) {t e : TypeId} (ht : P.underlying t = some (.slice e)) (hC : P.cellsOf e = sz)
    (hel : ∀ (fuel : Nat) (cs : List Value) (y : DataW H × List MemPlace), DataW.trod enc P w base spare held fuel e cs = some y → ∃ a, cs = en a ∧ Ok a)
    {fuel : Nat} {cs : List Value} {x : DataW H × List MemPlace} (h : DataW.trod enc P w base spare held fuel t cs = some x) :
    ∃ A len cap l, cs = [.slice A len cap] ∧ len ≤ cap ∧ cap ≤ maxLen ∧ Rd w sz en A len l ∧ (∀ a ∈ l, Ok a) ∧ (A = none → cap = 0) := by
  rcases open_slice ht h with ⟨h0, _⟩ | ⟨a, len, cap, m, n, D, Pl, hcs, hb, hl, hm, hmm, hx, hi⟩
  · exact ⟨none, 0, 0, [], h0, by omega, by unfold maxLen; omega, Rd.nil _ _ _ _, fun a ha => by simp at ha, fun _ => rfl⟩
  · have hlm : len ≤ m := by rw [hmm]; split <;> omega
    obtain ⟨f, hf⟩ := choose_lt (α := α) (n := len) (p := fun i r => w.cells? base (a.add (i * P.cellsOf e)) (P.cellsOf e) = some (en r) ∧ Ok r) (fun i hil => by
      obtain ⟨cs', h1, h2⟩ := hi i (by omega)
      obtain ⟨r, rfl, hr⟩ := hel _ _ _ h2
      exact ⟨r, h1, hr⟩)
    refine ⟨some a, len, cap, (List.range len).map f, hcs, hl, hm, ⟨by simp, fun hn => ?_⟩, ?_, fun h => by cases h⟩
    · have hcell : ∀ i, i < len → ∀ j u, (en (f i))[j]? = some u → w.cell? (a.add (i * sz + j)) = some u := by
        intro i hil j u hu
        obtain ⟨h1, _⟩ := hf i hil
        rw [hC] at h1
        obtain ⟨_, _, hc⟩ := World.cells?_some h1
        have hj : j < sz := by
          have := (List.getElem?_eq_some_iff.1 hu).1
          rw [hlen] at this; exact this
        rw [← hu, ← hc j hj, Go.Deep.add_add]
      have h0 := hcell 0 hn 0 _ (List.getElem?_eq_getElem (by rw [hlen]; exact hsz))
      have hspot : a.spot = none := by
        have := World.cell?_spot h0
        simpa [Addr.add] using this
      obtain ⟨b, off, sp⟩ := a
      simp only at hspot
      subst hspot
      refine ⟨b, off, rfl, fun k j u hk hu => ?_⟩
      have hkl : k < len := by simpa using hk
      have hu' : (en (f k))[j]? = some u := by simpa using hu
      have := hcell k hkl j u hu'
      unfold Addr.add at this
      by_cases hz : k * sz + j = 0
      · rw [if_pos hz] at this
        rw [show off + k * sz + j = off from by omega]; exact this
      · rw [if_neg hz] at this
        rw [Nat.add_assoc]; exact this
    · intro r hr
      obtain ⟨i, hir, rfl⟩ := List.mem_map.1 hr
      exact (hf i (List.mem_range.1 hir)).2
end

instance : Inhabited Acc := ⟨⟨⟨#[]⟩, ⟨#[]⟩, 0, ⟨#[]⟩, false⟩⟩

def AccFits (a : Acc) : Prop := a.code.size ≤ 9223372036854775807 ∧ a.name.size ≤ 9223372036854775807

theorem cells_acc : Tryz.prog.cellsOf 72 = 5 := by kernel_rfl
theorem cells_str : Tryz.prog.cellsOf 9 = 1 := by kernel_rfl
theorem cells_int : Tryz.prog.cellsOf 3 = 1 := by kernel_rfl
theorem cells_bool : Tryz.prog.cellsOf 4 = 1 := by kernel_rfl

theorem list3 {β : Type} {l : List β} (h : l.length = 3) : ∃ a b c, l = [a, b, c] := by
  match l, h with
  | [a, b, c], _ => exact ⟨a, b, c, rfl⟩
theorem list4 {β : Type} {l : List β} (h : l.length = 4) : ∃ a b c d, l = [a, b, c, d] := by
  match l, h with
  | [a, b, c, d], _ => exact ⟨a, b, c, d, rfl⟩
theorem list5 {β : Type} {l : List β} (h : l.length = 5) : ∃ a b c d e, l = [a, b, c, d, e] := by
  match l, h with
  | [a, b, c, d, e], _ => exact ⟨a, b, c, d, e, rfl⟩
set_option maxRecDepth 100000 in
theorem open_acc {H : Type} {enc : TypeId × Value → H} {w : World} {base : Nat} {spare : Nat → Bool} {held : Bool} (fuel : Nat) (cs : List Value) (y : DataW H × List MemPlace)
    (h : DataW.trod enc Tryz.prog w base spare held fuel 72 cs = some y) : ∃ a : Acc, cs = a.enc ∧ AccFits a := by
  obtain ⟨xs, n, _, _, hlen, hxl, hf⟩ := DataW.trod_struct Tryz.underlying72 h
  rw [cells_acc] at hlen
  obtain ⟨c0, c1, c2, c3, c4, rfl⟩ := list5 hlen
  obtain ⟨y0, y1, y2, y3, y4, rfl⟩ := list5 hxl
  have e0 := hf 0 _ rfl
  have e1 := hf 1 _ rfl
  have e2 := hf 2 _ rfl
  have e3 := hf 3 _ rfl
  have e4 := hf 4 _ rfl
  change DataW.trod enc Tryz.prog w base spare held n 9 (([c0, c1, c2, c3, c4].drop 0).take (Tryz.prog.cellsOf 9)) = some y0 at e0
  change DataW.trod enc Tryz.prog w base spare held n 9 (([c0, c1, c2, c3, c4].drop 1).take (Tryz.prog.cellsOf 9)) = some y1 at e1
  change DataW.trod enc Tryz.prog w base spare held n 3 (([c0, c1, c2, c3, c4].drop 2).take (Tryz.prog.cellsOf 3)) = some y2 at e2
  change DataW.trod enc Tryz.prog w base spare held n 9 (([c0, c1, c2, c3, c4].drop 3).take (Tryz.prog.cellsOf 9)) = some y3 at e3
  change DataW.trod enc Tryz.prog w base spare held n 4 (([c0, c1, c2, c3, c4].drop 4).take (Tryz.prog.cellsOf 4)) = some y4 at e4
  simp only [cells_str] at e0 e1 e3
  simp only [cells_int] at e2
  simp only [cells_bool] at e4
  obtain ⟨s0, g0, _, m0⟩ := DataW.trod_string Tryz.underlying9 e0
  obtain ⟨s1, g1, _, m1⟩ := DataW.trod_string Tryz.underlying9 e1
  obtain ⟨k2, g2, _, _⟩ := DataW.trod_int Tryz.underlying3 e2
  obtain ⟨s3, g3, _, m3⟩ := DataW.trod_string Tryz.underlying9 e3
  obtain ⟨b4, g4, _⟩ := DataW.trod_bool Tryz.underlying4 e4
  simp at g0 g1 g2 g3 g4
  subst g0 g1 g2 g3 g4
  unfold maxLen at m0 m1
  exact ⟨⟨s0, s1, k2, s3, b4⟩, rfl, m0, m1⟩

theorem accOk_of {l : List Acc} (h : ∀ a ∈ l, AccFits a) : AccOk l := fun i hi => h _ (List.getElem_mem hi)

theorem open_accs {H : Type} {enc : TypeId × Value → H} {w : World} {base : Nat} {spare : Nat → Bool} {held : Bool} {fuel : Nat} {cs : List Value} {x : DataW H × List MemPlace}
    (h : DataW.trod enc Tryz.prog w base spare held fuel 22 cs = some x) :
    ∃ A len cap l, cs = [.slice A len cap] ∧ len ≤ cap ∧ cap ≤ maxLen ∧ Accs w A len l ∧ AccOk l := by
  obtain ⟨A, len, cap, l, h1, h2, h3, h4, h5, _⟩ := open_recs Acc.enc AccFits 5 (by omega) (fun _ => rfl) Tryz.underlying22 cells_acc open_acc h
  exact ⟨A, len, cap, l, h1, h2, h3, h4, accOk_of h5⟩
end Go.Proofs.YtbdbpcllndajgaaGreatDoor

namespace Go.Proofs.YtbdbpcllndajgaaGreatDoor
open Go Go.RowKit Go.Deep Go.ChangeShapes Go.WideShapes
set_option linter.unusedVariables false
def IntFits (x : Int) : Prop := -9223372036854775808 ≤ x ∧ x ≤ 9223372036854775807
theorem intFits_of {n : Int} (h : (Lit.int .i64 n).wf = true) : IntFits n := by
  simp [Lit.wf, IntKind.min, IntKind.max, IntKind.signed, IntKind.bits] at h
  unfold IntFits
  omega
theorem open_int1 {H : Type} {enc : TypeId × Value → H} {w : World} {base : Nat} {spare : Nat → Bool} {held : Bool} (fuel : Nat) (cs : List Value) (y : DataW H × List MemPlace)
    (h : DataW.trod enc Tryz.prog w base spare held fuel 3 cs = some y) : ∃ a : Int, cs = intEnc2 a ∧ IntFits a := by
  obtain ⟨k, g, _, m⟩ := DataW.trod_int Tryz.underlying3 h
  exact ⟨k, g, intFits_of m⟩
theorem open_ints {H : Type} {enc : TypeId × Value → H} {w : World} {base : Nat} {spare : Nat → Bool} {held : Bool} {fuel : Nat} {cs : List Value} {x : DataW H × List MemPlace}
    (h : DataW.trod enc Tryz.prog w base spare held fuel 41 cs = some x) :
    ∃ A len cap l, cs = [.slice A len cap] ∧ len ≤ cap ∧ cap ≤ maxLen ∧ Rd w 1 intEnc2 A len l ∧ Ints64 l := by
  obtain ⟨A, len, cap, l, h1, h2, h3, h4, h5, _⟩ := open_recs intEnc2 IntFits 1 (by omega) (fun _ => rfl) Tryz.underlying41 cells_int open_int1 h
  exact ⟨A, len, cap, l, h1, h2, h3, h4, h5⟩
end Go.Proofs.YtbdbpcllndajgaaGreatDoor

namespace Go.Proofs.YtbdbpcllndajgaaGreatDoor
open Go Go.RowKit Go.Deep Go.ChangeShapes Go.WideShapes
set_option linter.unusedVariables false

theorem cells_strs : Tryz.prog.cellsOf 40 = 1 := by kernel_rfl
theorem cells_ints : Tryz.prog.cellsOf 41 = 1 := by kernel_rfl
theorem cells_pool : Tryz.prog.cellsOf 43 = 4 := by kernel_rfl
instance : Inhabited ByteArray := ⟨⟨#[]⟩⟩
theorem open_str1 {H : Type} {enc : TypeId × Value → H} {w : World} {base : Nat} {spare : Nat → Bool} {held : Bool} (fuel : Nat) (cs : List Value) (y : DataW H × List MemPlace)
    (h : DataW.trod enc Tryz.prog w base spare held fuel 9 cs = some y) : ∃ a : ByteArray, cs = strEnc a ∧ a.size ≤ 9223372036854775807 := by
  obtain ⟨k, g, _, m⟩ := DataW.trod_string Tryz.underlying9 h
  unfold maxLen at m
  exact ⟨k, g, m⟩
theorem open_strs {H : Type} {enc : TypeId × Value → H} {w : World} {base : Nat} {spare : Nat → Bool} {held : Bool} {fuel : Nat} {cs : List Value} {x : DataW H × List MemPlace}
    (h : DataW.trod enc Tryz.prog w base spare held fuel 40 cs = some x) :
    ∃ A len cap l, cs = [.slice A len cap] ∧ len ≤ cap ∧ cap ≤ maxLen ∧ Rd w 1 strEnc A len l ∧ (∀ s ∈ l, s.size ≤ 9223372036854775807) ∧ (A = none → cap = 0) :=
  open_recs strEnc (fun s => s.size ≤ 9223372036854775807) 1 (by omega) (fun _ => rfl) Tryz.underlying40 cells_str open_str1 h
theorem open_intsN {H : Type} {enc : TypeId × Value → H} {w : World} {base : Nat} {spare : Nat → Bool} {held : Bool} {fuel : Nat} {cs : List Value} {x : DataW H × List MemPlace}
    (h : DataW.trod enc Tryz.prog w base spare held fuel 41 cs = some x) :
    ∃ A len cap l, cs = [.slice A len cap] ∧ len ≤ cap ∧ cap ≤ maxLen ∧ Rd w 1 intEnc2 A len l ∧ Ints64 l ∧ (A = none → cap = 0) :=
  open_recs intEnc2 IntFits 1 (by omega) (fun _ => rfl) Tryz.underlying41 cells_int open_int1 h

/-- a pool, and where its accounts and weights lie -/
structure Pol where
  acc : ByteArray
  cur : ByteArray
  TA : Option Addr
  tn : Nat
  tc : Nat
  to : List ByteArray
  WA : Option Addr
  wn : Nat
  wc : Nat
  ws : List Int
instance : Inhabited Pol := ⟨⟨⟨#[]⟩, ⟨#[]⟩, none, 0, 0, [], none, 0, 0, []⟩⟩
def Pol.enc (p : Pol) : List Value := [.string p.acc, .string p.cur, .slice p.TA p.tn p.tc, .slice p.WA p.wn p.wc]
structure PolFits (w : World) (p : Pol) : Prop where
  acc : p.acc.size ≤ 9223372036854775807
  cur : p.cur.size ≤ 9223372036854775807
  tc : p.tn ≤ p.tc
  tm : p.tc ≤ maxLen
  to : Rd w 1 strEnc p.TA p.tn p.to
  tok : ∀ s ∈ p.to, s.size ≤ 9223372036854775807
  wc : p.wn ≤ p.wc
  wm : p.wc ≤ maxLen
  ws : Rd w 1 intEnc2 p.WA p.wn p.ws
  wok : Ints64 p.ws
theorem PolFits.below {w w' : World} {p : Pol} (h : PolFits w p) (hb : Below w.heap.size w w') : PolFits w' p :=
  ⟨h.acc, h.cur, h.tc, h.tm, h.to.below hb, h.tok, h.wc, h.wm, h.ws.below hb, h.wok⟩

set_option maxRecDepth 100000 in
theorem open_pool {H : Type} {enc : TypeId × Value → H} {w : World} {base : Nat} {spare : Nat → Bool} {held : Bool} (fuel : Nat) (cs : List Value) (y : DataW H × List MemPlace)
    (h : DataW.trod enc Tryz.prog w base spare held fuel 43 cs = some y) : ∃ e : Pol, cs = e.enc ∧ PolFits w e := by
  obtain ⟨xs, n, _, _, hlen, hxl, hf⟩ := DataW.trod_struct Tryz.underlying43 h
  rw [cells_pool] at hlen
  obtain ⟨c0, c1, c2, c3, rfl⟩ := list4 hlen
  obtain ⟨y0, y1, y2, y3, rfl⟩ := list4 hxl
  have e0 := hf 0 _ rfl
  have e1 := hf 1 _ rfl
  have e2 := hf 2 _ rfl
  have e3 := hf 3 _ rfl
  change DataW.trod enc Tryz.prog w base spare held n 9 (([c0, c1, c2, c3].drop 0).take (Tryz.prog.cellsOf 9)) = some y0 at e0
  change DataW.trod enc Tryz.prog w base spare held n 9 (([c0, c1, c2, c3].drop 1).take (Tryz.prog.cellsOf 9)) = some y1 at e1
  change DataW.trod enc Tryz.prog w base spare held n 40 (([c0, c1, c2, c3].drop 2).take (Tryz.prog.cellsOf 40)) = some y2 at e2
  change DataW.trod enc Tryz.prog w base spare held n 41 (([c0, c1, c2, c3].drop 3).take (Tryz.prog.cellsOf 41)) = some y3 at e3
  simp only [cells_str] at e0 e1
  simp only [cells_strs] at e2
  simp only [cells_ints] at e3
  obtain ⟨s0, g0, _, m0⟩ := DataW.trod_string Tryz.underlying9 e0
  obtain ⟨s1, g1, _, m1⟩ := DataW.trod_string Tryz.underlying9 e1
  obtain ⟨TA, tn, tc, to, g2, h1, h2, h3, h4, _⟩ := open_strs e2
  obtain ⟨WA, wn, wc, ws, g3, k1, k2, k3, k4, _⟩ := open_intsN e3
  simp at g0 g1 g2 g3
  subst g0 g1 g2 g3
  unfold maxLen at m0 m1
  exact ⟨⟨s0, s1, TA, tn, tc, to, WA, wn, wc, ws⟩, rfl, ⟨m0, m1, h1, h2, h3, h4, k1, k2, k3, k4⟩⟩
theorem open_pools {H : Type} {enc : TypeId × Value → H} {w : World} {base : Nat} {spare : Nat → Bool} {held : Bool} {fuel : Nat} {cs : List Value} {x : DataW H × List MemPlace}
    (h : DataW.trod enc Tryz.prog w base spare held fuel 23 cs = some x) :
    ∃ A len cap l, cs = [.slice A len cap] ∧ len ≤ cap ∧ cap ≤ maxLen ∧ Rd w 4 Pol.enc A len l ∧ (∀ e ∈ l, PolFits w e) ∧ (A = none → cap = 0) :=
  open_recs Pol.enc (PolFits w) 4 (by omega) (fun _ => rfl) Tryz.underlying23 cells_pool open_pool h
end Go.Proofs.YtbdbpcllndajgaaGreatDoor
