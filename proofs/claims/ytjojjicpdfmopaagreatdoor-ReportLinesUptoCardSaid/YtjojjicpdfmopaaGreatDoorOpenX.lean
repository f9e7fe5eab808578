/- What comes in: a slice of accounts, read as a list. -/
import Derived.Test.YtjojjicpdfmopaaGreatDoorTrimX
import Derived.Deep.Slices
import Derived.ProofKit
import Derived.Test.YtjojjicpdfmopaaGreatDoorBalP
import Derived.Test.YtjojjicpdfmopaaGreatDoorRows
import Derived.Test.YtjojjicpdfmopaaGreatDoorOwn
import Derived.Lib.LaidTab
namespace Go.Proofs.YtjojjicpdfmopaaGreatDoor
open Go Go.RowKit Go.Deep Go.ChangeShapes Go.WideShapes
set_option linter.unusedVariables false

section
variable {H : Type} {enc : TypeId × Value → H} {P : Program} {w : World} {base : Nat} {spare : Nat → Bool} {held : Bool}

theorem open_recs {α : Type} [Inhabited α] (en : α → List Value) (Ok : α → Prop) (sz : Nat) (hsz : 0 < sz) (hlen : ∀ a, (en a).length = sz) {t e : TypeId} (ht : P.underlying t = some (.slice e)) (hC : P.cellsOf e = sz)
    (hel : ∀ (fuel : Nat) (cs : List Value) (y : DataW H × List MemPlace), DataW.trod enc P w base spare held fuel e cs = some y → ∃ a, cs = en a ∧ Ok a)
    {fuel : Nat} {cs : List Value} {x : DataW H × List MemPlace} (h : DataW.trod enc P w base spare held fuel t cs = some x) :
    ∃ A len cap l, cs = [.slice A len cap] ∧ len ≤ cap ∧ cap ≤ maxLen ∧ Rd w sz en A len l ∧ (∀ a ∈ l, Ok a) ∧ (A = none → cap = 0) := by
  rcases open_slice ht h with ⟨h0, _⟩ | ⟨a, len, cap, m, n, D, Pl, hcs, hb, hl, hm, hmm, hx, hi⟩
  · exact ⟨none, 0, 0, [], h0, by omega, by unfold maxLen; omega, Rd.nil _ _ _ _, fun a ha => by simp at ha, fun _ => rfl⟩
  · have hlm : len ≤ m := by rw [hmm]; split <;> omega
    obtain ⟨f, hf⟩ := choose_lt (α := α) (n := len) (p := fun i r => w.cells? base (a.add (i * P.cellsOf e)) (P.cellsOf e) = some (en r) ∧ Ok r) (fun i hil => by
      obtain ⟨cs', h1, h2⟩ := hi i (by omega)
      obtain ⟨r, rfl, hr⟩ := hel _ _ _ h2
      exact ⟨r, h1, hr⟩)
    refine ⟨some a, len, cap, (List.range len).map f, hcs, hl, hm, ⟨by simp, fun hn => ?_⟩, ?_, fun h => by cases h⟩
    · have hcell : ∀ i, i < len → ∀ j u, (en (f i))[j]? = some u → w.cell? (a.add (i * sz + j)) = some u := by
        intro i hil j u hu
        obtain ⟨h1, _⟩ := hf i hil
        rw [hC] at h1
        obtain ⟨_, _, hc⟩ := World.cells?_some h1
        have hj : j < sz := by
          have := (List.getElem?_eq_some_iff.1 hu).1
          rw [hlen] at this; exact this
        rw [← hu, ← hc j hj, Go.Deep.add_add]
      have h0 := hcell 0 hn 0 _ (List.getElem?_eq_getElem (by rw [hlen]; exact hsz))
      have hspot : a.spot = none := by
        have := World.cell?_spot h0
        simpa [Addr.add] using this
      obtain ⟨b, off, sp⟩ := a
      simp only at hspot
      subst hspot
      refine ⟨b, off, rfl, fun k j u hk hu => ?_⟩
      have hkl : k < len := by simpa using hk
      have hu' : (en (f k))[j]? = some u := by simpa using hu
      have := hcell k hkl j u hu'
      unfold Addr.add at this
      by_cases hz : k * sz + j = 0
      · rw [if_pos hz] at this
        rw [show off + k * sz + j = off from by omega]; exact this
      · rw [if_neg hz] at this
        rw [Nat.add_assoc]; exact this
    · intro r hr
      obtain ⟨i, hir, rfl⟩ := List.mem_map.1 hr
      exact (hf i (List.mem_range.1 hir)).2
end

instance : Inhabited Acc := ⟨⟨⟨#[]⟩, ⟨#[]⟩, 0, ⟨#[]⟩, false⟩⟩

def AccFits (a : Acc) : Prop := a.code.size ≤ 9223372036854775807 ∧ a.name.size ≤ 9223372036854775807

theorem cells_acc : Tryz.prog.cellsOf 47 = 5 := by kernel_rfl
theorem cells_str : Tryz.prog.cellsOf 9 = 1 := by kernel_rfl
theorem cells_int : Tryz.prog.cellsOf 3 = 1 := by kernel_rfl
theorem cells_bool : Tryz.prog.cellsOf 4 = 1 := by kernel_rfl

theorem list3 {β : Type} {l : List β} (h : l.length = 3) : ∃ a b c, l = [a, b, c] := by
  match l, h with
  | [a, b, c], _ => exact ⟨a, b, c, rfl⟩
theorem list4 {β : Type} {l : List β} (h : l.length = 4) : ∃ a b c d, l = [a, b, c, d] := by
  match l, h with
  | [a, b, c, d], _ => exact ⟨a, b, c, d, rfl⟩
theorem list5 {β : Type} {l : List β} (h : l.length = 5) : ∃ a b c d e, l = [a, b, c, d, e] := by
  match l, h with
  | [a, b, c, d, e], _ => exact ⟨a, b, c, d, e, rfl⟩
set_option maxRecDepth 100000 in
theorem open_acc {H : Type} {enc : TypeId × Value → H} {w : World} {base : Nat} {spare : Nat → Bool} {held : Bool} (fuel : Nat) (cs : List Value) (y : DataW H × List MemPlace)
    (h : DataW.trod enc Tryz.prog w base spare held fuel 47 cs = some y) : ∃ a : Acc, cs = a.enc ∧ AccFits a := by
  obtain ⟨xs, n, _, _, hlen, hxl, hf⟩ := DataW.trod_struct Tryz.underlying47 h
  rw [cells_acc] at hlen
  obtain ⟨c0, c1, c2, c3, c4, rfl⟩ := list5 hlen
  obtain ⟨y0, y1, y2, y3, y4, rfl⟩ := list5 hxl
  have e0 := hf 0 _ rfl
  have e1 := hf 1 _ rfl
  have e2 := hf 2 _ rfl
  have e3 := hf 3 _ rfl
  have e4 := hf 4 _ rfl
  change DataW.trod enc Tryz.prog w base spare held n 9 (([c0, c1, c2, c3, c4].drop 0).take (Tryz.prog.cellsOf 9)) = some y0 at e0
  change DataW.trod enc Tryz.prog w base spare held n 9 (([c0, c1, c2, c3, c4].drop 1).take (Tryz.prog.cellsOf 9)) = some y1 at e1
  change DataW.trod enc Tryz.prog w base spare held n 3 (([c0, c1, c2, c3, c4].drop 2).take (Tryz.prog.cellsOf 3)) = some y2 at e2
  change DataW.trod enc Tryz.prog w base spare held n 9 (([c0, c1, c2, c3, c4].drop 3).take (Tryz.prog.cellsOf 9)) = some y3 at e3
  change DataW.trod enc Tryz.prog w base spare held n 4 (([c0, c1, c2, c3, c4].drop 4).take (Tryz.prog.cellsOf 4)) = some y4 at e4
  simp only [cells_str] at e0 e1 e3
  simp only [cells_int] at e2
  simp only [cells_bool] at e4
  obtain ⟨s0, g0, _, m0⟩ := DataW.trod_string Tryz.underlying9 e0
  obtain ⟨s1, g1, _, m1⟩ := DataW.trod_string Tryz.underlying9 e1
  obtain ⟨k2, g2, _, _⟩ := DataW.trod_int Tryz.underlying3 e2
  obtain ⟨s3, g3, _, m3⟩ := DataW.trod_string Tryz.underlying9 e3
  obtain ⟨b4, g4, _⟩ := DataW.trod_bool Tryz.underlying4 e4
  simp at g0 g1 g2 g3 g4
  subst g0 g1 g2 g3 g4
  unfold maxLen at m0 m1
  exact ⟨⟨s0, s1, k2, s3, b4⟩, rfl, m0, m1⟩

theorem accOk_of {l : List Acc} (h : ∀ a ∈ l, AccFits a) : AccOk l := fun i hi => h _ (List.getElem_mem hi)

theorem open_accs {H : Type} {enc : TypeId × Value → H} {w : World} {base : Nat} {spare : Nat → Bool} {held : Bool} {fuel : Nat} {cs : List Value} {x : DataW H × List MemPlace}
    (h : DataW.trod enc Tryz.prog w base spare held fuel 22 cs = some x) :
    ∃ A len cap l, cs = [.slice A len cap] ∧ len ≤ cap ∧ cap ≤ maxLen ∧ Accs w A len l ∧ AccOk l := by
  obtain ⟨A, len, cap, l, h1, h2, h3, h4, h5, _⟩ := open_recs Acc.enc AccFits 5 (by omega) (fun _ => rfl) Tryz.underlying22 cells_acc open_acc h
  exact ⟨A, len, cap, l, h1, h2, h3, h4, accOk_of h5⟩
end Go.Proofs.YtjojjicpdfmopaaGreatDoor

namespace Go.Proofs.YtjojjicpdfmopaaGreatDoor
open Go Go.RowKit Go.Deep Go.ChangeShapes Go.WideShapes
set_option linter.unusedVariables false

instance : Inhabited Bal := ⟨⟨0, ⟨#[]⟩, ⟨#[]⟩, 0⟩⟩
instance : Inhabited Pr := ⟨⟨0, 0, ⟨#[]⟩, ⟨#[]⟩, ⟨#[]⟩⟩⟩
theorem wf64 {n : Int} (h : (Lit.int .i64 n).wf = true) : -9223372036854775808 ≤ n ∧ n ≤ 9223372036854775807 := by
  simp [Lit.wf, IntKind.min, IntKind.max, IntKind.signed, IntKind.bits] at h
  omega
theorem cells_bal : Tryz.prog.cellsOf 30 = 4 := by kernel_rfl
set_option maxRecDepth 100000 in
theorem open_bal {H : Type} {enc : TypeId × Value → H} {w : World} {base : Nat} {spare : Nat → Bool} {held : Bool} (fuel : Nat) (cs : List Value) (y : DataW H × List MemPlace)
    (h : DataW.trod enc Tryz.prog w base spare held fuel 30 cs = some y) : ∃ a : Bal, cs = balEnc a ∧ BalFits a := by
  obtain ⟨xs, n, _, _, hlen, hxl, hf⟩ := DataW.trod_struct Tryz.underlying30 h
  rw [cells_bal] at hlen
  obtain ⟨c0, c1, c2, c3, rfl⟩ := list4 hlen
  obtain ⟨y0, y1, y2, y3, rfl⟩ := list4 hxl
  have e0 := hf 0 _ rfl
  have e1 := hf 1 _ rfl
  have e2 := hf 2 _ rfl
  have e3 := hf 3 _ rfl
  change DataW.trod enc Tryz.prog w base spare held n 3 (([c0, c1, c2, c3].drop 0).take (Tryz.prog.cellsOf 3)) = some y0 at e0
  change DataW.trod enc Tryz.prog w base spare held n 9 (([c0, c1, c2, c3].drop 1).take (Tryz.prog.cellsOf 9)) = some y1 at e1
  change DataW.trod enc Tryz.prog w base spare held n 9 (([c0, c1, c2, c3].drop 2).take (Tryz.prog.cellsOf 9)) = some y2 at e2
  change DataW.trod enc Tryz.prog w base spare held n 3 (([c0, c1, c2, c3].drop 3).take (Tryz.prog.cellsOf 3)) = some y3 at e3
  simp only [cells_str] at e1 e2
  simp only [cells_int] at e0 e3
  obtain ⟨k0, g0, _, m0⟩ := DataW.trod_int Tryz.underlying3 e0
  obtain ⟨s1, g1, _, m1⟩ := DataW.trod_string Tryz.underlying9 e1
  obtain ⟨s2, g2, _, m2⟩ := DataW.trod_string Tryz.underlying9 e2
  obtain ⟨k3, g3, _, m3⟩ := DataW.trod_int Tryz.underlying3 e3
  simp at g0 g1 g2 g3
  subst g0 g1 g2 g3
  unfold maxLen at m1 m2
  exact ⟨⟨k0, s1, s2, k3⟩, rfl, wf64 m0, m1, m2, wf64 m3⟩
theorem open_bals {H : Type} {enc : TypeId × Value → H} {w : World} {base : Nat} {spare : Nat → Bool} {held : Bool} {fuel : Nat} {cs : List Value} {x : DataW H × List MemPlace}
    (h : DataW.trod enc Tryz.prog w base spare held fuel 23 cs = some x) :
    ∃ A len cap l, cs = [.slice A len cap] ∧ len ≤ cap ∧ cap ≤ maxLen ∧ Rd w 4 balEnc A len l ∧ BalsOk l ∧ (A = none → cap = 0) :=
  open_recs balEnc BalFits 4 (by omega) (fun _ => rfl) Tryz.underlying23 cells_bal open_bal h
end Go.Proofs.YtjojjicpdfmopaaGreatDoor

namespace Go.Proofs.YtjojjicpdfmopaaGreatDoor
open Go Go.RowKit Go.Deep Go.ChangeShapes Go.WideShapes
set_option linter.unusedVariables false

theorem bulkU_part {H : Type} {d : DataW H} {l : List (DataW H)} (h : d ∈ l) : Rows.uptoBulk d ≤ Rows.uptoBulkAll l := by
  induction l with
  | nil => cases h
  | cons x r ih =>
    simp only [Rows.uptoBulkAll]
    rcases List.mem_cons.1 h with e | e
    · subst e; omega
    · have := ih e; omega
theorem bulkU_small {H : Type} {l : List (DataW H)} (hk : Rows.uptoSmall H l = true) {d : DataW H} (h : d ∈ l) : Rows.uptoBulk d ≤ 1048576 := by
  have h1 : Rows.uptoBulkAll l ≤ 1048576 := of_decide_eq_true hk
  exact Nat.le_trans (bulkU_part h) h1
theorem bulkU_str {H : Type} (s : ByteArray) : Rows.uptoBulk (DataW.lit (H := H) (.string s.data.toList)) = s.size + 1 := by
  simp only [Rows.uptoBulk]
  rw [Array.length_toList]; rfl

section
variable {H : Type} {enc : TypeId × Value → H} {P : Program} {w : World} {base : Nat} {spare : Nat → Bool} {held : Bool}
theorem open_recsU {α : Type} [Inhabited α] (en : α → List Value) (Ok : α → Prop) (mu : α → Nat) (sz : Nat) (hsz : 0 < sz) (hlen : ∀ a, (en a).length = sz) {t e : TypeId} (ht : P.underlying t = some (.slice e)) (hC : P.cellsOf e = sz)
    (hel : ∀ (fuel : Nat) (cs : List Value) (y : DataW H × List MemPlace), DataW.trod enc P w base spare held fuel e cs = some y → ∃ a, cs = en a ∧ Ok a ∧ mu a ≤ Rows.uptoBulk y.1)
    {fuel : Nat} {cs : List Value} {x : DataW H × List MemPlace} (h : DataW.trod enc P w base spare held fuel t cs = some x) :
    ∃ A len cap l, cs = [.slice A len cap] ∧ len ≤ cap ∧ cap ≤ maxLen ∧ Rd w sz en A len l ∧ (∀ a ∈ l, Ok a ∧ mu a ≤ Rows.uptoBulk x.1) := by
  rcases open_slice ht h with ⟨h0, _⟩ | ⟨a, len, cap, m, n, D, Pl, hcs, hb, hl, hm, hmm, hx, hi⟩
  · exact ⟨none, 0, 0, [], h0, by omega, by unfold maxLen; omega, Rd.nil _ _ _ _, fun a ha => by simp at ha⟩
  · have hlm : len ≤ m := by rw [hmm]; split <;> omega
    have hbulk : ∀ i, i < len → Rows.uptoBulk (D i) ≤ Rows.uptoBulk x.1 := by
      intro i hil
      rw [hx]
      have h1 : Rows.uptoBulk (D i) ≤ Rows.uptoBulkAll ((List.range len).map D) := bulkU_part (List.mem_map.2 ⟨i, List.mem_range.2 hil, rfl⟩)
      simp only [Rows.uptoBulk]
      omega
    obtain ⟨f, hf⟩ := choose_lt (α := α) (n := len) (p := fun i r => w.cells? base (a.add (i * P.cellsOf e)) (P.cellsOf e) = some (en r) ∧ Ok r ∧ mu r ≤ Rows.uptoBulk x.1) (fun i hil => by
      obtain ⟨cs', h1, h2⟩ := hi i (by omega)
      obtain ⟨r, rfl, hr, hr2⟩ := hel _ _ _ h2
      exact ⟨r, h1, hr, Nat.le_trans hr2 (hbulk i hil)⟩)
    refine ⟨some a, len, cap, (List.range len).map f, hcs, hl, hm, ⟨by simp, fun hn => ?_⟩, ?_⟩
    · have hcell : ∀ i, i < len → ∀ j u, (en (f i))[j]? = some u → w.cell? (a.add (i * sz + j)) = some u := by
        intro i hil j u hu
        obtain ⟨h1, _⟩ := hf i hil
        rw [hC] at h1
        obtain ⟨_, _, hc⟩ := World.cells?_some h1
        have hj : j < sz := by
          have := (List.getElem?_eq_some_iff.1 hu).1
          rw [hlen] at this; exact this
        rw [← hu, ← hc j hj, Go.Deep.add_add]
      have h0 := hcell 0 hn 0 _ (List.getElem?_eq_getElem (by rw [hlen]; exact hsz))
      have hspot : a.spot = none := by
        have := World.cell?_spot h0
        simpa [Addr.add] using this
      obtain ⟨b, off, sp⟩ := a
      simp only at hspot
      subst hspot
      refine ⟨b, off, rfl, fun k j u hk hu => ?_⟩
      have hkl : k < len := by simpa using hk
      have hu' : (en (f k))[j]? = some u := by simpa using hu
      have := hcell k hkl j u hu'
      unfold Addr.add at this
      by_cases hz : k * sz + j = 0
      · rw [if_pos hz] at this
        rw [show off + k * sz + j = off from by omega]; exact this
      · rw [if_neg hz] at this
        rw [Nat.add_assoc]; exact this
    · intro r hr
      obtain ⟨i, hir, rfl⟩ := List.mem_map.1 hr
      exact (hf i (List.mem_range.1 hir)).2
end

set_option maxRecDepth 100000 in
theorem open_balU {H : Type} {enc : TypeId × Value → H} {w : World} {base : Nat} {spare : Nat → Bool} {held : Bool} (fuel : Nat) (cs : List Value) (y : DataW H × List MemPlace)
    (h : DataW.trod enc Tryz.prog w base spare held fuel 30 cs = some y) : ∃ a : Bal, cs = balEnc a ∧ BalFits a ∧ a.acc.size + a.cur.size ≤ Rows.uptoBulk y.1 := by
  obtain ⟨xs, n, _, hy, hlen, hxl, hf⟩ := DataW.trod_struct Tryz.underlying30 h
  rw [cells_bal] at hlen
  obtain ⟨c0, c1, c2, c3, rfl⟩ := list4 hlen
  obtain ⟨y0, y1, y2, y3, rfl⟩ := list4 hxl
  have e0 := hf 0 _ rfl
  have e1 := hf 1 _ rfl
  have e2 := hf 2 _ rfl
  have e3 := hf 3 _ rfl
  change DataW.trod enc Tryz.prog w base spare held n 3 (([c0, c1, c2, c3].drop 0).take (Tryz.prog.cellsOf 3)) = some y0 at e0
  change DataW.trod enc Tryz.prog w base spare held n 9 (([c0, c1, c2, c3].drop 1).take (Tryz.prog.cellsOf 9)) = some y1 at e1
  change DataW.trod enc Tryz.prog w base spare held n 9 (([c0, c1, c2, c3].drop 2).take (Tryz.prog.cellsOf 9)) = some y2 at e2
  change DataW.trod enc Tryz.prog w base spare held n 3 (([c0, c1, c2, c3].drop 3).take (Tryz.prog.cellsOf 3)) = some y3 at e3
  simp only [cells_str] at e1 e2
  simp only [cells_int] at e0 e3
  obtain ⟨k0, g0, _, m0⟩ := DataW.trod_int Tryz.underlying3 e0
  obtain ⟨s1, g1, z1, m1⟩ := DataW.trod_string Tryz.underlying9 e1
  obtain ⟨s2, g2, z2, m2⟩ := DataW.trod_string Tryz.underlying9 e2
  obtain ⟨k3, g3, _, m3⟩ := DataW.trod_int Tryz.underlying3 e3
  simp at g0 g1 g2 g3
  subst g0 g1 g2 g3
  unfold maxLen at m1 m2
  refine ⟨⟨k0, s1, s2, k3⟩, rfl, ⟨wf64 m0, m1, m2, wf64 m3⟩, ?_⟩
  rw [hy, z1, z2]
  simp only [List.map_cons, List.map_nil, Rows.uptoBulkAll, bulkU_str, Rows.uptoBulk.eq_6]
  show s1.size + s2.size ≤ _
  omega
set_option maxRecDepth 100000 in
theorem open_accU {H : Type} {enc : TypeId × Value → H} {w : World} {base : Nat} {spare : Nat → Bool} {held : Bool} (fuel : Nat) (cs : List Value) (y : DataW H × List MemPlace)
    (h : DataW.trod enc Tryz.prog w base spare held fuel 47 cs = some y) : ∃ a : Acc, cs = a.enc ∧ AccFits a ∧ a.name.size ≤ Rows.uptoBulk y.1 := by
  obtain ⟨xs, n, _, hy, hlen, hxl, hf⟩ := DataW.trod_struct Tryz.underlying47 h
  rw [cells_acc] at hlen
  obtain ⟨c0, c1, c2, c3, c4, rfl⟩ := list5 hlen
  obtain ⟨y0, y1, y2, y3, y4, rfl⟩ := list5 hxl
  have e0 := hf 0 _ rfl
  have e1 := hf 1 _ rfl
  have e2 := hf 2 _ rfl
  have e3 := hf 3 _ rfl
  have e4 := hf 4 _ rfl
  change DataW.trod enc Tryz.prog w base spare held n 9 (([c0, c1, c2, c3, c4].drop 0).take (Tryz.prog.cellsOf 9)) = some y0 at e0
  change DataW.trod enc Tryz.prog w base spare held n 9 (([c0, c1, c2, c3, c4].drop 1).take (Tryz.prog.cellsOf 9)) = some y1 at e1
  change DataW.trod enc Tryz.prog w base spare held n 3 (([c0, c1, c2, c3, c4].drop 2).take (Tryz.prog.cellsOf 3)) = some y2 at e2
  change DataW.trod enc Tryz.prog w base spare held n 9 (([c0, c1, c2, c3, c4].drop 3).take (Tryz.prog.cellsOf 9)) = some y3 at e3
  change DataW.trod enc Tryz.prog w base spare held n 4 (([c0, c1, c2, c3, c4].drop 4).take (Tryz.prog.cellsOf 4)) = some y4 at e4
  simp only [cells_str] at e0 e1 e3
  simp only [cells_int] at e2
  simp only [cells_bool] at e4
  obtain ⟨s0, g0, _, m0⟩ := DataW.trod_string Tryz.underlying9 e0
  obtain ⟨s1, g1, z1, m1⟩ := DataW.trod_string Tryz.underlying9 e1
  obtain ⟨k2, g2, _, _⟩ := DataW.trod_int Tryz.underlying3 e2
  obtain ⟨s3, g3, _, m3⟩ := DataW.trod_string Tryz.underlying9 e3
  obtain ⟨b4, g4, _⟩ := DataW.trod_bool Tryz.underlying4 e4
  simp at g0 g1 g2 g3 g4
  subst g0 g1 g2 g3 g4
  unfold maxLen at m0 m1
  refine ⟨⟨s0, s1, k2, s3, b4⟩, rfl, ⟨m0, m1⟩, ?_⟩
  rw [hy, z1]
  simp only [List.map_cons, List.map_nil, Rows.uptoBulkAll, bulkU_str, Rows.uptoBulk.eq_6]
  show s1.size ≤ _
  omega
theorem open_balsU {H : Type} {enc : TypeId × Value → H} {w : World} {base : Nat} {spare : Nat → Bool} {held : Bool} {fuel : Nat} {cs : List Value} {x : DataW H × List MemPlace}
    (h : DataW.trod enc Tryz.prog w base spare held fuel 23 cs = some x) :
    ∃ A len cap l, cs = [.slice A len cap] ∧ len ≤ cap ∧ cap ≤ maxLen ∧ Rd w 4 balEnc A len l ∧ ∀ a ∈ l, BalFits a ∧ a.acc.size + a.cur.size ≤ Rows.uptoBulk x.1 :=
  open_recsU balEnc BalFits (fun a => a.acc.size + a.cur.size) 4 (by omega) (fun _ => rfl) Tryz.underlying23 cells_bal open_balU h
theorem open_accsU {H : Type} {enc : TypeId × Value → H} {w : World} {base : Nat} {spare : Nat → Bool} {held : Bool} {fuel : Nat} {cs : List Value} {x : DataW H × List MemPlace}
    (h : DataW.trod enc Tryz.prog w base spare held fuel 22 cs = some x) :
    ∃ A len cap l, cs = [.slice A len cap] ∧ len ≤ cap ∧ cap ≤ maxLen ∧ Accs w A len l ∧ ∀ a ∈ l, AccFits a ∧ a.name.size ≤ Rows.uptoBulk x.1 :=
  open_recsU Acc.enc AccFits (fun a => a.name.size) 5 (by omega) (fun _ => rfl) Tryz.underlying22 cells_acc open_accU h

theorem laidU_parts {P : Program} {l : List (String × DataW Unit)} {w : World} (h : laidMetH P l w) : laidMet P (l.filter fun x => x.2.handleName?.isNone) w := by
  unfold laidMetH at h
  generalize hfl : (l.filter fun x => x.2.handleName?.isSome) = fl at h
  cases fl with
  | nil =>
    have e : (l.filter fun x => x.2.handleName?.isNone) = l := by
      apply List.filter_eq_self.2
      intro x hx
      cases hn : x.2.handleName? with
      | none => rfl
      | some y =>
        have hm : x ∈ l.filter fun x => x.2.handleName?.isSome := List.mem_filter.2 ⟨hx, by rw [hn]; rfl⟩
        rw [hfl] at hm
        cases hm
    rw [e]
    exact h
  | cons a rest => exact h.1
theorem laidU_mem {P : Program} {W : World} {n : String} {d : DataW Unit} : ∀ {l : List (String × DataW Unit)} {ps : List MemPlace}, DataW.LaidVars P W l ps → (n, d) ∈ l →
    ∃ g t cs fuel p, P.globalNamed n = some g ∧ (P.globals[g]?).map (·.type) = some t ∧ W.var? P n = some cs ∧ DataW.trod (fun _ => ()) P W 0 (fun _ => true) false fuel t cs.toList = some (d, p)
  | [], _, _, hm => by cases hm
  | (a, b) :: r, ps, h, hm => by
    obtain ⟨g, t, cs, fuel, p, q, h3, h4, h5, h6, h7, _⟩ := h
    rcases List.mem_cons.1 hm with e | e
    · injection e with e1 e2
      subst e1 e2
      exact ⟨g, t, cs, fuel, p, h3, h4, h5, h6⟩
    · exact laidU_mem h7 e
/-- what the program text lays into math/big's leafSize -/
theorem leaf_laid {laid : List (String × DataW Unit)} {W : World} (hL : laidMetH Tryz.prog laid W) (hx : ("math/big.leafSize", Rows.laid_math_big_leafSize) ∈ laid) : W.cell? ⟨2, 0, none⟩ = some (.int .i64 8) := by
  obtain ⟨ps, hv, _⟩ := laidU_parts hL
  obtain ⟨g, t, cs, fuel, p, h3, h4, h5, h6⟩ := laidU_mem hv (List.mem_filter.2 ⟨hx, rfl⟩)
  obtain rfl : g = 2 := Option.some.inj (h3.symm.trans (by kernel_rfl))
  obtain rfl : t = 3 := Option.some.inj (h4.symm.trans (by kernel_rfl))
  obtain ⟨n, hc, hd, _⟩ := DataW.trod_int Tryz.underlying3 h6
  have hn : n = 8 := by
    injection hd with hd _
    injection hd with hd
    injection hd with _ hd
    exact hd.symm
  subst hn
  have hT : Lib.TabIs Tryz.prog W "math/big.leafSize" .i64 [8] := h5.trans (congrArg some (by
    apply Array.toList_inj.1
    rw [hc]; rfl))
  exact hT.cell h3 0 (by decide)
end Go.Proofs.YtjojjicpdfmopaaGreatDoor
