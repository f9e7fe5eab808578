/- What comes in: a slice of balances, a slice of pairs. -/
import Derived.Test.YtggmbjdonlbfkaaGreatDoorBesafterOpenX
import Derived.Test.YtggmbjdonlbfkaaGreatDoorBesafterBalP
namespace Go.Proofs.YtggmbjdonlbfkaaGreatDoorBesafter
open Go Go.RowKit Go.Deep Go.ChangeShapes Go.WideShapes
set_option linter.unusedVariables false

instance : Inhabited Bal := ⟨⟨0, ⟨#[]⟩, ⟨#[]⟩, 0⟩⟩
instance : Inhabited Pr := ⟨⟨0, 0, ⟨#[]⟩, ⟨#[]⟩, ⟨#[]⟩⟩⟩
theorem wf64 {n : Int} (h : (Lit.int .i64 n).wf = true) : -9223372036854775808 ≤ n ∧ n ≤ 9223372036854775807 := by
  simp [Lit.wf, IntKind.min, IntKind.max, IntKind.signed, IntKind.bits] at h
  omega
theorem cells_bal : Tryz.prog.cellsOf 33 = 4 := by kernel_rfl
set_option maxRecDepth 100000 in
theorem open_bal {H : Type} {enc : TypeId × Value → H} {w : World} {base : Nat} {spare : Nat → Bool} {held : Bool} (fuel : Nat) (cs : List Value) (y : DataW H × List MemPlace)
    (h : DataW.trod enc Tryz.prog w base spare held fuel 33 cs = some y) : ∃ a : Bal, cs = balEnc a ∧ BalFits a := by
  obtain ⟨xs, n, _, _, hlen, hxl, hf⟩ := DataW.trod_struct Tryz.underlying33 h
  rw [cells_bal] at hlen
  obtain ⟨c0, c1, c2, c3, rfl⟩ := list4 hlen
  obtain ⟨y0, y1, y2, y3, rfl⟩ := list4 hxl
  have e0 := hf 0 _ rfl
  have e1 := hf 1 _ rfl
  have e2 := hf 2 _ rfl
  have e3 := hf 3 _ rfl
  change DataW.trod enc Tryz.prog w base spare held n 3 (([c0, c1, c2, c3].drop 0).take (Tryz.prog.cellsOf 3)) = some y0 at e0
  change DataW.trod enc Tryz.prog w base spare held n 9 (([c0, c1, c2, c3].drop 1).take (Tryz.prog.cellsOf 9)) = some y1 at e1
  change DataW.trod enc Tryz.prog w base spare held n 9 (([c0, c1, c2, c3].drop 2).take (Tryz.prog.cellsOf 9)) = some y2 at e2
  change DataW.trod enc Tryz.prog w base spare held n 3 (([c0, c1, c2, c3].drop 3).take (Tryz.prog.cellsOf 3)) = some y3 at e3
  simp only [cells_str] at e1 e2
  simp only [cells_int] at e0 e3
  obtain ⟨k0, g0, _, m0⟩ := DataW.trod_int Tryz.underlying3 e0
  obtain ⟨s1, g1, _, m1⟩ := DataW.trod_string Tryz.underlying9 e1
  obtain ⟨s2, g2, _, m2⟩ := DataW.trod_string Tryz.underlying9 e2
  obtain ⟨k3, g3, _, m3⟩ := DataW.trod_int Tryz.underlying3 e3
  simp at g0 g1 g2 g3
  subst g0 g1 g2 g3
  unfold maxLen at m1 m2
  exact ⟨⟨k0, s1, s2, k3⟩, rfl, wf64 m0, m1, m2, wf64 m3⟩
theorem open_bals {H : Type} {enc : TypeId × Value → H} {w : World} {base : Nat} {spare : Nat → Bool} {held : Bool} {fuel : Nat} {cs : List Value} {x : DataW H × List MemPlace}
    (h : DataW.trod enc Tryz.prog w base spare held fuel 24 cs = some x) :
    ∃ A len cap l, cs = [.slice A len cap] ∧ len ≤ cap ∧ cap ≤ maxLen ∧ Rd w 4 balEnc A len l ∧ BalsOk l ∧ (A = none → cap = 0) :=
  open_recs balEnc BalFits 4 (by omega) (fun _ => rfl) Tryz.underlying24 cells_bal open_bal h
end Go.Proofs.YtggmbjdonlbfkaaGreatDoorBesafter

namespace Go.Proofs.YtggmbjdonlbfkaaGreatDoorBesafter
open Go Go.RowKit Go.Deep Go.ChangeShapes Go.WideShapes
set_option linter.unusedVariables false

theorem bytes_bal : Tryz.prog.bytesOf 33 = 48 := by kernel_rfl
theorem balLen_of_weights {H : Type} {enc : TypeId × Value → H} {w : World} {base : Nat} {spare : Nat → Bool} {held : Bool} {fuel len cap : Nat} {A : Option Addr} {d : DataW H} {pl : List MemPlace}
    (h : DataW.trod enc Tryz.prog w base spare held fuel 24 [.slice A len cap] = some (d, pl)) (hw : (d.weights Tryz.prog 24).all (fun x => decide (x ≤ reachBytes)) = true) : len ≤ 2932031007402 := by
  rcases open_slice Tryz.underlying24 h with ⟨h0, _⟩ | ⟨a, len', cap', m, n, D, Pl, hcs, hb, hl, hm, hmm, hx, _⟩
  · injection h0 with h0 _
    injection h0 with _ h1 _
    omega
  · injection hcs with hcs _
    injection hcs with _ h1 _
    subst h1
    injection hx with hx _
    subst hx
    simp only [DataW.weights, Tryz.underlying24, List.all_cons, Bool.and_eq_true, decide_eq_true_eq, List.length_map, List.length_range, bytes_bal] at hw
    have := hw.1
    unfold reachBytes at this
    omega
end Go.Proofs.YtggmbjdonlbfkaaGreatDoorBesafter
