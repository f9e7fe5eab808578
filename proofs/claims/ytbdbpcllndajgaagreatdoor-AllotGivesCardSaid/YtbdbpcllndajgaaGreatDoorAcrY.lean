/- accrue.Entries: what it returns. -/
import Derived.Test.YtbdbpcllndajgaaGreatDoorAcrX
import Derived.Test.YtbdbpcllndajgaaGreatDoorAcrE
import Derived.Deep.RegionHeld3
import Derived.Test.YtbdbpcllndajgaaGreatDoorRefX
namespace Go.Proofs.YtbdbpcllndajgaaGreatDoor
open Go Go.RowKit
set_option linter.unusedVariables false

def atEA (ent per : Int) : Int := if inB 1 12 ent = true ∧ inB 1 120 per = true then 0 else 1
theorem atA_any (ent per : Int) (w : World) : Calls Tryz.prog 23 #[.int .i64 ent, .int .i64 per] w fun e w' => e = .returned (errV (atEA ent per)) ∧ w = w' := by
  by_cases h1 : ent < 1
  · have hf : atEA ent per = 1 := if_neg (by simp [inB]; omega)
    rw [hf]; clear hf
    go_enter Tryz.func23, Tryz.ntmps23
    go_wp2_with fail
    go_ret
    exact ⟨rfl, rfl⟩
  · by_cases h2 : 12 < ent
    · have hf : atEA ent per = 1 := if_neg (by simp [inB]; omega)
      rw [hf]; clear hf
      have h1' : 1 ≤ ent := by omega
      clear h1
      go_enter Tryz.func23, Tryz.ntmps23
      go_wp2_with fail
      go_ret
      exact ⟨rfl, rfl⟩
    · have h1' : 1 ≤ ent := by omega
      have h2' : ent ≤ 12 := by omega
      have hi : inB 1 12 ent = true := inB_iff.2 ⟨h1', h2'⟩
      cases h3 : inB 1 120 per with
      | true =>
        have hf : atEA ent per = 0 := if_pos ⟨hi, h3⟩
        rw [hf]; clear hf hi h1 h2
        have H3 := hide h3
        clear h3
        go_enter Tryz.func23, Tryz.ntmps23
        go_wp2_with fail
        refine (period_any _ _).mono ?_
        rintro e w1 ⟨rfl, rfl⟩
        rw [H3.out]
        go_wp2_with fail
        go_ret
        exact ⟨rfl, rfl⟩
      | false =>
        have hf : atEA ent per = 1 := if_neg (by rw [h3]; simp)
        rw [hf]; clear hf hi h1 h2
        have H3 := hide h3
        clear h3
        go_enter Tryz.func23, Tryz.ntmps23
        go_wp2_with fail
        refine (period_any _ _).mono ?_
        rintro e w1 ⟨rfl, rfl⟩
        rw [H3.out]
        go_wp2_with fail
        go_ret
        exact ⟨rfl, rfl⟩

/-- the entries of the plans of an entity that have a part in the period -/
def acoreOf (ent per : Int) (dg : ByteArray) (x : Pln) : List Core := if x.ent ≠ ent then [] else if partOf x per = 0 then [] else [(x.ref ++ ⟨#[45]⟩ ++ dg, ent, per, [⟨x.fr, x.cur, partOf x per⟩, ⟨x.to, x.cur, -(partOf x per)⟩])]
def acoresTo (l : List Pln) (ent per : Int) (dg : ByteArray) (k : Nat) : List Core := (l.take k).flatMap (acoreOf ent per dg)
section
variable {l : List Pln} {ent per : Int} {dg : ByteArray} {k : Nat}
theorem acoresTo_succ (hk : k < l.length) : acoresTo l ent per dg (k + 1) = acoresTo l ent per dg k ++ acoreOf ent per dg l[k] := by
  unfold acoresTo
  rw [List.take_succ_eq_append_getElem hk, List.flatMap_append]
  simp
theorem acores_ent (hk : k < l.length) (h : l[k].ent ≠ ent) : acoresTo l ent per dg (k + 1) = acoresTo l ent per dg k := by
  rw [acoresTo_succ hk, acoreOf, if_pos h, List.append_nil]
theorem acores_no (hk : k < l.length) (h : l[k].ent = ent) (h2 : partOf l[k] per = 0) : acoresTo l ent per dg (k + 1) = acoresTo l ent per dg k := by
  rw [acoresTo_succ hk, acoreOf, if_neg (by simpa using h), if_pos h2, List.append_nil]
theorem acores_yes (hk : k < l.length) (h : l[k].ent = ent) (h2 : partOf l[k] per ≠ 0) : acoresTo l ent per dg (k + 1) = acoresTo l ent per dg k ++ [(l[k].ref ++ ⟨#[45]⟩ ++ dg, ent, per, [⟨l[k].fr, l[k].cur, partOf l[k] per⟩, ⟨l[k].to, l[k].cur, -(partOf l[k] per)⟩])] := by
  rw [acoresTo_succ hk, acoreOf, if_neg (by simpa using h), if_neg h2]
theorem acoreOf_len (x : Pln) : (acoreOf ent per dg x).length ≤ 1 := by
  unfold acoreOf
  split
  · simp
  · split <;> simp
theorem acoresTo_len (hk : k ≤ l.length) : (acoresTo l ent per dg k).length ≤ k := by
  induction k with
  | zero => simp [acoresTo]
  | succ k ih =>
    rw [acoresTo_succ (by omega), List.length_append]
    have := ih (by omega)
    have := acoreOf_len (ent := ent) (per := per) (dg := dg) l[k]
    omega
theorem acoreOf_two {x : Pln} (hx : numE x = 0) : ∀ y, y ∈ acoreOf ent per dg x → TwoLine y := by
  intro y hy
  unfold acoreOf at hy
  split at hy
  · cases hy
  · split at hy
    · cases hy
    · obtain rfl := List.mem_singleton.1 hy
      have := partOf_small (period := per) hx
      exact ⟨x.fr, x.to, x.cur, -(partOf x per), by rw [Int.neg_neg], by omega, by omega⟩
theorem acoresTo_two (hl : ∀ x, x ∈ l → numE x = 0) : ∀ y, y ∈ acoresTo l ent per dg k → TwoLine y := by
  intro y hy
  obtain ⟨x, hx, hy⟩ := List.mem_flatMap.1 hy
  exact acoreOf_two (hl x (List.mem_of_mem_take hx)) y hy
end
theorem cores_lenA {es : List Ent} {l : List Core} (h : es.map Ent.core = l) : es.length = l.length := by rw [← h, List.length_map]

/-- an entry is ready to be taken up: its lines lie in one block, it lies in another -/
structure Rdy (w W : World) (B g : Nat) (x : Pln) (ov : Value) (es : List Ent) (E : Ent) (eb : Nat) : Prop where
  pk : Pack W B ov es
  rE : Rd W 4 Ent.enc (some ⟨eb, 0, none⟩) 1 [E]
  rL : Rd W 3 lineEnc E.A E.n E.lines ∧ E.n ≤ 20
  pa : PlnAt W g x
  bl : Below B w W
  gv : ov.ownBlock ≠ some g
  lb : ∃ b off, E.A = some ⟨b, off, none⟩ ∧ b < W.heap.size ∧ ov.ownBlock ≠ some b
theorem Rdy.make {w W0 W1 : World} {B g : Nat} {x : Pln} {ov : Value} {es : List Ent} (n : Int) (ref : ByteArray) (ent per : Int) (hB : Below B w W0) (hBs : B ≤ w.heap.size) (hpk : Pack W0 B ov es) (hpa : PlnAt W0 g x) (hgv : ov.ownBlock ≠ some g)
    (h1 : Below (W0.alloc (.cells #[.string x.fr, .string x.cur, .int .i64 n, .string x.to, .string x.cur, .int .i64 (-n)] 59)).heap.size (W0.alloc (.cells #[.string x.fr, .string x.cur, .int .i64 n, .string x.to, .string x.cur, .int .i64 (-n)] 59)) W1) :
    Rdy w (W1.alloc (.cells #[.string ref, .int .i64 ent, .int .i64 per, .slice (some ⟨W0.heap.size, 0, none⟩) 2 2] 57)) B g x ov es ⟨ref, ent, per, some ⟨W0.heap.size, 0, none⟩, 2, 2, [⟨x.fr, x.cur, n⟩, ⟨x.to, x.cur, -n⟩]⟩ W1.heap.size := by
  have hA : Below W0.heap.size W0 (W0.alloc (.cells #[.string x.fr, .string x.cur, .int .i64 n, .string x.to, .string x.cur, .int .i64 (-n)] 59)) := (Below.refl _ _).alloc (Nat.le_refl _) _
  have hs : (W0.alloc (.cells #[.string x.fr, .string x.cur, .int .i64 n, .string x.to, .string x.cur, .int .i64 (-n)] 59)).heap.size = W0.heap.size + 1 := by simp
  have h2 : Below W1.heap.size W1 (W1.alloc (.cells #[.string ref, .int .i64 ent, .int .i64 per, .slice (some ⟨W0.heap.size, 0, none⟩) 2 2] 57)) := (Below.refl _ _).alloc (Nat.le_refl _) _
  have hR : Rd (W0.alloc (.cells #[.string x.fr, .string x.cur, .int .i64 n, .string x.to, .string x.cur, .int .i64 (-n)] 59)) 3 lineEnc (some ⟨W0.heap.size, 0, none⟩) 2 [⟨x.fr, x.cur, n⟩, ⟨x.to, x.cur, -n⟩] := Rd.lit W0 lineEnc_ok [⟨x.fr, x.cur, n⟩, ⟨x.to, x.cur, -n⟩] 2 rfl _ _ rfl
  have h3 := h1.size
  have h4 := h2.size
  refine ⟨((hpk.below hA).below h1).below h2, Rd.boxed W1 entEnc_okA ⟨ref, ent, per, some ⟨W0.heap.size, 0, none⟩, 2, 2, [⟨x.fr, x.cur, n⟩, ⟨x.to, x.cur, -n⟩]⟩ _ _ rfl, ⟨(hR.below h1).below h2, by show 2 ≤ 20; omega⟩, ((hpa.below hA).below h1).below h2, ?_, hgv, W0.heap.size, 0, rfl, by omega, fun e => ?_⟩
  · exact ((hB.trans (hA.mono (Nat.le_trans hBs hB.size))).trans (h1.mono (by have := hB.size; omega))).trans (h2.mono (by have := hB.size; omega))
  · have := (hpk.own.block _ e).2
    omega
theorem Rdy.done {w W w7 : World} {B g : Nat} {x : Pln} {ov v' : Value} {es : List Ent} {E : Ent} {eb : Nat} (h : Rdy w W B g x ov es E eb) (hBs : B ≤ w.heap.size)
    (hown : Own w7 B 57 4 Ent.enc v' (es ++ [E])) (hg : W.grownBy w7 ov.ownBlock) (hat : v'.ownBlock = ov.ownBlock ∨ v'.ownBlock = some W.heap.size) :
    Pack w7 B v' (es ++ [E]) ∧ Below B w w7 ∧ PlnAt w7 g x := by
  obtain ⟨b, off, h1, h2, h3⟩ := h.lb
  exact ⟨h.pk.push hown hg hat h.rL.1 h.rL.2 h1 h2 h3, h.bl.grown hg (Nat.le_trans hBs h.bl.size) (fun q e => (h.pk.own.block q e).1), h.pa.grown hg h.gv⟩
def CellsP (w : World) (g : Nat) (x : Pln) : Prop := w.cell? ⟨g, 0, none⟩ = some (.string x.ref) ∧ w.cell? ⟨g, 2, none⟩ = some (.string x.fr) ∧ w.cell? ⟨g, 3, none⟩ = some (.string x.to) ∧ w.cell? ⟨g, 4, none⟩ = some (.string x.cur)
theorem PlnAt.four {w : World} {g : Nat} {x : Pln} (h : PlnAt w g x) : w.cell? ⟨g, 0, none⟩ = some (.string x.ref) ∧ w.cell? ⟨g, 2, none⟩ = some (.string x.fr) ∧ w.cell? ⟨g, 3, none⟩ = some (.string x.to) ∧ w.cell? ⟨g, 4, none⟩ = some (.string x.cur) := ⟨h.c0, h.c2, h.c3, h.c4⟩
theorem keepP {w : World} {g : Nat} {x : Pln} (o' : Obj) (h : w.cell? ⟨g, 0, none⟩ = some (.string x.ref) ∧ w.cell? ⟨g, 2, none⟩ = some (.string x.fr) ∧ w.cell? ⟨g, 3, none⟩ = some (.string x.to) ∧ w.cell? ⟨g, 4, none⟩ = some (.string x.cur)) :
    (w.alloc o').cell? ⟨g, 0, none⟩ = some (.string x.ref) ∧ (w.alloc o').cell? ⟨g, 2, none⟩ = some (.string x.fr) ∧ (w.alloc o').cell? ⟨g, 3, none⟩ = some (.string x.to) ∧ (w.alloc o').cell? ⟨g, 4, none⟩ = some (.string x.cur) :=
  have k : ∀ {b o : Nat} {u : Value}, w.cell? ⟨b, o, none⟩ = some u → (w.alloc o').cell? ⟨b, o, none⟩ = some u := fun hc => below_cell ((Below.refl w.heap.size w).alloc (Nat.le_refl _) _) (World.block_lt_of_cell? _ _ hc) hc
  ⟨k h.1, k h.2.1, k h.2.2.1, k h.2.2.2⟩

end Go.Proofs.YtbdbpcllndajgaaGreatDoor

namespace Go.Proofs.YtbdbpcllndajgaaGreatDoor
open Go Go.RowKit
set_option linter.unusedVariables false

theorem refWhen_any (ent per : Int) (w : World) : Calls Tryz.prog 18 #[.int .i64 ent, .int .i64 per] w fun e w' => e = .returned (.int .i64 (atEA ent per)) ∧ w = w' := by
  cases h1 : inB 1 12 ent <;> cases h2 : inB 1 120 per
  all_goals
    have H1 := hide h1
    have H2 := hide h2
    clear h1 h2
    go_enter Tryz.func18, Tryz.ntmps18
    go_wp2_with fail
    refine (refEntity_any _ _).mono ?_
    rintro e w1 ⟨rfl, rfl⟩
    rw [H1.out]
    go_wp2_with fail
    refine (refPeriod_any _ _).mono ?_
    rintro e w1 ⟨rfl, rfl⟩
    rw [H2.out]
    go_wp2_with fail
    go_ret
    exact ⟨by unfold atEA; rw [H1.out, H2.out]; rfl, rfl⟩

end Go.Proofs.YtbdbpcllndajgaaGreatDoor
