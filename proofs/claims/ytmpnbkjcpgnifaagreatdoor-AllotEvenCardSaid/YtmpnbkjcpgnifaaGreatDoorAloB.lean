/- allot.Entries: what it returns, in plain words; an entry under construction. -/
import Derived.Test.YtmpnbkjcpgnifaaGreatDoorAloA
import Derived.Test.YtmpnbkjcpgnifaaGreatDoorAcrE
import Derived.Test.YtmpnbkjcpgnifaaGreatDoorBalX
import Derived.Test.YtmpnbkjcpgnifaaGreatDoorEntX
import Derived.Deep.RegionHeld3
import Derived.BigRegion
import Derived.Deep.CutRange
namespace Go.Proofs.YtmpnbkjcpgnifaaGreatDoor
open Go Go.RowKit
set_option linter.unusedVariables false

def atEL (ent per : Int) : Int := if inB 1 12 ent = true ∧ inB 1 120 per = true then 0 else 1
theorem atL_any (ent per : Int) (w : World) : Calls Tryz.prog 12 #[.int .i64 ent, .int .i64 per] w fun e w' => e = .returned (errV (atEL ent per)) ∧ w = w' := by
  by_cases h1 : ent < 1
  · have hf : atEL ent per = 1 := if_neg (by simp [inB]; omega)
    rw [hf]; clear hf
    go_enter Tryz.func12, Tryz.ntmps12
    go_wp2_with fail
    go_ret
    exact ⟨rfl, rfl⟩
  · by_cases h2 : 12 < ent
    · have hf : atEL ent per = 1 := if_neg (by simp [inB]; omega)
      rw [hf]; clear hf
      have h1' : 1 ≤ ent := by omega
      clear h1
      go_enter Tryz.func12, Tryz.ntmps12
      go_wp2_with fail
      go_ret
      exact ⟨rfl, rfl⟩
    · have h1' : 1 ≤ ent := by omega
      have h2' : ent ≤ 12 := by omega
      have hi : inB 1 12 ent = true := by unfold inB; simp; omega
      cases h3 : inB 1 120 per with
      | true =>
        have hf : atEL ent per = 0 := if_pos ⟨hi, h3⟩
        rw [hf]; clear hf hi h1 h2
        have H3 := hide h3
        clear h3
        go_enter Tryz.func12, Tryz.ntmps12
        go_wp2_with fail
        refine (period_any _ _).mono ?_
        rintro e w1 ⟨rfl, rfl⟩
        rw [H3.out]
        go_wp2_with fail
        go_ret
        exact ⟨rfl, rfl⟩
      | false =>
        have hf : atEL ent per = 1 := if_neg (by rw [h3]; simp)
        rw [hf]; clear hf hi h1 h2
        have H3 := hide h3
        clear h3
        go_enter Tryz.func12, Tryz.ntmps12
        go_wp2_with fail
        refine (period_any _ _).mono ?_
        rintro e w1 ⟨rfl, rfl⟩
        rw [H3.out]
        go_wp2_with fail
        go_ret
        exact ⟨rfl, rfl⟩
theorem atEL_range (ent per : Int) : 0 ≤ atEL ent per ∧ atEL ent per ≤ 12 := by unfold atEL; split <;> omega

theorem poolsE_0 {c : List Acc} {l : List Pol} (h : poolsE c l = 0) : chartE c = 0 ∧ l.length ≤ 20 ∧ ∀ (k : Nat) (hk : k < l.length), poolE c l[k] = 0 := by
  by_cases h1 : chartE c = 0
  · by_cases h2 : 20 < l.length
    · rw [poolsE_2 h1 h2] at h; cases h
    · rw [poolsE_3 h1 h2] at h
      exact ⟨h1, by omega, fun k hk => by rw [← poolAt_some hk]; exact firstE_0 h k hk⟩
  · rw [poolsE_1 h1] at h; exact absurd h h1
theorem poolE_0 {c : List Acc} {p : Pol} (h : poolE c p = 0) : leafE c p.acc = 0 ∧ curB p.cur = true ∧ 0 < p.to.length ∧ p.to.length = p.ws.length ∧ p.to.length ≤ 19 ∧ firstE (toAt c p) p.to.length = 0 ∧ shE p.ws = 0 := by
  unfold poolE at h
  split at h
  · rename_i h1; exact absurd h h1
  · rename_i h1
    split at h
    · cases h
    · rename_i h2
      split at h
      · cases h
      · rename_i h3
        split at h
        · cases h
        · rename_i h4
          split at h
          · rename_i h5; exact absurd h h5
          · rename_i h5
            exact ⟨by simpa using h1, by simpa using h2, by omega, by omega, by omega, by simpa using h5, h⟩
/-- what is wrong with what a pool has -/
def haveE (l : List Pol) (b : List Bal) (ent : Int) (k : Nat) : Int := match l[k]? with | none => 0 | some p => if getB b ent p.acc p.cur ≠ 0 ∧ inB (-1000000000000000) 1000000000000000 (getB b ent p.acc p.cur) = false then 1 else 0
def allotE (c : List Acc) (l : List Pol) (b : List Bal) (ent per : Int) : Int := if poolsE c l ≠ 0 then poolsE c l else if balsE b ≠ 0 then balsE b else if atEL ent per ≠ 0 then atEL ent per else firstE (haveE l b ent) l.length
/-- the entry of a pool -/
def giveCore (ent per : Int) (ref : ByteArray) (p : Pol) (n : Int) (out : List Int) : Core := (ref, ent, per, ⟨p.acc, p.cur, -n⟩ :: giveTo p out p.to.length)
def refL : ByteArray := ⟨#[97, 108, 108, 111, 116, 45]⟩
/-- what the first pools have given -/
inductive GaveTo (l : List Pol) (b : List Bal) (ent per : Int) (dg : Nat → ByteArray) : Nat → List Core → Prop
  | zero : GaveTo l b ent per dg 0 []
  | skip {k : Nat} {cs : List Core} (h : GaveTo l b ent per dg k cs) (hk : k < l.length) (h0 : getB b ent l[k].acc l[k].cur = 0) : GaveTo l b ent per dg (k + 1) cs
  | give {k : Nat} {cs : List Core} (h : GaveTo l b ent per dg k cs) (hk : k < l.length) (h0 : getB b ent l[k].acc l[k].cur ≠ 0) (h1 : inB (-1000000000000000) 1000000000000000 (getB b ent l[k].acc l[k].cur) = true) {out : List Int} (hs : Shared (getB b ent l[k].acc l[k].cur) l[k].ws out) : GaveTo l b ent per dg (k + 1) (cs ++ [giveCore ent per (refL ++ dg k) l[k] (getB b ent l[k].acc l[k].cur) out])
theorem GaveTo.len {l : List Pol} {b : List Bal} {ent per : Int} {dg : Nat → ByteArray} {k : Nat} {cs : List Core} (h : GaveTo l b ent per dg k cs) : cs.length ≤ k := by
  induction h with
  | zero => simp
  | skip _ _ _ ih => omega
  | give _ _ _ _ _ ih => rw [List.length_append]; simp; omega
section
variable {c : List Acc} {l : List Pol} {b : List Bal} {ent per : Int} {k : Nat}
theorem have_0 (hk : k < l.length) (h : getB b ent l[k].acc l[k].cur = 0) : haveE l b ent k = 0 := by
  unfold haveE; rw [List.getElem?_eq_getElem hk]; exact if_neg (by rw [h]; simp)
theorem have_in (hk : k < l.length) (h : inB (-1000000000000000) 1000000000000000 (getB b ent l[k].acc l[k].cur) = true) : haveE l b ent k = 0 := by
  unfold haveE; rw [List.getElem?_eq_getElem hk]; exact if_neg (by rw [h]; simp)
theorem have_1 (hk : k < l.length) (h0 : getB b ent l[k].acc l[k].cur ≠ 0) (h : inB (-1000000000000000) 1000000000000000 (getB b ent l[k].acc l[k].cur) = false) : haveE l b ent k = 1 := by
  unfold haveE; rw [List.getElem?_eq_getElem hk]; exact if_pos ⟨h0, h⟩
theorem haveE_range (l : List Pol) (b : List Bal) (ent : Int) (k : Nat) : 0 ≤ haveE l b ent k ∧ haveE l b ent k ≤ 12 := by
  unfold haveE
  split
  · omega
  · split <;> omega
theorem allotE_range (c : List Acc) (l : List Pol) (b : List Bal) (ent per : Int) : 0 ≤ allotE c l b ent per ∧ allotE c l b ent per ≤ 12 := by
  unfold allotE
  split
  · exact poolsE_range c l
  · split
    · exact balsE_range b
    · split
      · exact atEL_range ent per
      · exact firstE_range (haveE_range l b ent) _
theorem allotE_1 (h : poolsE c l ≠ 0) : allotE c l b ent per = poolsE c l := if_pos h
theorem allotE_2 (h : poolsE c l = 0) (h2 : balsE b ≠ 0) : allotE c l b ent per = balsE b := by rw [allotE, if_neg (by simpa using h), if_pos h2]
theorem allotE_3 (h : poolsE c l = 0) (h2 : balsE b = 0) (h3 : atEL ent per ≠ 0) : allotE c l b ent per = atEL ent per := by rw [allotE, if_neg (by simpa using h), if_neg (by simpa using h2), if_pos h3]
theorem allotE_4 (h : poolsE c l = 0) (h2 : balsE b = 0) (h3 : atEL ent per = 0) : allotE c l b ent per = firstE (haveE l b ent) l.length := by rw [allotE, if_neg (by simpa using h), if_neg (by simpa using h2), if_neg (by simpa using h3)]
theorem allotE_hit (h : poolsE c l = 0) (h2 : balsE b = 0) (h3 : atEL ent per = 0) (hk : k < l.length) (hto : firstE (haveE l b ent) k = 0) (he : haveE l b ent k = 1) : allotE c l b ent per = 1 := by
  rw [allotE_4 h h2 h3, firstE_hit hto hk (by rw [he]; decide), he]
end

theorem Own.lit1 {α : Type} {enc : α → List Value} {sz : Nat} (he : Enc sz enc) (w : World) (B : Nat) (e : TypeId) (x : α) (cs : Array Value) (hcs : cs.toList = enc x) (hB : B ≤ w.heap.size) : Own (w.alloc (.cells cs e)) B e sz enc (.slice (some ⟨w.heap.size, 0, none⟩) 1 1) [x] := by
  have hl := he.len x
  rw [← hcs] at hl
  refine ⟨by rw [flatMap_len he], .inr ⟨w.heap.size, 1, cs, rfl, hB, by rw [heap_alloc_new], by simp, by unfold maxLen; simp, by simpa using hl, ?_⟩⟩
  rw [hcs] at hl
  rw [hcs, List.flatMap_cons, List.flatMap_nil, List.append_nil, List.take_of_length_le (by rw [hl]; simp)]
/-- an entry that is being built, in block g; its lines lie apart; so do the shares -/
structure Bld (W0 W : World) (g : Nat) (ref : ByteArray) (ent per : Int) (v : Value) (ls : List Line) (SA : Option Addr) (out : List Int) : Prop where
  bl : Below W0.heap.size W0 W
  c0 : W.cell? ⟨g, 0, none⟩ = some (.string ref)
  c1 : W.cell? ⟨g, 1, none⟩ = some (.int .i64 ent)
  c2 : W.cell? ⟨g, 2, none⟩ = some (.int .i64 per)
  c3 : W.cell? ⟨g, 3, none⟩ = some v
  fz : W.frozen? ⟨g, 3, none⟩ = false
  ow : Own W W0.heap.size 42 3 lineEnc v ls
  gB : W0.heap.size ≤ g
  vg : v.ownBlock ≠ some g
  rS : Rd W 1 intEnc2 SA out.length out
  sb : ∀ q off s, SA = some ⟨q, off, s⟩ → q < W.heap.size ∧ q ≠ g ∧ v.ownBlock ≠ some q
theorem Bld.below {W0 W W' : World} {g : Nat} {ref : ByteArray} {ent per : Int} {v : Value} {ls : List Line} {SA : Option Addr} {out : List Int} (h : Bld W0 W g ref ent per v ls SA out) (hb : Below W.heap.size W W') : Bld W0 W' g ref ent per v ls SA out := by
  have hg := World.block_lt_of_cell? _ _ h.c0
  exact ⟨h.bl.trans (hb.mono h.bl.size), below_cell hb hg h.c0, below_cell hb hg h.c1, below_cell hb hg h.c2, below_cell hb hg h.c3, (hb.frozen (p := ⟨g, 3, none⟩) hg).trans h.fz, h.ow.below hb, h.gB, h.vg, h.rS.below hb, fun q off s e => ⟨Nat.lt_of_lt_of_le (h.sb q off s e).1 hb.size, (h.sb q off s e).2⟩⟩
theorem Bld.make {W0 Wa W1 : World} (ref : ByteArray) (ent per : Int) (y : Line) (h0 : Below W0.heap.size W0 Wa) (h1 : Below (Wa.alloc (.cells #[.string y.acc, .string y.cur, .int .i64 y.amt] 42)).heap.size (Wa.alloc (.cells #[.string y.acc, .string y.cur, .int .i64 y.amt] 42)) W1) :
    Bld W0 (W1.alloc (.cells #[.string ref, .int .i64 ent, .int .i64 per, .slice (some ⟨Wa.heap.size, 0, none⟩) 1 1] 40)) W1.heap.size ref ent per (.slice (some ⟨Wa.heap.size, 0, none⟩) 1 1) [y] none [] := by
  have hA : Below Wa.heap.size Wa (Wa.alloc (.cells #[.string y.acc, .string y.cur, .int .i64 y.amt] 42)) := (Below.refl _ _).alloc (Nat.le_refl _) _
  have hs : (Wa.alloc (.cells #[.string y.acc, .string y.cur, .int .i64 y.amt] 42)).heap.size = Wa.heap.size + 1 := by simp
  have hO := Own.lit1 lineEnc_ok Wa W0.heap.size 42 y #[.string y.acc, .string y.cur, .int .i64 y.amt] rfl h0.size
  have h2 : Below W1.heap.size W1 (W1.alloc (.cells #[.string ref, .int .i64 ent, .int .i64 per, .slice (some ⟨Wa.heap.size, 0, none⟩) 1 1] 40)) := (Below.refl _ _).alloc (Nat.le_refl _) _
  have h3 := h1.size
  have h4 := h0.size
  refine ⟨((h0.trans (hA.mono h4)).trans (h1.mono (by omega))).trans (h2.mono (by omega)), by simp, by simp, by simp, by simp, by simp, (hO.below h1).below h2, by omega, fun e => ?_, ⟨rfl, fun h => absurd h (by simp)⟩, fun q off s e => by cases e⟩
  have e : some Wa.heap.size = some W1.heap.size := e
  injection e with e
  omega
theorem heap_of_cellsL {w : World} {g : Nat} {cs : Array Value} {e : TypeId} (h : w.heap[g]? = some (.cells cs e (0, 0))) (k : Nat) : w.cell? ⟨g, k, none⟩ = cs[k]? := cell_of_row w g k cs e (0, 0) h
theorem heap_ltL {w : World} {g : Nat} {o : Obj} (h : w.heap[g]? = some o) : g < w.heap.size := by
  rcases Nat.lt_or_ge g w.heap.size with hlt | hge
  · exact hlt
  · rw [Array.getElem?_eq_none hge] at h; cases h
theorem heap_keepL {w : World} {g : Nat} {o o' : Obj} (h : w.heap[g]? = some o) : (w.alloc o').heap[g]? = some o := (((Below.refl w.heap.size w).alloc (Nat.le_refl _) o').block g (heap_ltL h)).trans h
/-- from the two blocks -/
theorem Bld.of {W0 W : World} {g lb : Nat} {ref : ByteArray} {ent per : Int} {y : Line} (hb : Below W0.heap.size W0 W) (hg : W.heap[g]? = some (.cells #[.string ref, .int .i64 ent, .int .i64 per, .slice (some ⟨lb, 0, none⟩) 1 1] 40)) (hl : W.heap[lb]? = some (.cells #[.string y.acc, .string y.cur, .int .i64 y.amt] 42)) (h0 : W0.heap.size ≤ g) (h1 : W0.heap.size ≤ lb) (hne : lb ≠ g) :
    Bld W0 W g ref ent per (.slice (some ⟨lb, 0, none⟩) 1 1) [y] none [] := by
  refine ⟨hb, heap_of_cellsL hg 0, heap_of_cellsL hg 1, heap_of_cellsL hg 2, heap_of_cellsL hg 3, frozen_of_row W g 3 _ _ hg, ⟨rfl, .inr ⟨lb, 1, #[.string y.acc, .string y.cur, .int .i64 y.amt], rfl, h1, hl, by simp, by unfold maxLen; simp, rfl, rfl⟩⟩, h0, fun e => hne (Option.some.inj e), ⟨rfl, fun h => absurd h (by simp)⟩, fun q off s e => by cases e⟩
theorem put4L {W : World} {g : Nat} {a b c d : Value} (h : W.heap[g]? = some (.cells #[.string ⟨#[]⟩, .int .i64 0, .int .i64 0, .slice none 0 0] 40)) : ((((W.setCell ⟨g, 0, none⟩ a).setCell ⟨g, 1, none⟩ b).setCell ⟨g, 2, none⟩ c).setCell ⟨g, 3, none⟩ d).heap[g]? = some (.cells #[a, b, c, d] 40) :=
  heap_setCell_same _ g _ _ _ _ (heap_setCell_same _ g _ _ _ _ (heap_setCell_same _ g _ _ _ _ (heap_setCell_same _ g _ _ _ _ h)))
theorem other4L {W : World} {g q : Nat} {a b c d : Value} {o : Obj} (h : W.heap[q]? = some o) (hne : q ≠ g) : ((((W.setCell ⟨g, 0, none⟩ a).setCell ⟨g, 1, none⟩ b).setCell ⟨g, 2, none⟩ c).setCell ⟨g, 3, none⟩ d).heap[q]? = some o :=
  (Below.heap_setCell _ ⟨g, 3, none⟩ _ q hne).trans ((Below.heap_setCell _ ⟨g, 2, none⟩ _ q hne).trans ((Below.heap_setCell _ ⟨g, 1, none⟩ _ q hne).trans ((Below.heap_setCell _ ⟨g, 0, none⟩ _ q hne).trans h)))
theorem below4L {W0 W : World} {B g : Nat} {a b c d : Value} (h : Below B W0 W) (hg : B ≤ g) : Below B W0 ((((W.setCell ⟨g, 0, none⟩ a).setCell ⟨g, 1, none⟩ b).setCell ⟨g, 2, none⟩ c).setCell ⟨g, 3, none⟩ d) := (((h.setCell hg _).setCell hg _).setCell hg _).setCell hg _
section
variable {W0 w3 : World} {ref : ByteArray} {ent per : Int} {y : Line}
theorem al1L (w : World) (o : Obj) : Below w.heap.size w (w.alloc o) := (Below.refl _ _).alloc (Nat.le_refl _) _
theorem asL (w : World) (o : Obj) : (w.alloc o).heap.size = w.heap.size + 1 := by simp
theorem zfL {w : World} {g : Nat} (h : w.heap[g]? = some (.cells #[.string ⟨#[]⟩, .int .i64 0, .int .i64 0, .slice none 0 0] 40)) : w.cell? ⟨g, 0, none⟩ = some (.string ⟨#[]⟩) ∧ w.cell? ⟨g, 1, none⟩ = some (.int .i64 0) ∧ w.cell? ⟨g, 2, none⟩ = some (.int .i64 0) ∧ w.cell? ⟨g, 3, none⟩ = some (.slice none 0 0) ∧ w.frozen? ⟨g, 0, none⟩ = false ∧ w.frozen? ⟨g, 1, none⟩ = false ∧ w.frozen? ⟨g, 2, none⟩ = false ∧ w.frozen? ⟨g, 3, none⟩ = false :=
  ⟨heap_of_cellsL h 0, heap_of_cellsL h 1, heap_of_cellsL h 2, heap_of_cellsL h 3, frozen_of_row w g 0 _ _ h, frozen_of_row w g 1 _ _ h, frozen_of_row w g 2 _ _ h, frozen_of_row w g 3 _ _ h⟩
theorem zb2L {W0 w3 : World} (h : Below (W0.alloc (.cells #[.string ⟨#[]⟩, .int .i64 0, .int .i64 0, .slice none 0 0] 40)).heap.size (W0.alloc (.cells #[.string ⟨#[]⟩, .int .i64 0, .int .i64 0, .slice none 0 0] 40)) w3) : w3.heap[W0.heap.size]? = some (.cells #[.string ⟨#[]⟩, .int .i64 0, .int .i64 0, .slice none 0 0] 40) := by
  have e := heap_alloc_new W0 (.cells #[.string ⟨#[]⟩, .int .i64 0, .int .i64 0, .slice none 0 0] 40)
  exact (h.block _ (heap_ltL e)).trans e
theorem zb3L {W0 w3 : World} {o : Obj} (h : Below ((W0.alloc o).alloc (.cells #[.string ⟨#[]⟩, .int .i64 0, .int .i64 0, .slice none 0 0] 40)).heap.size ((W0.alloc o).alloc (.cells #[.string ⟨#[]⟩, .int .i64 0, .int .i64 0, .slice none 0 0] 40)) w3) : w3.heap[W0.heap.size + 1]? = some (.cells #[.string ⟨#[]⟩, .int .i64 0, .int .i64 0, .slice none 0 0] 40) := by
  have e := heap_alloc_new (W0.alloc o) (.cells #[.string ⟨#[]⟩, .int .i64 0, .int .i64 0, .slice none 0 0] 40)
  rw [asL] at e
  exact (h.block _ (heap_ltL e)).trans e
theorem zb4L {W0 w3 : World} {o : Obj} (h : Below ((W0.alloc (.cells #[.string ⟨#[]⟩, .int .i64 0, .int .i64 0, .slice none 0 0] 40)).alloc o).heap.size ((W0.alloc (.cells #[.string ⟨#[]⟩, .int .i64 0, .int .i64 0, .slice none 0 0] 40)).alloc o) w3) : w3.heap[W0.heap.size]? = some (.cells #[.string ⟨#[]⟩, .int .i64 0, .int .i64 0, .slice none 0 0] 40) := by
  have e := heap_keepL (o' := o) (heap_alloc_new W0 (.cells #[.string ⟨#[]⟩, .int .i64 0, .int .i64 0, .slice none 0 0] 40))
  exact (h.block _ (heap_ltL e)).trans e
theorem Bld.o3 (h : Below W0.heap.size W0 w3) : Bld W0 ((((((w3.alloc (.cells #[.string ⟨#[]⟩, .int .i64 0, .int .i64 0, .slice none 0 0] 40)).alloc (.cells #[.string y.acc, .string y.cur, .int .i64 y.amt] 42)).setCell ⟨w3.heap.size, 0, none⟩ (.string ref)).setCell ⟨w3.heap.size, 1, none⟩ (.int .i64 ent)).setCell ⟨w3.heap.size, 2, none⟩ (.int .i64 per)).setCell ⟨w3.heap.size, 3, none⟩ (.slice (some ⟨w3.heap.size + 1, 0, none⟩) 1 1)) w3.heap.size ref ent per (.slice (some ⟨w3.heap.size + 1, 0, none⟩) 1 1) [y] none [] := by
  have s := h.size
  have e1 := heap_keepL (o' := (.cells #[.string y.acc, .string y.cur, .int .i64 y.amt] 42)) (heap_alloc_new w3 (.cells #[.string ⟨#[]⟩, .int .i64 0, .int .i64 0, .slice none 0 0] 40))
  have e2 := heap_alloc_new (w3.alloc (.cells #[.string ⟨#[]⟩, .int .i64 0, .int .i64 0, .slice none 0 0] 40)) (.cells #[.string y.acc, .string y.cur, .int .i64 y.amt] 42)
  rw [asL] at e2
  exact Bld.of (below4L (h.trans (((al1L w3 (.cells #[.string ⟨#[]⟩, .int .i64 0, .int .i64 0, .slice none 0 0] 40)).trans ((al1L _ (.cells #[.string y.acc, .string y.cur, .int .i64 y.amt] 42)).mono (by simp))).mono s)) s) (put4L e1) (other4L e2 (by omega)) s (by omega) (by omega)
theorem Bld.o4 (h : Below ((W0.alloc (.cells #[.string y.acc, .string y.cur, .int .i64 y.amt] 42)).alloc (.cells #[.string ⟨#[]⟩, .int .i64 0, .int .i64 0, .slice none 0 0] 40)).heap.size ((W0.alloc (.cells #[.string y.acc, .string y.cur, .int .i64 y.amt] 42)).alloc (.cells #[.string ⟨#[]⟩, .int .i64 0, .int .i64 0, .slice none 0 0] 40)) w3) : Bld W0 ((((w3.setCell ⟨W0.heap.size + 1, 0, none⟩ (.string ref)).setCell ⟨W0.heap.size + 1, 1, none⟩ (.int .i64 ent)).setCell ⟨W0.heap.size + 1, 2, none⟩ (.int .i64 per)).setCell ⟨W0.heap.size + 1, 3, none⟩ (.slice (some ⟨W0.heap.size, 0, none⟩) 1 1)) (W0.heap.size + 1) ref ent per (.slice (some ⟨W0.heap.size, 0, none⟩) 1 1) [y] none [] := by
  have e1 := heap_alloc_new (W0.alloc (.cells #[.string y.acc, .string y.cur, .int .i64 y.amt] 42)) (.cells #[.string ⟨#[]⟩, .int .i64 0, .int .i64 0, .slice none 0 0] 40)
  have e2 := heap_keepL (o' := (.cells #[.string ⟨#[]⟩, .int .i64 0, .int .i64 0, .slice none 0 0] 40)) (heap_alloc_new W0 (.cells #[.string y.acc, .string y.cur, .int .i64 y.amt] 42))
  rw [asL] at e1
  have e1 := (h.block _ (heap_ltL e1)).trans e1
  have e2 := (h.block _ (heap_ltL e2)).trans e2
  exact Bld.of (below4L (((al1L W0 (.cells #[.string y.acc, .string y.cur, .int .i64 y.amt] 42)).trans ((al1L _ (.cells #[.string ⟨#[]⟩, .int .i64 0, .int .i64 0, .slice none 0 0] 40)).mono (by simp))).trans (h.mono (by simp; omega))) (by omega)) (put4L e1) (other4L e2 (by omega)) (by omega) (by omega) (by omega)
theorem Bld.o5 (h : Below ((W0.alloc (.cells #[.string ⟨#[]⟩, .int .i64 0, .int .i64 0, .slice none 0 0] 40)).alloc (.cells #[.string y.acc, .string y.cur, .int .i64 y.amt] 42)).heap.size ((W0.alloc (.cells #[.string ⟨#[]⟩, .int .i64 0, .int .i64 0, .slice none 0 0] 40)).alloc (.cells #[.string y.acc, .string y.cur, .int .i64 y.amt] 42)) w3) : Bld W0 ((((w3.setCell ⟨W0.heap.size, 0, none⟩ (.string ref)).setCell ⟨W0.heap.size, 1, none⟩ (.int .i64 ent)).setCell ⟨W0.heap.size, 2, none⟩ (.int .i64 per)).setCell ⟨W0.heap.size, 3, none⟩ (.slice (some ⟨W0.heap.size + 1, 0, none⟩) 1 1)) W0.heap.size ref ent per (.slice (some ⟨W0.heap.size + 1, 0, none⟩) 1 1) [y] none [] := by
  have e1 := heap_keepL (o' := (.cells #[.string y.acc, .string y.cur, .int .i64 y.amt] 42)) (heap_alloc_new W0 (.cells #[.string ⟨#[]⟩, .int .i64 0, .int .i64 0, .slice none 0 0] 40))
  have e2 := heap_alloc_new (W0.alloc (.cells #[.string ⟨#[]⟩, .int .i64 0, .int .i64 0, .slice none 0 0] 40)) (.cells #[.string y.acc, .string y.cur, .int .i64 y.amt] 42)
  rw [asL] at e2
  have e1 := (h.block _ (heap_ltL e1)).trans e1
  have e2 := (h.block _ (heap_ltL e2)).trans e2
  exact Bld.of (below4L (((al1L W0 (.cells #[.string ⟨#[]⟩, .int .i64 0, .int .i64 0, .slice none 0 0] 40)).trans ((al1L _ (.cells #[.string y.acc, .string y.cur, .int .i64 y.amt] 42)).mono (by simp))).trans (h.mono (by simp; omega))) (by omega)) (put4L e1) (other4L e2 (by omega)) (by omega) (by omega) (by omega)
theorem Bld.o6 (h : Below (W0.alloc (.cells #[.string ⟨#[]⟩, .int .i64 0, .int .i64 0, .slice none 0 0] 40)).heap.size (W0.alloc (.cells #[.string ⟨#[]⟩, .int .i64 0, .int .i64 0, .slice none 0 0] 40)) w3) : Bld W0 (((((w3.alloc (.cells #[.string y.acc, .string y.cur, .int .i64 y.amt] 42)).setCell ⟨W0.heap.size, 0, none⟩ (.string ref)).setCell ⟨W0.heap.size, 1, none⟩ (.int .i64 ent)).setCell ⟨W0.heap.size, 2, none⟩ (.int .i64 per)).setCell ⟨W0.heap.size, 3, none⟩ (.slice (some ⟨w3.heap.size, 0, none⟩) 1 1)) W0.heap.size ref ent per (.slice (some ⟨w3.heap.size, 0, none⟩) 1 1) [y] none [] := by
  have s := h.size
  rw [asL] at s
  have e1 := heap_alloc_new W0 (.cells #[.string ⟨#[]⟩, .int .i64 0, .int .i64 0, .slice none 0 0] 40)
  have e1 := (h.block _ (heap_ltL e1)).trans e1
  have e1 := heap_keepL (o' := (.cells #[.string y.acc, .string y.cur, .int .i64 y.amt] 42)) e1
  have e2 := heap_alloc_new w3 (.cells #[.string y.acc, .string y.cur, .int .i64 y.amt] 42)
  exact Bld.of (below4L (((al1L W0 (.cells #[.string ⟨#[]⟩, .int .i64 0, .int .i64 0, .slice none 0 0] 40)).trans (h.mono (by simp))).trans ((al1L w3 (.cells #[.string y.acc, .string y.cur, .int .i64 y.amt] 42)).mono (by omega))) (by omega)) (put4L e1) (other4L e2 (by omega)) (by omega) (by omega) (by omega)
theorem Bld.o7 (h : Below W0.heap.size W0 w3) : Bld W0 ((w3.alloc (.cells #[.string ref, .int .i64 ent, .int .i64 per, .slice (some ⟨w3.heap.size + 1, 0, none⟩) 1 1] 40)).alloc (.cells #[.string y.acc, .string y.cur, .int .i64 y.amt] 42)) w3.heap.size ref ent per (.slice (some ⟨w3.heap.size + 1, 0, none⟩) 1 1) [y] none [] := by
  have s := h.size
  have e1 := heap_keepL (o' := (.cells #[.string y.acc, .string y.cur, .int .i64 y.amt] 42)) (heap_alloc_new w3 (.cells #[.string ref, .int .i64 ent, .int .i64 per, .slice (some ⟨w3.heap.size + 1, 0, none⟩) 1 1] 40))
  have e2 := heap_alloc_new (w3.alloc (.cells #[.string ref, .int .i64 ent, .int .i64 per, .slice (some ⟨w3.heap.size + 1, 0, none⟩) 1 1] 40)) (.cells #[.string y.acc, .string y.cur, .int .i64 y.amt] 42)
  rw [asL] at e2
  exact Bld.of (h.trans (((al1L w3 _).trans ((al1L _ (.cells #[.string y.acc, .string y.cur, .int .i64 y.amt] 42)).mono (by simp))).mono s)) e1 e2 s (by omega) (by omega)
theorem Bld.makeM {W0 Wa W1 : World} (m : Nat) (hm : m = Wa.heap.size) (ref : ByteArray) (ent per : Int) (y : Line) (h0 : Below W0.heap.size W0 Wa) (h1 : Below (Wa.alloc (.cells #[.string y.acc, .string y.cur, .int .i64 y.amt] 42)).heap.size (Wa.alloc (.cells #[.string y.acc, .string y.cur, .int .i64 y.amt] 42)) W1) :
    Bld W0 (W1.alloc (.cells #[.string ref, .int .i64 ent, .int .i64 per, .slice (some ⟨m, 0, none⟩) 1 1] 40)) W1.heap.size ref ent per (.slice (some ⟨m, 0, none⟩) 1 1) [y] none [] := by
  subst hm; exact Bld.make ref ent per y h0 h1
theorem Bld.o4M (m : Nat) (hm : m = W0.heap.size) (h : Below ((W0.alloc (.cells #[.string y.acc, .string y.cur, .int .i64 y.amt] 42)).alloc (.cells #[.string ⟨#[]⟩, .int .i64 0, .int .i64 0, .slice none 0 0] 40)).heap.size ((W0.alloc (.cells #[.string y.acc, .string y.cur, .int .i64 y.amt] 42)).alloc (.cells #[.string ⟨#[]⟩, .int .i64 0, .int .i64 0, .slice none 0 0] 40)) w3) : Bld W0 ((((w3.setCell ⟨m + 1, 0, none⟩ (.string ref)).setCell ⟨m + 1, 1, none⟩ (.int .i64 ent)).setCell ⟨m + 1, 2, none⟩ (.int .i64 per)).setCell ⟨m + 1, 3, none⟩ (.slice (some ⟨m, 0, none⟩) 1 1)) (m + 1) ref ent per (.slice (some ⟨m, 0, none⟩) 1 1) [y] none [] := by
  subst hm; exact Bld.o4 h
theorem Bld.o5M (m : Nat) (hm : m = W0.heap.size) (h : Below ((W0.alloc (.cells #[.string ⟨#[]⟩, .int .i64 0, .int .i64 0, .slice none 0 0] 40)).alloc (.cells #[.string y.acc, .string y.cur, .int .i64 y.amt] 42)).heap.size ((W0.alloc (.cells #[.string ⟨#[]⟩, .int .i64 0, .int .i64 0, .slice none 0 0] 40)).alloc (.cells #[.string y.acc, .string y.cur, .int .i64 y.amt] 42)) w3) : Bld W0 ((((w3.setCell ⟨m, 0, none⟩ (.string ref)).setCell ⟨m, 1, none⟩ (.int .i64 ent)).setCell ⟨m, 2, none⟩ (.int .i64 per)).setCell ⟨m, 3, none⟩ (.slice (some ⟨m + 1, 0, none⟩) 1 1)) m ref ent per (.slice (some ⟨m + 1, 0, none⟩) 1 1) [y] none [] := by
  subst hm; exact Bld.o5 h
theorem Bld.o6M (m : Nat) (hm : m = W0.heap.size) (h : Below (W0.alloc (.cells #[.string ⟨#[]⟩, .int .i64 0, .int .i64 0, .slice none 0 0] 40)).heap.size (W0.alloc (.cells #[.string ⟨#[]⟩, .int .i64 0, .int .i64 0, .slice none 0 0] 40)) w3) : Bld W0 (((((w3.alloc (.cells #[.string y.acc, .string y.cur, .int .i64 y.amt] 42)).setCell ⟨m, 0, none⟩ (.string ref)).setCell ⟨m, 1, none⟩ (.int .i64 ent)).setCell ⟨m, 2, none⟩ (.int .i64 per)).setCell ⟨m, 3, none⟩ (.slice (some ⟨w3.heap.size, 0, none⟩) 1 1)) m ref ent per (.slice (some ⟨w3.heap.size, 0, none⟩) 1 1) [y] none [] := by
  subst hm; exact Bld.o6 h
end
theorem Bld.shares {W0 W W' : World} {g : Nat} {ref : ByteArray} {ent per : Int} {v : Value} {ls : List Line} {A : Option Addr} {n c : Nat} {out : List Int} (h : Bld W0 W g ref ent per v ls none []) (hb : Below W.heap.size W W') (hO : Own W' W.heap.size 3 1 intEnc2 (.slice A n c) out) : Bld W0 W' g ref ent per v ls A out := by
  have h2 := h.below hb
  have hg : g < W.heap.size := World.block_lt_of_cell? _ _ h.c0
  have hr := hO.rd intEnc2_ok
  obtain rfl := hr.1
  refine ⟨h2.bl, h2.c0, h2.c1, h2.c2, h2.c3, h2.fz, h2.ow, h2.gB, h2.vg, hr, fun q off s e => ?_⟩
  have hq : off = 0 ∧ s = none := by
    rcases hO.2 with ⟨hv, h0⟩ | ⟨g9, cap9, cur9, hv, _⟩
    · injection hv with e1; rw [e1] at e; cases e
    · injection hv with e1; rw [e1] at e; injection e with e; injection e with _ e3 e4; exact ⟨e3.symm, e4.symm⟩
  obtain ⟨rfl, rfl⟩ := hq
  subst e
  have h5 := hO.block q rfl
  refine ⟨h5.2, by omega, fun e => ?_⟩
  have := (h.ow.block q e).2
  omega
theorem Bld.step {W0 W w8 : World} {g : Nat} {ref : ByteArray} {ent per : Int} {v v' : Value} {ls : List Line} {SA : Option Addr} {out : List Int} (y : Line) (h : Bld W0 W g ref ent per v ls SA out) (o : Obj)
    (hO : Own w8 W0.heap.size 42 3 lineEnc v' (ls ++ [y])) (hg8 : (W.alloc o).drew.grownBy w8 v.ownBlock) (hat : v'.ownBlock = v.ownBlock ∨ v'.ownBlock = some (W.alloc o).drew.heap.size) :
    Bld W0 (w8.setCell ⟨g, 3, none⟩ v') g ref ent per v' (ls ++ [y]) SA out := by
  have hb : Below W.heap.size W (W.alloc o).drew := ((Below.refl _ _).alloc (Nat.le_refl _) _).drew
  have h1 := h.below hb
  have hgl : g < (W.alloc o).drew.heap.size := World.block_lt_of_cell? _ _ h1.c0
  have k3 := hg8.cell h1.c3 (fun e => h1.vg e.symm)
  have hvg : v'.ownBlock ≠ some g := by
    rcases hat with e | e
    · rw [e]; exact h1.vg
    · rw [e]; intro e2; have e2 := Option.some.inj e2; omega
  have hset : w8.grownBy (w8.setCell ⟨g, 3, none⟩ v') (some g) := only_setCell (only_refl _ _) _ _
  have hB8 : Below W0.heap.size W0 w8 := h1.bl.grown hg8 h1.bl.size (fun q e => (h1.ow.block q e).1)
  refine ⟨hB8.setCell h1.gB _, (World.cell?_setCell_other _ _ _ _ (by simp)).trans (hg8.cell h1.c0 (fun e => h1.vg e.symm)), (World.cell?_setCell_other _ _ _ _ (by simp)).trans (hg8.cell h1.c1 (fun e => h1.vg e.symm)), (World.cell?_setCell_other _ _ _ _ (by simp)).trans (hg8.cell h1.c2 (fun e => h1.vg e.symm)), World.cell?_setCell_same _ _ _ k3, ?_, hO.grown hset (.inr hvg), h1.gB, hvg, ?_, ?_⟩
  · have f3 := frozen_grown2 h1.fz hgl hg8 h1.vg
    simp [f3]
  · exact (h1.rS.grownX hg8 (fun q off s e => fun e2 => (h1.sb q off s e).2.2 e2.symm)).grownX hset (fun q off s e => fun e2 => (h1.sb q off s e).2.1 (by injection e2))
  · intro q off s e
    obtain ⟨s1, s2, s3⟩ := h1.sb q off s e
    refine ⟨Nat.lt_of_lt_of_le s1 (Nat.le_trans hg8.size hset.size), s2, ?_⟩
    rcases hat with e2 | e2
    · rw [e2]; exact s3
    · rw [e2]; intro e3; have e3 := Option.some.inj e3; omega

/-- behind the append, ahead of the store -/
theorem Bld.push {W0 W w8 : World} {g : Nat} {ref : ByteArray} {ent per : Int} {v : Value} {ls : List Line} {SA : Option Addr} {out : List Int} (h : Bld W0 W g ref ent per v ls SA out) (o : Obj) (hg8 : (W.alloc o).drew.grownBy w8 v.ownBlock) :
    w8.cell? ⟨g, 3, none⟩ = some v ∧ w8.frozen? ⟨g, 3, none⟩ = false := by
  have hb : Below W.heap.size W (W.alloc o).drew := ((Below.refl _ _).alloc (Nat.le_refl _) _).drew
  have h1 := h.below hb
  have hgl : g < (W.alloc o).drew.heap.size := World.block_lt_of_cell? _ _ h1.c0
  exact ⟨hg8.cell h1.c3 (fun e => h1.vg e.symm), frozen_grown2 h1.fz hgl hg8 h1.vg⟩

theorem giveTo_no {p : Pol} {s : List Int} {k : Nat} (h1 : k < p.to.length) (h2 : k < s.length) (h : s[k] = 0) : giveTo p s (k + 1) = giveTo p s k := by rw [giveTo_succ h1 h2, if_neg (by simpa using h), List.append_nil]
theorem giveTo_yes {p : Pol} {s : List Int} {k : Nat} (h1 : k < p.to.length) (h2 : k < s.length) (h : s[k] ≠ 0) : giveTo p s (k + 1) = giveTo p s k ++ [⟨p.to[k], p.cur, s[k]⟩] := by rw [giveTo_succ h1 h2, if_pos h]
theorem shared_len {T : Int} {ws out : List Int} (h : Shared T ws out) : out.length = ws.length := by
  obtain ⟨ord, _, rfl⟩ := h
  rw [bump_len, List.length_map]

theorem keepL {w : World} {g : Nat} {a c : ByteArray} (o' : Obj) (h : w.cell? ⟨g, 0, none⟩ = some (.string a) ∧ w.cell? ⟨g, 1, none⟩ = some (.string c)) : (w.alloc o').cell? ⟨g, 0, none⟩ = some (.string a) ∧ (w.alloc o').cell? ⟨g, 1, none⟩ = some (.string c) :=
  have k : ∀ {b o : Nat} {u : Value}, w.cell? ⟨b, o, none⟩ = some u → (w.alloc o').cell? ⟨b, o, none⟩ = some u := fun hc => below_cell ((Below.refl w.heap.size w).alloc (Nat.le_refl _) _) (World.block_lt_of_cell? _ _ hc) hc
  ⟨k h.1, k h.2⟩
end Go.Proofs.YtmpnbkjcpgnifaaGreatDoor
