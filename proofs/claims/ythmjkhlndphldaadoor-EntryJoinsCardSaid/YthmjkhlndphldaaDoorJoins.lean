/- The statement EntryJoins, walked. -/
import Derived.Test.YthmjkhlndphldaaDoorEntG
import Derived.Test.YthmjkhlndphldaaDoorOpenE
namespace Go.Proofs.YthmjkhlndphldaaDoor
open Go Go.RowKit
set_option linter.unusedVariables false

theorem EntAt.new (w : World) (ref : ByteArray) (ent per : Int) (v : Value) : EntAt (w.alloc (.cells #[.string ref, .int .i64 ent, .int .i64 per, v] 56)) w.heap.size ref ent per v := by
  unfold EntAt
  simp

theorem own_nilC {α : Type} {w : World} {B e sz n c : Nat} {enc : α → List Value} {l : List α} {A : Option Addr} (h : Own w B e sz enc (.slice A n c) l) : A = none → c = 0 := by
  rintro rfl
  rcases h.2 with ⟨hv, _⟩ | ⟨g', c', cur, hv, _⟩
  · injection hv
  · cases hv
theorem LinesOk.append {a b : List Line} (h : LinesOk a) (k : LinesOk b) : LinesOk (a ++ b) := by
  intro x hx
  rcases List.mem_append.1 hx with hx | hx
  · exact h x hx
  · exact k x hx
theorem EntTwo.fr (w : World) (ref ref' : ByteArray) (ent per ent' per' : Int) (v v' : Value) (q : Nat) :
    ((w.alloc (.cells #[.string ref, .int .i64 ent, .int .i64 per, v] 56)).alloc (.cells #[.string ref', .int .i64 ent', .int .i64 per', v'] 56)).frozen? ⟨w.heap.size + 1, q, none⟩ = false := by
  have e : w.heap.size + 1 = (w.alloc (.cells #[.string ref, .int .i64 ent, .int .i64 per, v] 56)).heap.size := by simp
  rw [e]
  generalize w.alloc (.cells #[.string ref, .int .i64 ent, .int .i64 per, v] 56) = w1
  simp
theorem r_ref : refB ⟨#[114]⟩ = true := by decide +kernel
/-- an append that is stored back into an entry's box: what stands behind it -/
structure Stored (W W' : World) (B gx : Nat) (r : ByteArray) (e p : Int) (v' : Value) (l' : List Line) : Prop where
  at_ : EntAt W' gx r e p v'
  fr : W'.frozen? ⟨gx, 3, none⟩ = false
  own : Own W' B 65 3 lineEnc v' l'
  ne : v'.ownBlock ≠ some gx
  size : W.heap.size ≤ W'.heap.size
theorem EntAt.grown {W w' : World} {gx : Nat} {r : ByteArray} {e p : Int} {v : Value} {row : Option Nat} (hX : EntAt W gx r e p v) (hg : W.grownBy w' row) (hne : row ≠ some gx) : EntAt w' gx r e p v := by
  obtain ⟨x0, x1, x2, x3⟩ := hX
  have c := fun q u (hu : W.cell? ⟨gx, q, none⟩ = some u) => (show w'.cell? ⟨gx, q, none⟩ = some u from hg.cell hu (fun e => hne e.symm))
  exact ⟨c 0 _ x0, c 1 _ x1, c 2 _ x2, c 3 _ x3⟩
theorem frozen_grown {W w' : World} {gx q : Nat} {row : Option Nat} (hf : W.frozen? ⟨gx, q, none⟩ = false) (hx : gx < W.heap.size) (hg : W.grownBy w' row) (hne : row ≠ some gx) : w'.frozen? ⟨gx, q, none⟩ = false := by
  have y := hg.block gx hx (fun e => hne e.symm)
  rw [← hf]
  unfold World.frozen?
  simp only [y]
theorem stored {W w' : World} {B gx : Nat} {r : ByteArray} {e p : Int} {v v' : Value} {l' : List Line} (hX : EntAt W gx r e p v) (hf : W.frozen? ⟨gx, 3, none⟩ = false) (hne : v.ownBlock ≠ some gx)
    (hg : W.grownBy w' v.ownBlock) (hown : Own w' B 65 3 lineEnc v' l') (hat : v'.ownBlock = v.ownBlock ∨ v'.ownBlock = some W.heap.size) : Stored W (w'.setCell ⟨gx, 3, none⟩ v') B gx r e p v' l' := by
  have hgx : gx < W.heap.size := World.block_lt_of_cell? _ _ hX.1
  have hne' : v'.ownBlock ≠ some gx := by
    rcases hat with h | h
    · rw [h]; exact hne
    · rw [h]; intro e2; injection e2 with e2; omega
  obtain ⟨x0, x1, x2, x3⟩ := hX
  have c := fun q u (hu : W.cell? ⟨gx, q, none⟩ = some u) => (show w'.cell? ⟨gx, q, none⟩ = some u from hg.cell hu (fun e => hne e.symm))
  have y0 := c 0 _ x0
  have y1 := c 1 _ x1
  have y2 := c 2 _ x2
  have y3 := c 3 _ x3
  have f : w'.frozen? ⟨gx, 3, none⟩ = false := by
    have y := hg.block gx hgx (fun e => hne e.symm)
    rw [← hf]
    unfold World.frozen?
    simp only [y]
  refine ⟨?_, by simp [f], hown.grown (only_setCell (only_refl w' (some gx)) 3 v') (.inr hne'), hne', by simpa [World.setCell] using hg.size⟩
  unfold EntAt
  simp [World.cell?_setCell_other, World.cell?_setCell_same, y0, y1, y2, y3]
theorem stored_other {W w' : World} {gx gy : Nat} {r : ByteArray} {e p : Int} {v v' u : Value} (hY : EntAt W gy r e p u) (hg : W.grownBy w' v.ownBlock) (hne : v.ownBlock ≠ some gy) (hxy : gx ≠ gy) : EntAt (w'.setCell ⟨gx, 3, none⟩ v') gy r e p u := by
  obtain ⟨x0, x1, x2, x3⟩ := hY
  have c := fun q u (hu : W.cell? ⟨gy, q, none⟩ = some u) => (show w'.cell? ⟨gy, q, none⟩ = some u from hg.cell hu (fun e => hne e.symm))
  exact EntAt.other ⟨c 0 _ x0, c 1 _ x1, c 2 _ x2, c 3 _ x3⟩ hxy
theorem stored_below {w0 W w' : World} {B0 gx : Nat} {v v' : Value} (hb : Below B0 w0 W) (hB : B0 ≤ W.heap.size) (hg : W.grownBy w' v.ownBlock) (hv : ∀ k, v.ownBlock = some k → B0 ≤ k) (hx : B0 ≤ gx) : Below B0 w0 (w'.setCell ⟨gx, 3, none⟩ v') :=
  (hb.grown hg hB hv).setCell hx _

set_option maxHeartbeats 4000000 in
set_option maxRecDepth 100000 in
theorem joins_any (c : List Acc) (CA : Option Addr) (cn ccap : Nat) (E F : Ent) (w : World)
    (hcc : cn ≤ ccap) (hcm : ccap ≤ maxLen) (hc : Accs w CA cn c) (hcok : AccOk c) (hE : EntFits w E) (hF : EntFits w F) :
    Calls Tryd.prog 7 #[.slice CA cn ccap, .agg #[.string E.ref, .int .i64 E.ent, .int .i64 E.per, .slice E.A E.n E.cap], .agg #[.string F.ref, .int .i64 F.ent, .int .i64 F.per, .slice F.A F.n F.cap]] w
      fun e w' => e = .returned (.bool true) ∧ Below w.heap.size w w' := by
  have hcn : cn ≤ 9223372036854775807 := by unfold maxLen at hcm; omega
  obtain ⟨er, en, ep, EA, n, ec, el⟩ := E
  obtain ⟨fr, fn, fp, FA, m, fc, fl⟩ := F
  obtain ⟨h1, h2, h3, h4, h5, h6⟩ := hE
  obtain ⟨k1, k2, k3, k4, k5, k6⟩ := hF
  simp only at *
  go_enter Tryd.func7, Tryd.ntmps7
  go_wp2_with fail
  have hb2 := (EntTwo.new w er en ep (.slice EA n ec) (.cells #[.string fr, .int .i64 fn, .int .i64 fp, .slice FA m fc] 56)).1
  have hE2 := (EntTwo.new w er en ep (.slice EA n ec) (.cells #[.string fr, .int .i64 fn, .int .i64 fp, .slice FA m fc] 56)).2.1
  have hF2 := EntTwo.snd w er fr en ep fn fp (.slice EA n ec) (.slice FA m fc)
  have hsz : ((w.alloc (.cells #[.string er, .int .i64 en, .int .i64 ep, .slice EA n ec] 56)).alloc (.cells #[.string fr, .int .i64 fn, .int .i64 fp, .slice FA m fc] 56)).heap.size = w.heap.size + 1 + 1 := by simp
  generalize (w.alloc (.cells #[.string er, .int .i64 en, .int .i64 ep, .slice EA n ec] 56)).alloc (.cells #[.string fr, .int .i64 fn, .int .i64 fp, .slice FA m fc] 56) = w2 at hb2 hE2 hF2 hsz ⊢
  have hl0 : Rd (w2.alloc (.cells #[.string ⟨#[49]⟩, .string ⟨#[69, 85, 82]⟩, .int .i64 5, .string ⟨#[49]⟩, .string ⟨#[69, 85, 82]⟩, .int .i64 (-5)] 65)) 3 lineEnc (some ⟨w.heap.size + 1 + 1, 0, none⟩) 2 [⟨⟨#[49]⟩, eur, 5⟩, ⟨⟨#[49]⟩, eur, -5⟩] := by
    rw [← hsz]; exact Rd.lit w2 lineEnc_ok [⟨⟨#[49]⟩, eur, 5⟩, ⟨⟨#[49]⟩, eur, -5⟩] 2 rfl _ _ rfl
  refine (net_none _ 0 0 [⟨⟨#[49]⟩, eur, 5⟩, ⟨⟨#[49]⟩, eur, -5⟩] _ 2 2 _ hl0 (by intro h; cases h) (smallE_of (by decide) (by
    intro x hx
    simp only [List.mem_cons, List.not_mem_nil, or_false] at hx
    rcases hx with rfl | rfl <;> exact ⟨by decide, by decide⟩)) (fun k => tot_both [⟨⟨#[49]⟩, eur, 5⟩] k)).mono ?_
  rintro e w3 ⟨NA, nc, rfl, hb3⟩
  have hE3 := hE2.below (bof_alloc hb3)
  have hF3 := hF2.below (bof_alloc hb3)
  have hb3 := bthen hb2 (Nat.le_refl _) (bof_alloc hb3)
  go_wp2_with fail
  refine (two_any _ _ _ 1 1 5 _ (by decide) (by decide)).mono ?_
  rintro e w4 ⟨g4, rfl, hl4, hb4'⟩
  have hN4 := (EntAt.new w3 ⟨#[]⟩ 0 0 (.slice NA 0 nc)).below hb4'
  have hb4 := bof_alloc hb4'
  have hE4 := hE3.below hb4
  have hF4 := hF3.below hb4
  have hb4 := bthen hb3 (Nat.le_refl _) hb4
  go_wp2_with fail
  refine (sums_ok _ 1 1 _ _ 2 2 _ hl4 (by intro h; cases h) (smallE_of (by decide) (by
    intro x hx
    simp only [List.mem_cons, List.not_mem_nil, or_false] at hx
    rcases hx with rfl | rfl <;> exact ⟨by decide, by decide⟩))).mono ?_
  rintro e w5 ⟨v5, rfl, hown5, hb5⟩
  obtain ⟨SA, sc, rfl, hs1, hs2⟩ := hown5.form
  have hone : (canon ([⟨⟨#[49, 48]⟩, eur, 5⟩, ⟨⟨#[50, 48]⟩, eur, -5⟩].map blank)).length = 1 := canon_two rfl
  rw [hone]
  have hE5 := hE4.below hb5
  have hF5 := hF4.below hb5
  obtain ⟨n0, n1, n2, n3⟩ := hN4.below hb5
  have hb5 := bthen hb4 (Nat.le_refl _) hb5
  clear hone hown5 hl4 hl0 hs1 hs2
  obtain ⟨e0, e1, e2, e3⟩ := hE5
  obtain ⟨f0, f1, f2, f3⟩ := hF5
  go_wp2_with fail
  clear n0 n1 n2 n3 hN4
  refine (entCheck_any c _ _ _ er en ep el _ _ _ _ hcn hcc (hc.below hb5) hcok h1 (by unfold maxLen at h3; omega) (Rd.below h4 hb5) h6 h5).mono ?_
  rintro e w6 ⟨rfl, hb6⟩
  have hE6 := (show EntAt w5 w.heap.size er en ep (.slice EA n ec) from ⟨e0, e1, e2, e3⟩).below hb6
  have hF6 := (show EntAt w5 (w.heap.size + 1) fr fn fp (.slice FA m fc) from ⟨f0, f1, f2, f3⟩).below hb6
  have hb6 := bthen hb5 (Nat.le_refl _) hb6
  clear e0 e1 e2 e3 f0 f1 f2 f3
  obtain ⟨e0, e1, e2, e3⟩ := hE6
  obtain ⟨f0, f1, f2, f3⟩ := hF6
  go_wp2_with fail
  refine (entCheck_any c _ _ _ fr fn fp fl _ _ _ _ hcn hcc (hc.below hb6) hcok k1 (by unfold maxLen at k3; omega) (Rd.below k4 hb6) k6 k5).mono ?_
  rintro e w7 ⟨rfl, hb7⟩
  have hE7 := (show EntAt w6 w.heap.size er en ep (.slice EA n ec) from ⟨e0, e1, e2, e3⟩).below hb7
  have hF7 := (show EntAt w6 (w.heap.size + 1) fr fn fp (.slice FA m fc) from ⟨f0, f1, f2, f3⟩).below hb7
  have hb7 := bthen hb6 (Nat.le_refl _) hb7
  clear e0 e1 e2 e3 f0 f1 f2 f3
  obtain ⟨e0, e1, e2, e3⟩ := hE7
  obtain ⟨f0, f1, f2, f3⟩ := hF7
  by_cases hea : entE c er en ep el = 0
  · by_cases heb : entE c fr fn fp fl = 0
    · have HA := hide (entE_right hea)
      have HB := hide (entE_right heb)
      rw [errV_0 hea, errV_0 heb]
      have Hn := hide h4.1
      have Hm := hide k4.1
      have hn20 : n ≤ 20 := by have := HA.out.high; have := Hn.out; omega
      have hm20 : m ≤ 20 := by have := HB.out.high; have := Hm.out; omega
      clear hea heb
      have hlt7 : w.heap.size < w7.heap.size := World.block_lt_of_cell? _ _ e0
      have hlf7 : w.heap.size + 1 < w7.heap.size := World.block_lt_of_cell? _ _ f0
      by_cases hnm : n + m ≤ 20
      · by_cases hnn : 2 * n ≤ 20
        · have q1 : ¬ (20 : Int) < (n : Int) + (m : Int) := by omega
          have q2 : ¬ (20 : Int) < 2 * (n : Int) := by omega
          obtain ⟨i0, hi0, hz0, hz1, hz2⟩ := info_parts line_info
          have hE7 : EntAt w7 w.heap.size er en ep (.slice EA n ec) := ⟨e0, e1, e2, e3⟩
          have hF7 : EntAt w7 (w.heap.size + 1) fr fn fp (.slice FA m fc) := ⟨f0, f1, f2, f3⟩
          have ha8 : Below w.heap.size w (w7.alloc (.cells #[.string er, .int .i64 en, .int .i64 ep, .slice none 0 0] 56)) := hb7.alloc hb7.size _
          have hX8 := EntAt.new w7 er en ep (.slice none 0 0)
          have hE8 := hE7.below ((Below.refl w7.heap.size w7).alloc (Nat.le_refl _) (.cells #[.string er, .int .i64 en, .int .i64 ep, .slice none 0 0] 56))
          have hF8 := hF7.below ((Below.refl w7.heap.size w7).alloc (Nat.le_refl _) (.cells #[.string er, .int .i64 en, .int .i64 ep, .slice none 0 0] 56))
          have hfx8 : (w7.alloc (.cells #[.string er, .int .i64 en, .int .i64 ep, .slice none 0 0] 56)).frozen? ⟨w7.heap.size, 3, none⟩ = false := by simp
          have hs8 : (w7.alloc (.cells #[.string er, .int .i64 en, .int .i64 ep, .slice none 0 0] 56)).heap.size = w7.heap.size + 1 := by simp
          have tok1 : True := trivial
          have tok2 : True := trivial
          have hel20 : el.length ≤ 20 := HA.out.high
          have ne1 : ¬ w.heap.size + 1 = w7.heap.size := by omega
          have ne2 : ¬ w.heap.size = w7.heap.size := by omega
          have ne3 : ¬ w7.heap.size = w.heap.size + 1 := by omega
          have ne4 : ¬ w7.heap.size = w.heap.size := by omega
          go_wp2_with (first | (at_builtin; (have _t2 := hS8); go_loud (refine wpList_push _ rfl _ _ 54 rfl (w7.heap.size + 1) 65 i0 zeroLine 3 40 Tryd.underlying54 hi0 hz0 hz1 hz2 rfl (by decide) lineEnc_ok (.slice VA8 el.length vc8) el rfl hS8.own _ m fc fl rfl (Rd.below k4 hb9) k6 (by simp only [maxLen]; omega) (by omega) (by have := hS8.size; rw [hs8] at this; omega) ?_); intro v9 w9 hown9 hg9 hat9; (have hS9 := stored hS8.at_ hS8.fr hS8.ne hg9 hown9 hat9); (have hXw9 := hS8.at_.grown hg9 hS8.ne); obtain ⟨y0, y1, y2, y3⟩ := hXw9; (have yf := frozen_grown hS8.fr (World.block_lt_of_cell? _ _ hS8.at_.1) hg9 hS8.ne); (have vlow := fun k hk => (hS8.own.block k hk).1); (have hE10 := stored_other (v' := v9) (gx := w7.heap.size) hE9 hg9 (fun e => by have := vlow _ e; omega) (by omega)); (have hF10 := stored_other (v' := v9) (gx := w7.heap.size) hF9 hg9 (fun e => by have := vlow _ e; omega) (by omega)); (have hb10 := stored_below (gx := w7.heap.size) (v' := v9) hb9 hb9.size hg9 (fun k hk => by have := vlow _ hk; omega) (by omega)); obtain ⟨VA9, vc9, rfl, hvc9, hvm9⟩ := hown9.form) | (at_builtin; (have _t1 := tok1); go_loud (refine wpList_push _ rfl _ _ 54 rfl (w7.heap.size + 1) 65 i0 zeroLine 3 40 Tryd.underlying54 hi0 hz0 hz1 hz2 rfl (by decide) lineEnc_ok (.slice none 0 0) ([] : List Line) rfl (Own.nil _ _ _ _ _) _ n ec el rfl (Rd.below h4 ha8) h6 (by simp only [maxLen, List.length_nil]; omega) (by simp only [List.length_nil]; omega) (by simp) ?_); clear tok1; intro v8 w8 hown8 hg8 hat8; (have hS8 := stored hX8 hfx8 (by simp [Value.ownBlock]) hg8 hown8 hat8); (have hXw := hX8.grown hg8 (by simp [Value.ownBlock])); obtain ⟨x0, x1, x2, x3⟩ := hXw; (have hEw := hE8.grown hg8 (by simp [Value.ownBlock])); obtain ⟨e0, e1, e2, e3⟩ := hEw; (have hFw := hF8.grown hg8 (by simp [Value.ownBlock])); obtain ⟨f0, f1, f2, f3⟩ := hFw; (have xf := frozen_grown hfx8 (by simp) hg8 (by simp [Value.ownBlock])); (have hE9 := stored_other (v' := v8) (gx := w7.heap.size) hE8 hg8 (by simp [Value.ownBlock]) (by omega)); (have hF9 := stored_other (v' := v8) (gx := w7.heap.size) hF8 hg8 (by simp [Value.ownBlock]) (by omega)); (have hb9 := stored_below (gx := w7.heap.size) (v' := v8) ha8 (by rw [hs8]; omega) hg8 (by intro k hk; cases hk) (by omega)); obtain ⟨VA8, vc8, rfl, hvc8, hvm8⟩ := hown8.form; rw [List.nil_append] at *))
          simp only [List.length_append] at hS9 hE10 hF10 hb10 hvc9
          clear x0 x1 x2 x3 xf y0 y1 y2 y3 yf e0 e1 e2 e3 f0 f1 f2 f3
          generalize w9.setCell ⟨w7.heap.size, 3, none⟩ (.slice VA9 (el.length + fl.length) vc9) = w10 at hS9 hE10 hF10 hb10 ⊢
          have hrd10 := hS9.own.rd lineEnc_ok
          have hHR := hide (right_entE (Right.join HA.out HB.out (by have := Hn.out; have := Hm.out; omega)))
          refine (entCheck_any c _ _ _ er en ep (el ++ fl) _ _ _ _ hcn hcc (hc.below hb10) hcok h1 (by have := Hm.out; omega) hrd10 (own_nilC hS9.own) (h5.append k5)).mono ?_
          rintro e w11 ⟨rfl, hb11⟩
          rw [errV_0 hHR.out]
          obtain ⟨e0, e1, e2, e3⟩ := hE10.below hb11
          have hb11 := bthen hb10 (Nat.le_refl _) hb11
          go_wp2_with fail
          have hsm : smallE el = 0 := smallE_of hel20 HA.out.bnd
          refine (reverse_ok er ⟨#[114]⟩ en ep el EA n ec _ (by decide) r_ref (Rd.below h4 hb11) h6 hsm).mono ?_
          rintro e w12 ⟨RA, rc, rfl, hownR, hb12⟩
          have hE12 := (show EntAt w11 w.heap.size er en ep (.slice EA n ec) from ⟨e0, e1, e2, e3⟩).below hb12
          have hlt12 : w.heap.size < w12.heap.size := World.block_lt_of_cell? _ _ hE12.1
          have hb12 := bthen hb11 (Nat.le_refl _) hb12
          clear e0 e1 e2 e3
          have hX13 := EntTwo.snd w12 ⟨#[114]⟩ er en ep en ep (.slice RA el.length rc) (.slice none 0 0)
          have hfx13 := EntTwo.fr w12 ⟨#[114]⟩ er en ep en ep (.slice RA el.length rc) (.slice none 0 0) 3
          have hT13 := EntTwo.new w12 ⟨#[114]⟩ en ep (.slice RA el.length rc) (.cells #[.string er, .int .i64 en, .int .i64 ep, .slice none 0 0] 56)
          have hE13 := hE12.below hT13.1
          have hR13 := hT13.2.1
          have hb13 := bthen hb12 (Nat.le_refl _) hT13.1
          have hrR := (hownR.rd lineEnc_ok).below hT13.1
          have hs13 : ((w12.alloc (.cells #[.string ⟨#[114]⟩, .int .i64 en, .int .i64 ep, .slice RA el.length rc] 56)).alloc (.cells #[.string er, .int .i64 en, .int .i64 ep, .slice none 0 0] 56)).heap.size = w12.heap.size + 1 + 1 := by simp
          have tok3 : True := trivial
          obtain ⟨e0, e1, e2, e3⟩ := hE12
          clear hS8 hS9
          go_wp2_with (first | (at_builtin; (have _t2 := hS14); go_loud (refine wpList_push _ rfl _ _ 54 rfl (w12.heap.size + 1 + 1) 65 i0 zeroLine 3 40 Tryd.underlying54 hi0 hz0 hz1 hz2 rfl (by decide) lineEnc_ok (.slice VA14 el.length vc14) el rfl hS14.own _ el.length rc (el.map neg) rfl (Rd.below (hownR.rd lineEnc_ok) hbR14) (own_nilC hownR) (by simp only [maxLen]; omega) (by omega) (by have := hS14.size; rw [hs13] at this; omega) ?_); intro v15 w15 hown15 hg15 hat15; (have hS15 := stored hS14.at_ hS14.fr hS14.ne hg15 hown15 hat15); (have hXw15 := hS14.at_.grown hg15 hS14.ne); obtain ⟨y0, y1, y2, y3⟩ := hXw15; (have yf := frozen_grown hS14.fr (World.block_lt_of_cell? _ _ hS14.at_.1) hg15 hS14.ne); (have vlow := fun k hk => (hS14.own.block k hk).1); (have hb15 := stored_below (gx := w12.heap.size + 1) (v' := v15) hb14 hb14.size hg15 (fun k hk => by have := vlow _ hk; omega) (by omega)); obtain ⟨VA15, vc15, rfl, hvc15, hvm15⟩ := hown15.form) | (at_builtin; (have _t1 := tok3); go_loud (refine wpList_push _ rfl _ _ 54 rfl (w12.heap.size + 1 + 1) 65 i0 zeroLine 3 40 Tryd.underlying54 hi0 hz0 hz1 hz2 rfl (by decide) lineEnc_ok (.slice none 0 0) ([] : List Line) rfl (Own.nil _ _ _ _ _) _ n ec el rfl (Rd.below h4 hb13) h6 (by simp only [maxLen, List.length_nil]; omega) (by simp only [List.length_nil]; omega) (by rw [hs13]; omega) ?_); clear tok3; intro v14 w14 hown14 hg14 hat14; (have hS14 := stored hX13 hfx13 (by simp [Value.ownBlock]) hg14 hown14 hat14); (have hXw := hX13.grown hg14 (by simp [Value.ownBlock])); obtain ⟨x0, x1, x2, x3⟩ := hXw; (have xf := frozen_grown hfx13 (by rw [hs13]; omega) hg14 (by simp [Value.ownBlock])); (have hRw := hR13.grown hg14 (by simp [Value.ownBlock])); obtain ⟨r0, r1, r2, r3⟩ := hRw; (have hb14 := stored_below (gx := w12.heap.size + 1) (v' := v14) hb13 hb13.size hg14 (by intro k hk; cases hk) (by omega)); (have hbR14 := stored_below (gx := w12.heap.size + 1) (v' := v14) hT13.1 hT13.1.size hg14 (by intro k hk; cases hk) (by omega)); obtain ⟨VA14, vc14, rfl, hvc14, hvm14⟩ := hown14.form; rw [List.nil_append] at *))
          have hlen : (el ++ el.map neg).length = el.length + el.length := by simp
          simp only [hlen] at hS15 hb15 hvc15
          clear x0 x1 x2 x3 xf y0 y1 y2 y3 yf e0 e1 e2 e3 r0 r1 r2 r3
          generalize w15.setCell ⟨w12.heap.size + 1, 3, none⟩ (.slice VA15 (el.length + el.length) vc15) = w16 at hS15 hb15 ⊢
          have hrd16 := hS15.own.rd lineEnc_ok
          refine (net_none er en ep (el ++ el.map neg) VA15 _ vc15 _ hrd16 (own_nilC hS15.own) (small_both (by have := Hn.out; omega) HA.out.bnd) (tot_both el)).mono ?_
          rintro e w17 ⟨NA2, nc2, rfl, hb17⟩
          have hb17 := bthen hb15 (Nat.le_refl _) hb17
          go_wp2_with fail
          go_ret
          exact ⟨rfl, hb17.alloc hb17.size _⟩
        · have q1 : ¬ (20 : Int) < (n : Int) + (m : Int) := by omega
          have q2 : (20 : Int) < 2 * (n : Int) := by omega
          go_wp2_with fail
          go_ret
          exact ⟨rfl, hb7⟩
      · have q1 : (20 : Int) < (n : Int) + (m : Int) := by omega
        go_wp2_with fail
        go_ret
        exact ⟨rfl, hb7⟩
    · rw [errV_0 hea, errV_n heb]
      clear hea heb
      go_wp2_with fail
      go_ret
      exact ⟨rfl, hb7⟩
  · rw [errV_n hea]
    clear hea
    go_wp2_with fail
    go_ret
    exact ⟨rfl, hb7⟩
end Go.Proofs.YthmjkhlndphldaaDoor
