/- slices.Clone over lines; entry.grouped: what is alike together, in order. -/
import Derived.Test.YthmjkhlndphldaaGreatDoorSortAll
import Derived.Maps.AppendAt
import Derived.WalkSpells
namespace Go.Proofs.YthmjkhlndphldaaGreatDoor
open Go Go.RowKit
set_option linter.unusedVariables false

def zeroLine : Value := .agg #[.string ⟨#[]⟩, .string ⟨#[]⟩, .int .i64 0]
theorem line_info : (Tryz.prog.info? 35).map (fun i => (i.zero, i.size, i.bytes)) = some (some zeroLine, 3, 40) := by kernel_rfl

theorem Own.empty (w : World) (B e sz : Nat) {α : Type} (enc : α → List Value) (hB : B ≤ w.heap.size) : Own (w.alloc (.cells #[] e)) B e sz enc (.slice (some ⟨w.heap.size, 0, none⟩) 0 0) ([] : List α) := by
  refine ⟨by simp, .inr ⟨w.heap.size, 0, #[], rfl, hB, by rw [heap_alloc_new], by simp, by unfold maxLen; omega, by simp, by simp⟩⟩

set_option maxRecDepth 100000 in
theorem clone_lines (l : List Line) (A : Option Addr) (n c : Nat) (w : World) (h : Rd w 3 lineEnc A n l) (hn : n ≤ 20) (hA : A = none → c = 0) :
    Calls Tryz.prog 77 #[.slice A n c] w fun e w' => ∃ v, e = .returned v ∧ Own w' w.heap.size 35 3 lineEnc v l ∧ Below w.heap.size w w' := by
  obtain ⟨i0, hi0, hz0, hz1, hz2⟩ := info_parts line_info
  have Hn := hide h.1
  have q := fun (w : World) (a : Option Addr) (n c n' c' : Nat) => Lib.run_eql_slice_nil (P := Tryz.prog) w 23 _ a n c n' c' Tryz.underlying23
  cases A with
  | none =>
    have hn0 : n = 0 := by
      rcases Nat.eq_zero_or_pos n with h0 | h0
      · exact h0
      · obtain ⟨b, off, h', _⟩ := h.2 h0; cases h'
    subst hn0
    have hl0 : l = [] := List.eq_nil_of_length_eq_zero h.1
    subst hl0
    clear Hn
    go_enter Tryz.func77, Tryz.ntmps77
    go_wp2_with fail
    go_ret
    exact ⟨_, rfl, Own.nil _ _ _ _ _, Below.refl _ _⟩
  | some ad =>
    go_enter Tryz.func77, Tryz.ntmps77
    go_wp2_with (first | (at_builtin; go_loud (refine wpList_push _ rfl _ _ 23 rfl w.heap.size 35 i0 zeroLine 3 40 Tryz.underlying23 hi0 hz0 hz1 hz2 rfl (by decide) lineEnc_ok _ [] rfl (Own.empty _ _ _ _ _ (Nat.le_refl _)) _ n c l rfl (Rd.below h ((Below.refl _ _).alloc (Nat.le_refl _) _)) (by intro h; cases h) (by simp only [maxLen, List.length_nil]; omega) (by simp only [List.length_nil]; omega) (by simp) ?_); intro v' w2 hown2 hg2 hat2))
    go_ret
    refine ⟨_, rfl, ?_, ((Below.refl _ _).alloc (Nat.le_refl _) _).grown hg2 (by simp) (fun k e => by (have : some w.heap.size = some k := e); (injection this with this); omega)⟩
    simpa using hown2

/-- entry.Compare of two lines, said with worlds below -/
theorem compare_below (x y : Line) (W : World) :
    Calls Tryz.prog 122 #[.agg #[.string x.acc, .string x.cur, .int .i64 x.amt], .agg #[.string y.acc, .string y.cur, .int .i64 y.amt]] W
      fun e w' => e = .returned (.int .i64 (cmpL x y)) ∧ Below W.heap.size W w' := by
  refine (compare_line x y W).mono fun e w' ⟨he, q, os, hw⟩ => ⟨he, ?_⟩
  subst hw
  refine ⟨rfl, rfl, rfl, ?_, fun i hi => ?_⟩
  · show W.heap.size ≤ (W.heap ++ os).size
    simp
  · show (W.heap ++ os)[i]? = _
    rw [Array.getElem?_append_left hi]
end Go.Proofs.YthmjkhlndphldaaGreatDoor

namespace Go.Proofs.YthmjkhlndphldaaGreatDoor
open Go Go.RowKit
set_option linter.unusedVariables false

section
variable {α : Type} {w : World} {B e sz : Nat} {enc : α → List Value} {l : List α}
theorem flatMap_set (he : Enc sz enc) (l : List α) (k j : Nat) (a : α) (u : Value) (hk : k < l.length) (hj : j < sz) (ha : enc a = (enc l[k]).set j u) : (l.set k a).flatMap enc = (l.flatMap enc).set (k * sz + j) u := by
  induction l generalizing k with
  | nil => simp at hk
  | cons x l ih =>
    cases k with
    | zero =>
      simp only [List.getElem_cons_zero] at ha
      rw [List.set_cons_zero, List.flatMap_cons, List.flatMap_cons, ha, Nat.zero_mul, Nat.zero_add, List.set_append_left _ _ (by rw [he.len]; exact hj)]
    | succ k =>
      simp only [List.getElem_cons_succ] at ha
      rw [List.set_cons_succ, List.flatMap_cons, List.flatMap_cons, ih k (by simpa using hk) ha, List.set_append_right _ _ (by rw [he.len, Nat.add_mul]; omega), he.len]
      congr 2
      rw [Nat.add_mul]; omega
theorem Own.store (he : Enc sz enc) {g n c : Nat} (h : Own w B e sz enc (.slice (some ⟨g, 0, none⟩) n c) l) (k j : Nat) (a : α) (u : Value) (hk : k < l.length) (hj : j < sz) (ha : enc a = (enc l[k]).set j u) :
    Own (w.setCell ⟨g, k * sz + j, none⟩ u) B e sz enc (.slice (some ⟨g, 0, none⟩) n c) (l.set k a) := by
  obtain ⟨h1, h2⟩ := h
  refine ⟨by rw [flatMap_len he], ?_⟩
  rcases h2 with ⟨hv, h0⟩ | ⟨g', cap, cur, hv, hB, hg, hc, hm, hs, ht⟩
  · cases hv
  · injection hv with e1 e2 e3
    injection e1 with e1
    injection e1 with e1
    subst e1 e2 e3
    refine .inr ⟨g, c, cur.setIfInBounds (k * sz + j) u, by rw [List.length_set], hB, heap_setCell_same w g _ cur e u hg, by rw [List.length_set]; exact hc, hm, by simpa using hs, ?_⟩
    rw [flatMap_set he l k j a u hk hj ha, List.length_set, ← ht, Array.toList_setIfInBounds, List.take_set]
theorem Own.cells {g n c : Nat} (he : Enc sz enc) (h : Own w B e sz enc (.slice (some ⟨g, 0, none⟩) n c) l) (k j : Nat) (u : Value) (hk : k < l.length) (hu : (enc l[k])[j]? = some u) : w.cell? ⟨g, k * sz + j, none⟩ = some u ∧ w.frozen? ⟨g, k * sz + j, none⟩ = false := by
  have hn : l.length = n := (h.rd he).1
  obtain ⟨b, off, e1, hc⟩ := (h.rd he).2 (by omega)
  rcases h.2 with ⟨hv, h0⟩ | ⟨g', cap, cur, hv, hB, hg, _⟩
  · cases hv
  · injection hv with e2
    injection e2 with e2
    injection e2 with e2
    subst e2
    injection e1 with e1
    injection e1 with e1 e3
    subst e1 e3
    have := hc k j u hk hu
    rw [Nat.zero_add] at this
    exact ⟨this, frozen_of_row w g _ _ _ hg⟩
end

/-- no amount of these is beyond m -/
def Bnd (m : Int) (o : List Line) : Prop := ∀ x, x ∈ o → -m ≤ x.amt ∧ x.amt ≤ m
theorem Bnd.step {m a : Int} {o : List Line} {x : Line} (h : Bnd m o) (ha : 0 ≤ a) (hm : 0 ≤ m) (hx : -a ≤ x.amt ∧ x.amt ≤ a) : Bnd (m + a) (grpStep o x) := by
  intro z hz
  unfold grpStep at hz
  cases hg : o.getLast? with
  | none =>
    rw [hg] at hz
    have : z = x := by simpa using hz
    subst this
    omega
  | some y =>
    rw [hg] at hz
    have hy : y ∈ o := List.mem_of_getLast? hg
    dsimp only at hz
    split at hz
    · rcases List.mem_append.1 hz with hz | hz
      · have := h z (List.dropLast_subset _ hz); omega
      · have e : z = { y with amt := y.amt + x.amt } := by simpa using hz
        have e' : z.amt = y.amt + x.amt := by rw [e]
        have := h y hy; omega
    · rcases List.mem_append.1 hz with hz | hz
      · have := h z hz; omega
      · have : z = x := by simpa using hz
        subst this; omega
theorem grp_len (o : List Line) (x : Line) : (grpStep o x).length ≤ o.length + 1 := by
  unfold grpStep
  cases hg : o.getLast? with
  | none => simp
  | some y =>
    dsimp only
    split
    · rw [List.length_append, List.length_dropLast]
      simp only [List.length_singleton]
      omega
    · simp
/-- the round's word -/
def grpTo (s : List Line) (k : Nat) : List Line := (s.take k).foldl grpStep []
theorem grpTo_succ (s : List Line) (k : Nat) (h : k < s.length) : grpTo s (k + 1) = grpStep (grpTo s k) s[k] := by
  unfold grpTo
  rw [List.take_succ_eq_append_getElem h, List.foldl_append]
  rfl
theorem grpTo_len (s : List Line) (k : Nat) (h : k ≤ s.length) : (grpTo s k).length ≤ k := by
  induction k with
  | zero => simp [grpTo]
  | succ k ih => rw [grpTo_succ s k (by omega)]; have := ih (by omega); have := grp_len (grpTo s k) (s[k]'(by omega)); omega
theorem grpTo_bnd (s : List Line) (m : Int) (hm : 0 ≤ m) (hb : Bnd m s) (k : Nat) (h : k ≤ s.length) : Bnd (k * m) (grpTo s k) := by
  induction k with
  | zero => intro x hx; simp [grpTo] at hx
  | succ k ih =>
    rw [grpTo_succ s k (by omega)]
    have := Bnd.step (ih (by omega)) hm (Int.mul_nonneg (by omega) hm) (hb (s[k]'(by omega)) (List.getElem_mem _))
    rwa [show ((k + 1 : Nat) : Int) * m = k * m + m from by rw [Int.natCast_add, Int.add_mul]; simp]
end Go.Proofs.YthmjkhlndphldaaGreatDoor

namespace Go.Proofs.YthmjkhlndphldaaGreatDoor
open Go Go.RowKit
set_option linter.unusedVariables false

theorem Rd.boxedAt {α : Type} {enc : α → List Value} (w : World) {sz : Nat} (he : Enc sz enc) (x : α) (cs : Array Value) (e : TypeId) (hcs : cs.toList = enc x) (g : Nat) (hg : g = w.heap.size) : Rd (w.alloc (.cells cs e)) sz enc (some ⟨g, 0, none⟩) 1 [x] := by
  subst hg; exact Rd.boxed w he x cs e hcs

theorem grpStep_same {o : List Line} {y x : Line} {p : Nat} (hg : o.getLast? = some y) (hp : o.length = p + 1) (hk : y.key = x.key) : grpStep o x = o.set p { y with amt := y.amt + x.amt } := by
  unfold grpStep
  rw [hg]
  dsimp only
  rw [if_pos hk]
  have hd : o.dropLast.length = p := by rw [List.length_dropLast, hp]; rfl
  conv => rhs; rw [getLast_split hg, List.set_append_right _ _ (by omega), hd, Nat.sub_self]
  rfl
theorem grpStep_new {o : List Line} {y x : Line} (hg : o.getLast? = some y) (hk : ¬ y.key = x.key) : grpStep o x = o ++ [x] := by
  unfold grpStep
  rw [hg]
  dsimp only
  rw [if_neg hk]

theorem Own.wider {α : Type} {w : World} {B C e sz : Nat} {enc : α → List Value} {v : Value} {l : List α} (h : Own w C e sz enc v l) (hB : B ≤ C) : Own w B e sz enc v l := by
  refine ⟨h.1, ?_⟩
  rcases h.2 with h2 | ⟨g, cap, cur, h1, h2, h3⟩
  · exact .inl h2
  · exact .inr ⟨g, cap, cur, h1, Nat.le_trans hB h2, h3⟩

theorem grp_canon_to {l s : List Line} (hp : s.Perm l) (hw : WSort s) : grpTo s s.length = canon l := by
  unfold grpTo
  rw [List.take_length]
  exact grp_canon hp hw

set_option maxHeartbeats 4000000 in
set_option maxRecDepth 100000 in
theorem grouped_any (l : List Line) (A : Option Addr) (n c : Nat) (w : World) (h : Rd w 3 lineEnc A n l) (hn : n ≤ 20) (hA : A = none → c = 0) (hb : Bnd 1000000000000000 l) :
    Calls Tryz.prog 78 #[.slice A n c] w fun e w' => ∃ v, e = .returned v ∧ Own w' w.heap.size 35 3 lineEnc v (canon l) ∧ Below w.heap.size w w' := by
  obtain ⟨i0, hi0, hz0, hz1, hz2⟩ := info_parts line_info
  have Hn := hide h.1
  go_enter Tryz.func78, Tryz.ntmps78
  go_wp2_with fail
  refine (clone_lines l A n c _ h hn hA).mono ?_
  rintro e w1 ⟨v, rfl, hown1, hb1⟩
  go_wp2_with fail
  refine (sort_lines l _ v _ hown1 hb1.size (by rw [Hn.out]; exact hn)).mono ?_
  rintro e w2 ⟨rfl, s, hp, hs, hown2, hb2⟩
  have hb2 := hb1.trans hb2
  have hsn : s.length ≤ 20 := by rw [hp.length_eq, Hn.out]; exact hn
  have HF := hide (grp_canon_to hp hs)
  have hbs : Bnd 1000000000000000 s := fun x hx => hb x (hp.mem_iff.1 hx)
  clear hown1 hp hs
  obtain ⟨VA, vc, rfl, hvc, hvm⟩ := hown2.form
  go_wp2_with fail
  go_loopw [2, 12] (fun ov iv wr => ∃ k : Nat, k ≤ s.length ∧ iv = .int .i64 k ∧ Own wr w2.heap.size 35 3 lineEnc ov (grpTo s k) ∧ Below w2.heap.size w2 wr) (fun _ iv _ => s.length - (intOf iv).toNat)
  case atStart => exact ⟨0, by omega, rfl, Own.nil _ _ _ _ _, Below.refl _ _⟩
  case round =>
    obtain ⟨k, hk, rfl, hown, hbr⟩ := hrel
    by_cases hlt : k < s.length
    · obtain ⟨b, off, rfl, hcs⟩ := (hown2.rd lineEnc_ok).2 (by omega)
      have q0 := below_cell hbr (World.block_lt_of_cell? _ _ (hcs k 0 _ hlt rfl)) (hcs k 0 _ hlt rfl)
      have q1 := below_cell hbr (World.block_lt_of_cell? _ _ (hcs k 1 _ hlt rfl)) (hcs k 1 _ hlt rfl)
      have q2 := below_cell hbr (World.block_lt_of_cell? _ _ (hcs k 2 _ hlt rfl)) (hcs k 2 _ hlt rfl)
      rw [Nat.add_zero] at q0
      clear hcs
      have hstep := grpTo_succ s k hlt
      have hgl := grpTo_len s k hk
      have hgb := grpTo_bnd s _ (by omega) hbs k hk
      have hxb := hbs s[k] (List.getElem_mem _)
      have hk0 : (0 : Int) ≤ (k : Int) := by omega
      have hk1 : (k : Int) < (s.length : Int) := by omega
      obtain ⟨UA, uc, rfl, huc, hum⟩ := hown.form
      generalize grpTo s k = o at hstep hgl hgb hown huc ⊢
      cases hg : o.getLast? with
      | none =>
        have ho : o = [] := by simpa using hg
        subst ho
        have hd : decide ((0 : Int) ≤ (-1 : Int)) = false := by decide
        go_wp2_with fail
        go_quiet (fail)
        go_wp2_with (first | (at_builtin; go_loud (refine wpList_push _ rfl _ _ 23 rfl w2.heap.size 35 i0 zeroLine 3 40 Tryz.underlying23 hi0 hz0 hz1 hz2 rfl (by decide) lineEnc_ok _ [] rfl (Own.below hown ((bdrewN ((Below.refl _ _).alloc (Nat.le_refl _) _) _).alloc (by simp) _)) _ 1 1 [s[k]] rfl (Rd.boxedAt _ lineEnc_ok s[k] _ _ rfl _ (by simp)) (by intro h; cases h) (by simp [maxLen]) (by simp) (by have := hbr.size; simp; omega) ?_); intro v' w3 hown3 hg3 hat3))
        go_roundw
        case rel => exact ⟨k + 1, by omega, by go_num, by rw [hstep]; exact hown3, (hbr.trans (((bdrewN ((Below.refl _ _).alloc hbr.size _) _).alloc (by have := hbr.size; simp; omega) _).grown hg3 (by have := hbr.size; simp; omega) (fun k e => (hown.block k e).1)))⟩
        case measure => simp [intOf]; omega
      | some y =>
        have hy : o ≠ [] := by rintro rfl; cases hg
        obtain ⟨p, hp⟩ : ∃ p, o.length = p + 1 := ⟨o.length - 1, by have := List.length_pos_iff.2 hy; omega⟩
        have hyp : o[p]'(by omega) = y := by
          rw [List.getLast?_eq_getElem?, hp, Nat.add_sub_cancel, List.getElem?_eq_getElem (by omega)] at hg
          injection hg
        obtain ⟨gu, hUA⟩ : ∃ gu, UA = some ⟨gu, 0, none⟩ := by
          rcases hown.2 with ⟨hv, h0⟩ | ⟨g', cap, cur, hv, _⟩
          · omega
          · injection hv with e1; exact ⟨g', e1⟩
        subst hUA
        have c0 := hown.cells lineEnc_ok p 0 (.string y.acc) (by omega) (by rw [hyp]; rfl)
        have c1 := hown.cells lineEnc_ok p 1 (.string y.cur) (by omega) (by rw [hyp]; rfl)
        have c2 := hown.cells lineEnc_ok p 2 (.int .i64 y.amt) (by omega) (by rw [hyp]; rfl)
        rw [Nat.add_zero] at c0
        have hyb := hgb y (List.mem_of_getLast? hg)
        have hgu : gu < wr.heap.size := World.block_lt_of_cell? _ _ c0.1
        rw [hp] at hown ⊢
        have HG := hide hg
        have HP := hide hp
        have HY := hide hyp
        have HS := hide hstep
        have p0 : (0 : Int) ≤ (p : Int) := by omega
        have p1 : p ≤ 20 := by omega
        have p2 : (p : Int) < (p : Int) + 1 := by omega
        clear hg hstep hy
        have x0 : (wr.alloc (.cells #[.string s[k].acc, .string s[k].cur, .int .i64 s[k].amt] 35)).cell? ⟨wr.heap.size, 0, none⟩ = some (.string s[k].acc) := by simp
        have x1 : (wr.alloc (.cells #[.string s[k].acc, .string s[k].cur, .int .i64 s[k].amt] 35)).cell? ⟨wr.heap.size, 1, none⟩ = some (.string s[k].cur) := by simp
        have x2 : (wr.alloc (.cells #[.string s[k].acc, .string s[k].cur, .int .i64 s[k].amt] 35)).cell? ⟨wr.heap.size, 2, none⟩ = some (.int .i64 s[k].amt) := by simp
        have hbx : Below wr.heap.size wr (wr.alloc (.cells #[.string s[k].acc, .string s[k].cur, .int .i64 s[k].amt] 35)) := (Below.refl _ _).alloc (Nat.le_refl _) _
        have d0 := below_cell hbx hgu c0.1
        have d1 := below_cell hbx hgu c1.1
        have d2 := below_cell hbx hgu c2.1
        have hxs : wr.heap.size < (wr.alloc (.cells #[.string s[k].acc, .string s[k].cur, .int .i64 s[k].amt] 35)).heap.size := by simp
        go_wp2_with fail
        generalize (wr.alloc (.cells #[.string s[k].acc, .string s[k].cur, .int .i64 s[k].amt] 35)) = W1 at x0 x1 x2 hbx d0 d1 d2 hxs ⊢
        refine wp_region_still_tail 8 (by kernel_rfl) (by kernel_rfl) ?_
        simp only [List.take_succ_cons, List.take_zero, List.drop_succ_cons, List.drop_zero]
        change wpStill _ _ W1.drew _ _ _
        repeat still_step
        refine wpStill_nil ?_
        change wpList _ _ _ _ _ W1.drew
        by_cases hkey : y.key = s[k].key
        · have e1 : (cmpL y s[k] == 0) = true := by rw [beq_iff_eq]; exact (cmpL_0 _ _).2 hkey
          have HK := hide hkey
          clear hkey
          go_wp2_with (first | (go_at_call 122; refine (compare_below y s[k] _).mono ?_; rintro e w4 ⟨rfl, hb4⟩))
          have hb14 : Below wr.heap.size wr w4 := (show Below wr.heap.size wr W1.drew from bdrewN hbx 1).trans (hb4.mono (Nat.le_of_lt hxs))
          have d24 : w4.cell? ⟨gu, p * 3 + 2, none⟩ = some (.int .i64 y.amt) := below_cell hb14 hgu c2.1
          have f24 : w4.frozen? ⟨gu, p * 3 + 2, none⟩ = false := (hb14.frozen (p := ⟨gu, p * 3 + 2, none⟩) hgu).trans c2.2
          have x24 : w4.cell? ⟨wr.heap.size, 2, none⟩ = some (.int .i64 s[k].amt) := below_cell hb4 hxs x2
          have a0 : -30000000000000000 ≤ y.amt := by omega
          have a1 : y.amt ≤ 30000000000000000 := by omega
          have a2 : -30000000000000000 ≤ s[k].amt := by omega
          have a3 : s[k].amt ≤ 30000000000000000 := by omega
          clear d0 d1 d2 x0 x1 x2 c0 c1
          refine wp_region_still_tail 10 (by kernel_rfl) (by kernel_rfl) ?_
          simp only [List.take_succ_cons, List.take_zero, List.drop_succ_cons, List.drop_zero]
          change wpStill _ _ w4.drew _ _ _
          repeat still_step
          refine wpStill_nil ?_
          change wpList _ _ _ _ _ w4.drew
          go_wp2_with fail
          go_roundw
          case rel =>
            have hd4 : Below wr.heap.size wr w4.drew := bdrewN hb14 1
            have hst := Own.store lineEnc_ok (hown.below hd4) p 2 { y with amt := y.amt + s[k].amt } (.int .i64 (y.amt + s[k].amt)) (by have := HP.out; omega) (by omega) (by have e : o[p]'(by have := HP.out; omega) = y := HY.out; rw [e]; rfl)
            exact ⟨k + 1, by omega, by go_num, by rw [HS.out, grpStep_same HG.out HP.out HK.out]; exact hst, (hbr.trans (hd4.mono hbr.size)).setCell (hown.block gu rfl).1 _⟩
          case measure => simp [intOf]; omega
        · have e1 : (cmpL y s[k] == 0) = false := by rw [beq_eq_false_iff_ne]; exact fun h => hkey ((cmpL_0 _ _).1 h)
          have HK := hide hkey
          clear hkey
          have hol : o.length ≤ 20 := by omega
          go_wp2_with (first | (at_builtin; go_loud (refine wpList_push _ rfl _ _ 23 rfl w2.heap.size 35 i0 zeroLine 3 40 Tryz.underlying23 hi0 hz0 hz1 hz2 rfl (by decide) lineEnc_ok _ o rfl (Own.below hown (hb14.trans ((Below.refl _ _).alloc hb14.size _))) _ 1 1 [s[k]] rfl (Rd.boxedAt _ lineEnc_ok s[k] _ _ rfl _ (by simp)) (by intro h; cases h) (by simp only [maxLen]; omega) (by omega) (by simp; omega) ?_); intro v' w5 hown5 hg5 hat5) | (go_at_call 122; refine (compare_below y s[k] _).mono ?_; rintro e w4 ⟨rfl, hb4⟩; have hb14 : Below wr.heap.size wr w4 := (show Below wr.heap.size wr W1.drew from bdrewN hbx 1).trans (hb4.mono (Nat.le_of_lt hxs)); have y0 : w4.cell? ⟨wr.heap.size, 0, none⟩ = some (.string s[k].acc) := below_cell hb4 hxs x0; have y1 : w4.cell? ⟨wr.heap.size, 1, none⟩ = some (.string s[k].cur) := below_cell hb4 hxs x1; have y2 : w4.cell? ⟨wr.heap.size, 2, none⟩ = some (.int .i64 s[k].amt) := below_cell hb4 hxs x2; have hs4 := hbr.size; have hs5 := hb14.size))
          go_roundw
          case rel => exact ⟨k + 1, by omega, by go_num, by rw [HS.out, grpStep_new HG.out HK.out]; exact hown5, (((hbr.trans (hb14.mono hbr.size)).alloc (by omega) _).grown hg5 (by simp; omega) (fun k e => (hown.block k e).1))⟩
          case measure => simp [intOf]; omega
    · go_wp2_with fail
      have hks : k = s.length := by omega
      subst hks
      go_ret
      exact ⟨_, rfl, by rw [← HF.out]; exact Own.wider hown hb2.size, hb2.trans (hbr.mono hb2.size)⟩
end Go.Proofs.YthmjkhlndphldaaGreatDoor
