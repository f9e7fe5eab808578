/- R.Shares: what it keeps: what is left, the shares, what is cut off; each number in blocks of its own. -/
import Derived.Test.YtbdbpcllndajgaaGreatDoorQbX
import Derived.Test.YtbdbpcllndajgaaGreatDoorGivX
import Derived.Test.YtbdbpcllndajgaaGreatDoorShrY
import Derived.Test.YtbdbpcllndajgaaGreatDoorEntX
import Derived.Test.YtbdbpcllndajgaaGreatDoorQbZ
import Derived.Deep.LoopGhost
import Derived.Deep.CutRange
namespace Go.Proofs.YtbdbpcllndajgaaGreatDoor
open Go Go.RowKit
set_option linter.unusedVariables false

/-- what the reference gives: the rounded shares, and what is left one by one to the greatest rest -/
def refSh (T : Int) (ws : List Int) : List Int :=
  greedy (T - (ws.map (shQ T (sumTo ws ws.length))).sum).sign (T - (ws.map (shQ T (sumTo ws ws.length))).sum).natAbs (ws.map (shQ T (sumTo ws ws.length))) (ws.map fun x => (shM T (sumTo ws ws.length) x : Int))
theorem rest_rel {ms : List Int} {f : Nat → Nat} (hf : ∀ j, j < ms.length → ms.getD j 0 = (f j : Int)) {ord : List Nat} (hl : ∀ j ∈ ord, j < ms.length) (h : ord.Pairwise (RestN f)) : ord.Pairwise (RestR ms) := by
  refine (List.Pairwise.and_mem.1 h).imp fun {a b} hab => ?_
  obtain ⟨ha, hb, hr⟩ := hab
  unfold RestR
  rw [hf a (hl a ha), hf b (hl b hb)]
  rcases hr with h | ⟨h1, h2⟩
  · exact .inl (by omega)
  · exact .inr ⟨by omega, h2⟩
/-- both give the same -/
theorem shared_is {T : Int} {ws out : List Int} (hw : shE ws = 0) (h : Shared T ws out) : out = refSh T ws := by
  obtain ⟨ord, hp, ho, rfl⟩ := h
  obtain ⟨_, h2, h3⟩ := shE_good hw
  have hlen : (ws.map fun x => (shM T (sumTo ws ws.length) x : Int)).length = ws.length := by simp
  have hmem : ∀ j ∈ ord, j < ws.length := fun j hj => List.mem_range.1 (hp.mem_iff.1 hj)
  have hget : ∀ j, j < (ws.map fun x => (shM T (sumTo ws ws.length) x : Int)).length → (ws.map fun x => (shM T (sumTo ws ws.length) x : Int)).getD j 0 = (shM T (sumTo ws ws.length) (ws.getD j 0) : Int) := by
    intro j hj
    rw [hlen] at hj
    rw [List.getD_eq_getElem?_getD, List.getElem?_map, List.getElem?_eq_getElem hj, List.getD_eq_getElem?_getD, List.getElem?_eq_getElem hj]
    rfl
  have hO : Order (ws.map fun x => (shM T (sumTo ws ws.length) x : Int)) (ws.map fun x => (shM T (sumTo ws ws.length) x : Int)) ord := by
    refine order_start (by rw [hlen]; exact hp) (rest_rel hget (by rw [hlen]; exact hmem) ho) (fun j hj => ?_)
    rw [hget j hj]; omega
  obtain ⟨e1, e2, e3⟩ := sh_left_end (T := T) h3 (fun x hx => (h2 x hx).1) rfl
  have hsl : sumTo (ws.map (shQ T (sumTo ws ws.length))) ws.length = (ws.map (shQ T (sumTo ws ws.length))).sum := by
    have := sumTo_eq_sum (ws.map (shQ T (sumTo ws ws.length)))
    rwa [List.length_map] at this
  rw [hsl] at e3
  have hol : ord.length = ws.length := by rw [hp.length_eq, List.length_range]
  unfold refSh
  exact (greedy_bump _ ord _ _ _ _ (by omega) hO).symm

def pEnc (x : Nat × Int) : List Value := [.pointer (some ⟨x.1, 0, none⟩)]
theorem pEnc_ok : Enc 1 pEnc := ⟨fun _ => rfl, by
  intro a u hu
  simp only [pEnc, List.mem_singleton] at hu
  subst hu; rfl⟩
theorem qptr_info : (Tryz.prog.info? 74).map (fun i => (i.zero, i.size, i.bytes)) = some (some (.pointer none), 1, 8) := by kernel_rfl

structure ShR (w0 w : World) (gl : Nat) (lv : Int) (ov cv : Value) (outs : List Int) (cs ns : List (Nat × Int)) : Prop where
  left : QAt w w0.heap.size gl lv
  lf1 : QFree w gl ov.ownBlock
  lf2 : QFree w gl cv.ownBlock
  out : Own w w0.heap.size 3 1 intEnc2 ov outs
  cut : Own w w0.heap.size 74 1 pEnc cv cs
  ne : ∀ k, ov.ownBlock = some k → cv.ownBlock ≠ some k
  nums : ∀ x ∈ ns, QAt w w0.heap.size x.1 x.2 ∧ QFree w x.1 (some gl) ∧ QFree w x.1 ov.ownBlock ∧ QFree w x.1 cv.ownBlock
  has : ∀ x ∈ cs, x ∈ ns
  bel : Below w0.heap.size w0 w
section
variable {w0 w w' : World} {gl : Nat} {lv lv' : Int} {ov cv ov' cv' : Value} {outs outs' : List Int} {cs cs' ns : List (Nat × Int)}
theorem ShR.below (h : ShR w0 w gl lv ov cv outs cs ns) (hb : Below w.heap.size w w') : ShR w0 w' gl lv ov cv outs cs ns :=
  ⟨h.left.below hb, h.lf1.below h.left hb, h.lf2.below h.left hb, h.out.below hb, h.cut.below hb, h.ne, fun x hx => by obtain ⟨a, b, c, d⟩ := h.nums x hx; exact ⟨a.below hb, b.below a hb, c.below a hb, d.below a hb⟩, h.has, bthen h.bel (Nat.le_refl _) hb⟩
theorem ShR.glo (h : ShR w0 w gl lv ov cv outs cs ns) : ov.ownBlock ≠ some gl ∧ cv.ownBlock ≠ some gl := ⟨h.lf1.1, h.lf2.1⟩
/-- what is left turns -/
theorem ShR.sub (h : ShR w0 w gl lv ov cv outs cs ns) (hg : w.grownBy w' (some gl)) (hQ : QAt w' w0.heap.size gl lv') (hF : ∀ r : Option Nat, r ≠ some gl → (∀ q, r = some q → q < w.heap.size) → QFree w' gl r) (hb : Below w0.heap.size w w') : ShR w0 w' gl lv' ov cv outs cs ns :=
  ⟨hQ, hF _ h.glo.1 (fun q e => (h.out.block q e).2), hF _ h.glo.2 (fun q e => (h.cut.block q e).2), h.out.grown hg (.inr h.glo.1), h.cut.grown hg (.inr h.glo.2), h.ne,
    fun x hx => by obtain ⟨a, b, c, d⟩ := h.nums x hx; obtain ⟨e, f⟩ := a.grown b hg; exact ⟨e, f _ b, f _ c, f _ d⟩, h.has, h.bel.trans hb⟩
/-- one number more is kept -/
theorem ShR.add (h : ShR w0 w gl lv ov cv outs cs ns) {g : Nat} {x : Int} {B : Nat} (hQ : QAt w w0.heap.size g x) (hB : B ≤ g) (hgl : gl < B) (ho : ∀ k, ov.ownBlock = some k → k < B) (hc : ∀ k, cv.ownBlock = some k → k < B) (hF : ∀ r : Option Nat, r ≠ some g → (∀ q, r = some q → q < B) → QFree w g r) : ShR w0 w gl lv ov cv outs cs ((g, x) :: ns) :=
  ⟨h.left, h.lf1, h.lf2, h.out, h.cut, h.ne, fun y hy => by
    rcases List.mem_cons.1 hy with rfl | hy
    · refine ⟨hQ, hF _ (fun e => by injection e with e; omega) (fun q e => by injection e with e; omega), hF _ (fun e => by have := ho g e; omega) ho, hF _ (fun e => by have := hc g e; omega) hc⟩
    · exact h.nums y hy, fun y hy => List.mem_cons_of_mem _ (h.has y hy), h.bel⟩
theorem QAt.newFree {g : Nat} {x : Int} {B : Nat} {r : Option Nat} (hQ : QAt w B g x) (hf : QFree w g r) (hg : w.grownBy w' r) : QFree w' g (some w.heap.size) := (hQ.grown hf hg).2 _ (QFree.new hQ (Nat.le_refl _))
theorem ShR.pushOut (h : ShR w0 w gl lv ov cv outs cs ns) (hown : Own w' w0.heap.size 3 1 intEnc2 ov' outs') (hg : w.grownBy w' ov.ownBlock) (hat : ov'.ownBlock = ov.ownBlock ∨ ov'.ownBlock = some w.heap.size) : ShR w0 w' gl lv ov' cv outs' cs ns := by
  obtain ⟨l1, l2⟩ := h.left.grown h.lf1 hg
  have hc : cv.ownBlock = none ∨ cv.ownBlock ≠ ov.ownBlock := by
    cases hv : cv.ownBlock with
    | none => exact .inl rfl
    | some k => exact .inr (fun e => h.ne k e.symm hv)
  refine ⟨l1, ?_, l2 _ h.lf2, hown, h.cut.grown hg hc, ?_, fun x hx => ?_, h.has, h.bel.grown hg h.bel.size (fun k e => (h.out.block k e).1)⟩
  · rcases hat with e | e
    · rw [e]; exact l2 _ h.lf1
    · rw [e]; exact h.left.newFree h.lf1 hg
  · intro k hk hk2
    rcases hat with e | e
    · rw [e] at hk; exact h.ne k hk hk2
    · rw [e] at hk; injection hk with hk; have := (h.cut.block k hk2).2; omega
  · obtain ⟨a, b, c, d⟩ := h.nums x hx
    obtain ⟨e1, f1⟩ := a.grown c hg
    refine ⟨e1, f1 _ b, ?_, f1 _ d⟩
    rcases hat with e | e
    · rw [e]; exact f1 _ c
    · rw [e]; exact a.newFree c hg
theorem ShR.pushCut (h : ShR w0 w gl lv ov cv outs cs ns) (hown : Own w' w0.heap.size 74 1 pEnc cv' cs') (hg : w.grownBy w' cv.ownBlock) (hat : cv'.ownBlock = cv.ownBlock ∨ cv'.ownBlock = some w.heap.size) (hcs : ∀ x ∈ cs', x ∈ ns) : ShR w0 w' gl lv ov cv' outs cs' ns := by
  obtain ⟨l1, l2⟩ := h.left.grown h.lf2 hg
  have hc : ov.ownBlock = none ∨ ov.ownBlock ≠ cv.ownBlock := by
    cases hv : ov.ownBlock with
    | none => exact .inl rfl
    | some k => exact .inr (fun e => h.ne k hv e.symm)
  refine ⟨l1, l2 _ h.lf1, ?_, h.out.grown hg hc, hown, ?_, fun x hx => ?_, hcs, h.bel.grown hg h.bel.size (fun k e => (h.cut.block k e).1)⟩
  · rcases hat with e | e
    · rw [e]; exact l2 _ h.lf2
    · rw [e]; exact h.left.newFree h.lf2 hg
  · intro k hk hk2
    rcases hat with e | e
    · rw [e] at hk2; exact h.ne k hk hk2
    · rw [e] at hk2; injection hk2 with hk2; have := (h.out.block k hk).2; omega
  · obtain ⟨a, b, c, d⟩ := h.nums x hx
    obtain ⟨e1, f1⟩ := a.grown d hg
    refine ⟨e1, f1 _ b, f1 _ c, ?_⟩
    rcases hat with e | e
    · rw [e]; exact f1 _ d
    · rw [e]; exact a.newFree d hg
/-- a store into the shares -/
theorem ShR.setOut {g n c k : Nat} {y : Int} (h : ShR w0 w gl lv (.slice (some ⟨g, 0, none⟩) n c) cv outs cs ns) (hk : k < outs.length) : ShR w0 (w.setCell ⟨g, k, none⟩ (.int .i64 y)) gl lv (.slice (some ⟨g, 0, none⟩) n c) cv (outs.set k y) cs ns := by
  have hst := h.out.store intEnc2_ok k 0 y (.int .i64 y) hk (by decide) rfl
  rw [Nat.mul_one, Nat.add_zero] at hst
  exact h.pushOut hst (only_setCell (only_refl w (some g)) _ _) (.inl rfl)
theorem ShR.setCut {g n c k : Nat} {y : Nat × Int} (h : ShR w0 w gl lv ov (.slice (some ⟨g, 0, none⟩) n c) outs cs ns) (hk : k < cs.length) (hy : y ∈ ns) : ShR w0 (w.setCell ⟨g, k, none⟩ (.pointer (some ⟨y.1, 0, none⟩))) gl lv ov (.slice (some ⟨g, 0, none⟩) n c) outs (cs.set k y) ns := by
  have hst := h.cut.store pEnc_ok k 0 y (.pointer (some ⟨y.1, 0, none⟩)) hk (by decide) rfl
  rw [Nat.mul_one, Nat.add_zero] at hst
  refine h.pushCut hst (only_setCell (only_refl w (some g)) _ _) (.inl rfl) (fun x hx => ?_)
  rcases List.mem_or_eq_of_mem_set hx with h1 | h1
  · exact h.has x h1
  · rw [h1]; exact hy
end
end Go.Proofs.YtbdbpcllndajgaaGreatDoor

namespace Go.Proofs.YtbdbpcllndajgaaGreatDoor
open Go Go.RowKit
set_option linter.unusedVariables false

theorem sumTo_abs {qs : List Int} {M : Nat} (h : ∀ x ∈ qs, x.natAbs ≤ M) : ∀ k, k ≤ qs.length → (sumTo qs k).natAbs ≤ k * M := by
  intro k
  induction k with
  | zero => intro _; simp [sumTo]
  | succ k ih =>
    intro hk
    have h1 := ih (by omega)
    have h2 := h _ (List.getElem_mem (show k < qs.length by omega))
    rw [sumTo_succ qs k (by omega), Nat.add_mul, Nat.one_mul]
    omega
theorem le_sum_of {ws : List Int} (h : ∀ x ∈ ws, 0 ≤ x ∧ x ≤ 1000000000) : ∀ x ∈ ws, x ≤ sumTo ws ws.length := by
  rw [sumTo_eq_sum]
  exact (sum_nonneg ws fun x hx => (h x hx).1).2
theorem take_next {α : Type} (l : List α) (i : Nat) (h : i < l.length) : l.take (i + 1) = l.take i ++ [l[i]] := List.take_succ_eq_append_getElem h

set_option maxHeartbeats 4000000 in
set_option maxRecDepth 100000 in
theorem refShares_bad (T : Int) (ws : List Int) (A : Option Addr) (n c : Nat) (w : World) (hn20 : n ≤ 20) (ha : Rd w 1 intEnc2 A n ws) (hbad : shE ws ≠ 0) :
    Calls Tryz.prog 16 #[.int .i64 T, .slice A n c] w fun e w' => e = .returned (.tuple #[.slice none 0 0, .int .i64 (shE ws)]) ∧ Below w.heap.size w w' := by
  have hln : ws.length = n := ha.1
  have h40 : ¬ 40 < ws.length := by omega
  have h40' : ¬ (40 : Int) < (n : Int) := by omega
  have HN := hide hln
  have HB := hide hbad
  clear hln hbad
  go_enter Tryz.func16, Tryz.ntmps16
  go_wp2_with fail
  clear h40'
  go_loopw [6, 7] (fun sv iv wr => w = wr ∧ ∃ k : Nat, k ≤ n ∧ iv = .int .i64 k ∧ sv = .int .i64 (sumTo ws k) ∧ Hid (∀ (j : Nat) (h : j < ws.length), j < k → ratB ws[j] = true)) (fun _ iv _ => n - (intOf iv).toNat)
  case atStart => exact ⟨rfl, 0, by omega, rfl, rfl, fun j _ h => absurd h (by omega)⟩
  case round =>
    obtain ⟨rfl, k, hk, rfl, rfl, HRT⟩ := hrel
    by_cases hlt : k < n
    · have hkl : k < ws.length := by have := HN.out; omega
      obtain ⟨b, off, rfl, hcs⟩ := ha.2 (by omega)
      have q0 := hcs k 0 _ hkl rfl
      simp only [Nat.mul_one, Nat.add_zero] at q0
      clear hcs
      have k0 : (0 : Int) ≤ (k : Int) := by omega
      have k1 : (k : Int) < (n : Int) := by omega
      obtain ⟨s0, s1⟩ := sumTo_rat k (by omega) HRT.out
      have hsu := sumTo_succ ws k hkl
      obtain ⟨x, hx⟩ : ∃ x, x = ws[k] := ⟨_, rfl⟩
      rw [← hx] at q0 hsu
      have HX := hide hx
      clear hx
      cases hr : ratB x with
      | true =>
        have hx01 : 0 ≤ x ∧ x ≤ 1000000000 := by unfold ratB inB at hr; simpa using hr
        obtain ⟨x0, x1⟩ := hx01
        have x0' : ¬ x < 0 := by omega
        have x1' : ¬ (1000000000 : Int) < x := by omega
        have hsn : sumTo ws k + x ≤ 9223372036854775807 ∧ -9223372036854775808 ≤ sumTo ws k + x := by omega
        have hw : wrap64 (sumTo ws k + x) = sumTo ws (k + 1) := by rw [hsu]; simp only [wrap64]; omega
        have HS : Hid (∀ (j : Nat) (h : j < ws.length), j < k + 1 → ratB ws[j] = true) := by
          intro j h hj
          by_cases e : j = k
          · subst e; rw [← HX.out]; exact hr
          · exact HRT.out j h (by omega)
        have HSU := hide hsu
        clear hr hsu
        go_wp2_with fail
        go_roundw
        case rel => exact ⟨by first | rfl | trivial, k + 1, by omega, by go_num, by first | (rw [HSU.out]; done) | (congr 1; have := HSU.out; omega), HS⟩
        case measure => simp [intOf]; omega
      | false =>
        have he : shE ws = 1 := shE_1 h40 (by
          cases hall : ws.all ratB with
          | false => rfl
          | true =>
            have := List.all_eq_true.1 hall ws[k] (List.getElem_mem hkl)
            rw [← HX.out, hr] at this; cases this)
        have HE := hide he
        have hx01 : x < 0 ∨ 1000000000 < x := by
          unfold ratB inB at hr
          simp at hr
          omega
        clear he hsu hr
        rcases hx01 with h1 | h1
        · go_wp2_with fail
          go_ret2
          exact ⟨by rw [HE.out]; rfl, Below.refl _ _⟩
        · have h2 : ¬ x < 0 := by omega
          go_wp2_with fail
          go_ret2
          exact ⟨by rw [HE.out]; rfl, Below.refl _ _⟩
    · have hkn : k = n := by omega
      subst hkn
      have hall : ws.all ratB = true := by
        rw [List.all_eq_true]
        intro x hx
        obtain ⟨j, hj, rfl⟩ := List.getElem_of_mem hx
        exact HRT.out j hj (by have := HN.out; omega)
      have hs0 : sumTo ws ws.length = 0 := by
        by_cases h : sumTo ws ws.length = 0
        · exact h
        · exact absurd (shE_0 h40 hall h) HB.out
      have HE : Hid (shE ws = 6) := shE_6 h40 hall hs0
      have hs0' : sumTo ws k = 0 := by rw [← HN.out]; exact hs0
      rw [hs0']
      clear hs0 hs0' hall
      go_wp2_with fail
      go_ret2
      exact ⟨by rw [HE.out]; rfl, Below.refl _ _⟩

theorem Own.formS {α : Type} {w : World} {B e sz : Nat} {enc : α → List Value} {v : Value} {l : List α} (h : Own w B e sz enc v l) (hl : 0 < l.length) : ∃ g c, v = .slice (some ⟨g, 0, none⟩) l.length c := by
  rcases h.2 with ⟨hv, h0⟩ | ⟨g, cap, cur, hv, _⟩
  · omega
  · exact ⟨g, cap, hv⟩
/-- the greedy part's state -/
structure GrS (w0 w : World) (gl K : Nat) (sg : Int) (ov cv : Value) (n fu : Nat) (out : List Int) (cs ns : List (Nat × Int)) (R : List Int) : Prop where
  sh : ShR w0 w gl (sg * (fu : Int)) ov cv out cs ns
  gr : greedy sg fu out (cs.map (·.2)) = R
  ol : out.length = n
  cl : cs.length = n
  ob : ∀ y ∈ out, y.natAbs + fu ≤ 1000000000000000 + K
  cb : ∀ x ∈ cs, x.2.natAbs ≤ 20000000000
theorem GrS.below {w0 w w' : World} {gl K n fu : Nat} {sg : Int} {ov cv : Value} {out : List Int} {cs ns : List (Nat × Int)} {R : List Int} (h : GrS w0 w gl K sg ov cv n fu out cs ns R) (hb : Below w.heap.size w w') : GrS w0 w' gl K sg ov cv n fu out cs ns R := ⟨h.sh.below hb, h.gr, h.ol, h.cl, h.ob, h.cb⟩

set_option maxHeartbeats 8000000 in
set_option maxRecDepth 100000 in
/-- what is left is given one by one -/
theorem refShares_ok (T : Int) (ws : List Int) (A : Option Addr) (n c : Nat) (w : World) (hT0 : -1000000000000000 ≤ T) (hT1 : T ≤ 1000000000000000) (hn20 : n ≤ 20) (ha : Rd w 1 intEnc2 A n ws) (hok : shE ws = 0) :
    Calls Tryz.prog 16 #[.int .i64 T, .slice A n c] w fun e w' => ∃ v, e = .returned (.tuple #[v, .int .i64 0]) ∧ Own w' w.heap.size 3 1 intEnc2 v (refSh T ws) ∧ Below w.heap.size w w' := by
  obtain ⟨i0, hi0, hz0, hz1, hz2⟩ := info_parts int_infoS
  obtain ⟨j0, hj0, hx0, hx1, hx2⟩ := info_parts qptr_info
  have hln : ws.length = n := ha.1
  have h40' : ¬ (40 : Int) < (n : Int) := by omega
  obtain ⟨_, hwr, hS0⟩ := shE_good hok
  have hle := le_sum_of hwr
  have HRT : Hid (∀ (j : Nat) (h : j < ws.length), ratB ws[j] = true) := by
    intro j h
    have := hwr _ (List.getElem_mem h)
    unfold ratB inB
    simp; omega
  have hSn := (sumTo_rat ws.length (Nat.le_refl _) (fun j h _ => HRT.out j h)).2
  obtain ⟨S, hS⟩ : ∃ S, S = sumTo ws ws.length := ⟨_, rfl⟩
  obtain ⟨qs, hqs⟩ : ∃ qs, qs = ws.map (shQ T S) := ⟨_, rfl⟩
  obtain ⟨ms, hms⟩ : ∃ ms : List Int, ms = ws.map (fun x => (shM T S x : Int)) := ⟨_, rfl⟩
  have hql : qs.length = n := by rw [hqs, List.length_map]; exact hln
  have hml : ms.length = n := by rw [hms, List.length_map]; exact hln
  rw [← hS] at hle hSn hS0
  have hSb : S ≤ 20000000000 := by omega
  have hqb : ∀ x ∈ qs, x.natAbs ≤ T.natAbs := by
    intro x hx
    rw [hqs] at hx
    obtain ⟨y, hy, rfl⟩ := List.mem_map.1 hx
    exact shQ_bound hS0 (hwr y hy).1 (hle y hy)
  have hmb : ∀ x ∈ ms, x.natAbs ≤ 20000000000 := by
    intro x hx
    rw [hms] at hx
    obtain ⟨y, hy, rfl⟩ := List.mem_map.1 hx
    unfold shM
    rw [Int.natAbs_natCast, Int.natAbs_tmod]
    have := Nat.mod_lt (T * y).natAbs (show 0 < S.natAbs by omega)
    omega
  have hsq : sumTo qs qs.length = qs.sum := sumTo_eq_sum qs
  have hleft := sh_left_end (T := T) hS0 (fun x hx => (hwr x hx).1) hS.symm
  rw [← hqs, hln, ← hql, hsq] at hleft
  have hRS : refSh T ws = greedy (T - qs.sum).sign (T - qs.sum).natAbs qs ms := by
    unfold refSh
    rw [← hS, ← hqs, ← hms]
  have hsb := sumTo_abs hqb
  have HN := hide hln
  have HQS := hide hqs
  have HMS := hide hms
  have HS := hide hS
  have HQL := hide hql
  have HML := hide hml
  have HWR := hide hwr
  have HQB := hide hqb
  have HMB := hide hmb
  have HSQ := hide hsq
  have HLF := hide hleft
  have HRS := hide hRS
  have HSB := hide hsb
  have hn1 : 0 < n := by
    rcases Nat.eq_zero_or_pos n with h | h
    · rw [h] at hln; rw [hS, hln] at hS0; simp [sumTo] at hS0
    · exact h
  have HT64 : Hid (T.natAbs < 18446744073709551616) := by show _ < _; omega
  obtain ⟨P, hP⟩ : ∃ P : Nat, S = (P : Int) := Int.eq_ofNat_of_zero_le (by omega)
  have HP := hide hP
  have HP0 : Hid (0 < P ∧ P < 34359738368 ∧ P ≤ 20000000000) := by refine ⟨?_, ?_, ?_⟩ <;> omega
  clear hln hqs hms hS hql hml hwr hqb hmb hsq hleft hRS hsb hle hP
  go_enter Tryz.func16, Tryz.ntmps16
  go_wp2_with fail
  clear h40'
  go_loopw [6, 7] (fun sv iv wr => w = wr ∧ ∃ k : Nat, k ≤ n ∧ iv = .int .i64 k ∧ sv = .int .i64 (sumTo ws k)) (fun _ iv _ => n - (intOf iv).toNat)
  case atStart => exact ⟨rfl, 0, by omega, rfl, rfl⟩
  case round =>
    obtain ⟨rfl, k, hk, rfl, rfl⟩ := hrel
    by_cases hlt : k < n
    · have hkl : k < ws.length := by have := HN.out; omega
      obtain ⟨b, off, rfl, hcs⟩ := ha.2 (by omega)
      have q0 := hcs k 0 _ hkl rfl
      simp only [Nat.mul_one, Nat.add_zero] at q0
      clear hcs
      have k0 : (0 : Int) ≤ (k : Int) := by omega
      have k1 : (k : Int) < (n : Int) := by omega
      obtain ⟨s0, s1⟩ := sumTo_rat k (by omega) (fun j h _ => HRT.out j h)
      have hsu := sumTo_succ ws k hkl
      obtain ⟨x0, x1⟩ := HWR.out _ (List.getElem_mem hkl)
      obtain ⟨x, hx⟩ : ∃ x, x = ws[k] := ⟨_, rfl⟩
      rw [← hx] at q0 hsu x0 x1
      have x0' : ¬ x < 0 := by omega
      have x1' : ¬ (1000000000 : Int) < x := by omega
      have hsn : sumTo ws k + x ≤ 9223372036854775807 ∧ -9223372036854775808 ≤ sumTo ws k + x := by omega
      have hw : wrap64 (sumTo ws k + x) = sumTo ws (k + 1) := by rw [hsu]; simp only [wrap64]; omega
      have HSU := hide hsu
      clear hsu hx
      go_wp2_with fail
      go_roundw
      case rel => exact ⟨by first | rfl | trivial, k + 1, by omega, by go_num, by first | (rw [HSU.out]; done) | (congr 1; have := HSU.out; omega)⟩
      case measure => simp [intOf]; omega
    · have hkn : k = n := by omega
      subst hkn
      have hSk : sumTo ws k = S := by rw [HS.out, HN.out]
      rw [hSk]
      have hSz : (S == 0) = false := by rw [beq_eq_false_iff_ne]; omega
      have hSz2 : ¬ S = 0 := by omega
      clear hSk
      go_wp2_with fail
      refine (refBig_any T _ (by omega) (by omega)).mono ?_
      rintro e w1 ⟨gl, rfl, hQl, hb1⟩
      have hR0 : ShR w w1 gl (T - sumTo qs 0) (.slice none 0 0) (.slice none 0 0) (qs.take 0) [] [] := by
        have e0 : T - sumTo qs 0 = T := by simp [sumTo]
        rw [e0]
        refine ⟨hQl, ?_, ?_, Own.nil _ _ _ _ _, Own.nil _ _ _ _ _, (fun k e => by cases e), (fun x hx => by cases hx), (fun x hx => by cases hx), hb1⟩
        all_goals
          exact ⟨fun e => (by cases e), fun A n c _ _ a o s _ e => (by cases e)⟩
      have HR0 := hide hR0
      clear hQl hb1 hR0 hSz hSz2
      go_wp2_with fail
      go_loopw [8, 9, 11] (fun ov cv iv wo => ∃ (i : Nat) (cs ns : List (Nat × Int)), i ≤ k ∧ iv = .int .i64 i ∧ Hid (ShR w wo gl (T - sumTo qs i) ov cv (qs.take i) cs ns ∧ cs.map (·.2) = ms.take i)) (fun _ _ iv _ => k - (intOf iv).toNat)
      case atStart => exact ⟨0, [], [], by omega, rfl, HR0.out, rfl⟩
      case round =>
        clear HR0
        obtain ⟨i, cs, ns, hi, rfl, HH⟩ := hrel
        obtain ⟨wo, hwo⟩ : ∃ wo, wo = wr := ⟨_, rfl⟩
        subst hwo
        have hbw := HH.out.1.bel
        have hsw := hbw.size
        have hbl := hbw.size
        by_cases hlt : i < k
        · have hil : i < ws.length := by have := HN.out; omega
          obtain ⟨b, off, rfl, _⟩ := (Rd.below ha hbw).2 (by omega)
          have HC : Hid (∀ W, Below w.heap.size w W → W.cell? ⟨b, off + i, none⟩ = some (.int .i64 ws[i])) := by
            intro W hW
            obtain ⟨b2, off2, e2, hcs⟩ := (Rd.below ha hW).2 (by omega)
            cases e2
            have := hcs i 0 _ hil rfl
            simpa using this
          obtain ⟨xb0, xb1⟩ := HWR.out _ (List.getElem_mem hil)
          have hqi : i < qs.length := by have := HQL.out; omega
          have hqe : qs[i] = shQ T S ws[i] := by have := HQS.out; subst this; simp
          have hmi : i < ms.length := by have := HML.out; omega
          have hme : ms[i] = (shM T S ws[i] : Int) := by have := HMS.out; subst this; simp
          have hsu := sumTo_succ qs i hqi
          have hqb := HQB.out _ (List.getElem_mem hqi)
          have htk := take_next qs i hqi
          have htm := take_next ms i hmi
          rw [hme] at htm
          rw [hqe] at hsu hqb htk
          have hsb := HSB.out i (by omega)
          obtain ⟨x, hx⟩ : ∃ x, x = ws[i] := ⟨_, rfl⟩
          rw [← hx] at HC xb0 xb1 hsu hqb htk htm
          obtain ⟨q, hq⟩ : ∃ q, q = shQ T S x := ⟨_, rfl⟩
          obtain ⟨m, hm⟩ : ∃ m, m = shM T S x := ⟨_, rfl⟩
          rw [← hq] at hsu hqb htk
          rw [← hm] at htm
          have HSU := hide hsu
          have HTK := hide htk
          have HTM := hide htm
          have HQ : Hid ((T * x).tdiv (P : Int) = q) := by show _ = _; rw [← HP.out, hq]; rfl
          have HM : Hid (((T * x).tmod (P : Int)).natAbs = m) := by show _ = _; rw [← HP.out, hm]; rfl
          have HTX : Hid ((T * x).natAbs < 79228162514264337593543950336) := by
            show _ < _
            rw [Int.natAbs_mul]
            have h1 : T.natAbs * x.natAbs ≤ 1000000000000000 * 1000000000 := Nat.mul_le_mul (by omega) (by omega)
            omega
          have HXB : Hid (x.natAbs < 4294967296) := by show _ < _; omega
          have HQ64 : Hid (in64 q = true) := in64_yes _ (by omega)
          have HQN : Hid (q.natAbs < 79228162514264337593543950336) := by show _ < _; omega
          have HLN : Hid ((T - sumTo qs i).natAbs < 79228162514264337593543950336) := by
            show _ < _
            have : i * T.natAbs ≤ 20 * 1000000000000000 := Nat.mul_le_mul (by omega) (by omega)
            omega
          have hQb2 : -9223372036854775808 ≤ q ∧ q ≤ 9223372036854775807 := by omega
          obtain ⟨hQb2a, hQb2b⟩ := hQb2
          have i00 : (0 : Int) ≤ (i : Int) := by omega
          have i01 : (i : Int) < (k : Int) := by omega
          have xw0 : -9223372036854775808 ≤ x := by omega
          have xw1 : x ≤ 9223372036854775807 := by omega
          clear hx hq hm hsu htk htm hqe hme hsb hqb
          go_wp2_with fail
          refine (refBig_any T _ (by omega) (by omega)).mono ?_
          rintro e w2 ⟨gx, rfl, hQx, hb2⟩
          have q1 := HC.out w2 (bthen hbw (Nat.le_refl _) hb2)
          go_wp2_with fail
          refine (refBig_any x _ xw0 xw1).mono ?_
          rintro e w3 ⟨gk, rfl, hQk, hb3⟩
          have hQx := hQx.below hb3
          have hb3 := bthen hb2 (Nat.le_refl _) hb3
          clear hb2 q1
          go_wp2_with fail
          refine (qMul_any hQx hQk hb3.size HT64.out HXB.out).mono ?_
          rintro e w4 ⟨rfl, hQm, hb4, hz⟩
          have hb4 := hb3.trans hb4
          clear hQx hQk hb3
          have hs4 := hb4.size
          have hA1 : Below w4.heap.size w4 (w4.alloc (.cells #[.bool false, .slice none 0 0] 79)) := (Below.refl _ _).alloc (Nat.le_refl _) _
          have hA2 : Below w4.heap.size w4 ((w4.alloc (.cells #[.bool false, .slice none 0 0] 79)).alloc (.cells #[.bool false, .slice none 0 0] 79)) := hA1.alloc (by simp) _
          have hQm := hQm.below hA2
          have hz : T * x = 0 → ((w4.alloc (.cells #[.bool false, .slice none 0 0] 79)).alloc (.cells #[.bool false, .slice none 0 0] 79)).cell? ⟨gx, 1, none⟩ = some (.slice none 0 0) := fun h => below_cell hA2 (World.block_lt_of_cell? _ _ (hz h)) (hz h)
          have z0 : ((w4.alloc (.cells #[.bool false, .slice none 0 0] 79)).alloc (.cells #[.bool false, .slice none 0 0] 79)).cell? ⟨w4.heap.size, 0, none⟩ = some (.bool false) := by simp
          have z1 : ((w4.alloc (.cells #[.bool false, .slice none 0 0] 79)).alloc (.cells #[.bool false, .slice none 0 0] 79)).cell? ⟨w4.heap.size, 1, none⟩ = some (.slice none 0 0) := by simp
          have r0 : ((w4.alloc (.cells #[.bool false, .slice none 0 0] 79)).alloc (.cells #[.bool false, .slice none 0 0] 79)).cell? ⟨w4.heap.size + 1, 0, none⟩ = some (.bool false) := by simp
          have r1 : ((w4.alloc (.cells #[.bool false, .slice none 0 0] 79)).alloc (.cells #[.bool false, .slice none 0 0] 79)).cell? ⟨w4.heap.size + 1, 1, none⟩ = some (.slice none 0 0) := by simp
          have zf : ∀ o, ((w4.alloc (.cells #[.bool false, .slice none 0 0] 79)).alloc (.cells #[.bool false, .slice none 0 0] 79)).frozen? ⟨w4.heap.size, o, none⟩ = false := fun o => by simp
          have rf : ∀ o, ((w4.alloc (.cells #[.bool false, .slice none 0 0] 79)).alloc (.cells #[.bool false, .slice none 0 0] 79)).frozen? ⟨w4.heap.size + 1, o, none⟩ = false := fun o => by simp
          have hs5 : ((w4.alloc (.cells #[.bool false, .slice none 0 0] 79)).alloc (.cells #[.bool false, .slice none 0 0] 79)).heap.size = w4.heap.size + 2 := by simp
          have hb5 : Below wo.heap.size wo ((w4.alloc (.cells #[.bool false, .slice none 0 0] 79)).alloc (.cells #[.bool false, .slice none 0 0] 79)) := hb4.trans (hA2.mono hs4)
          have HQM := hide hQm
          have HZ := hide hz
          have HZF := hide zf
          have HRF := hide rf
          clear hQm hz zf rf hA1 hA2 hb4
          go_upto_region 22 with fail
          generalize ((w4.alloc (.cells #[.bool false, .slice none 0 0] 79)).alloc (.cells #[.bool false, .slice none 0 0] 79)) = w5 at HQM HZ HZF HRF z0 z1 r0 r1 hs5 hb5 ⊢
          obtain ⟨gq, hgq⟩ : ∃ gq, gq = w4.heap.size := ⟨_, rfl⟩
          rw [← hgq] at HZF HRF z0 z1 r0 r1 hs5 hs4 ⊢
          clear hgq
          go_wp2_with fail
          refine (refBig_any S _ (by omega) (by omega)).mono ?_
          rintro e w6 ⟨gs, rfl, hQs, hb6⟩
          rw [HP.out] at hQs
          have hq5 : gq < w5.heap.size := by omega
          have hq6 : gq + 1 < w5.heap.size := by omega
          have hs6 := hb6.size
          have z0 := below_cell hb6 hq5 z0
          have z1 := below_cell hb6 hq5 z1
          have r0 := below_cell hb6 hq6 r0
          have r1 := below_cell hb6 hq6 r1
          have hQR := fun hB => qQuoRem2 (B := wo.heap.size) (HQM.out.below hb6) hQs hB HTX.out HP0.out.1 HP0.out.2.1 (fun h => below_cell hb6 (World.block_lt_of_cell? _ _ (HZ.out h)) (HZ.out h)) hs4 z0 z1 (fun o => (hb6.frozen (p := ⟨gq, o, none⟩) hq5).trans (HZF.out o)) (show gq + 1 ≠ gq by omega) (show wo.heap.size ≤ gq + 1 by omega) r0 r1 (fun o => (hb6.frozen (p := ⟨gq + 1, o, none⟩) hq6).trans (HRF.out o))
          rw [HQ.out] at hQR
          have HQR := hide hQR
          have hb6 := bthen hb5 (Nat.le_refl _) hb6
          clear hQR hb5 z0 z1 r0 r1 HZ HZF HRF HQM hQs
          go_wp2_with fail
          refine (HQR.out hb6.size).mono ?_
          rintro e w7 ⟨rfl, hQq, hQr, hb7, hF7, hN7⟩
          have hb7 := hb6.trans hb7
          clear HQR
          go_wp2_with fail
          refine (qAbs_self hQr hb7.size (by rw [Int.natAbs_tmod]; exact Nat.lt_of_le_of_lt (Nat.mod_le _ _) HTX.out) hN7).mono ?_
          rintro e w8 ⟨rfl, hQm, hb8, hg8, hF8⟩
          rw [HM.out] at hQm
          have hs7 := hb7.size
          obtain ⟨hQq, hFq⟩ := hQq.grown (hF7 (some (gq + 1)) (fun e => by injection e; omega) (fun z e => by injection e with e; omega)) hg8
          have hb8 := hb7.trans hb8
          have hgl : gl < wo.heap.size := HH.out.1.left.lt
          have hR8 := HH.out.1.below hb8
          have hR8 := hR8.add (g := gq) (x := q) (B := wo.heap.size) (hQq.wider hsw) hs4 hgl (fun z e => (HH.out.1.out.block z e).2) (fun z e => (HH.out.1.cut.block z e).2) (fun r h1 h2 => hFq r (hF7 r h1 (fun z e => by have := h2 z e; omega)))
          have hR8 := hR8.add (g := gq + 1) (x := (m : Int)) (B := wo.heap.size) (hQm.wider hsw) (by omega) hgl (fun z e => (HH.out.1.out.block z e).2) (fun z e => (HH.out.1.cut.block z e).2) (fun r h1 h2 => hF8 r h1 (fun z e => by have := h2 z e; omega))
          have HC8 := hide HH.out.2
          have HR8 := hide hR8
          clear hQq hQm hQr hb6 hb7 hb8 hg8 hF7 hF8 hFq hN7 HH hR8 hq5 hq6 hs5 hs6
          go_wp2_with fail
          refine (qSub_frame HR8.out.left (HR8.out.nums (gq, q) (by simp)).1 HR8.out.bel.size HLN.out HQN.out).mono ?_
          rintro e w9 ⟨rfl, hQl, hb9, hg9, hF9⟩
          have hlv : T - sumTo qs i - q = T - sumTo qs (i + 1) := by rw [HSU.out]; omega
          rw [hlv] at hQl
          have HR9 := hide (HR8.out.sub hg9 hQl hF9 hb9)
          clear HR8 hQl hb9 hg9 hF9 hlv
          go_wp2_with fail
          refine (refSmall_any (HR9.out.nums (gq, q) (by simp)).1 HQN.out).mono ?_
          rintro e w10 ⟨rfl, hb10⟩
          have hsm : smV q = q := if_pos HQ64.out
          rw [hsm]
          have HR10 := hide (HR9.out.below hb10)
          have hs10 := HR10.out.bel.size
          have hlq : (qs.take i).length = i := by rw [List.length_take]; omega
          have hlc : cs.length = i := by
            have h1 : (cs.map (·.2)).length = (ms.take i).length := by rw [HC8.out]
            rw [List.length_map, List.length_take] at h1
            omega
          clear HR9 hb10 hsm
          go_upto_region 27 with (first | (at_builtin; go_loud (refine wpList_push _ rfl _ _ 41 rfl w.heap.size 3 i0 (.int .i64 0) 1 8 Tryz.underlying41 hi0 hz0 hz1 hz2 rfl (by decide) intEnc2_ok _ (qs.take i) rfl (HR10.out.out.alloc _) _ 1 1 [q] rfl (Rd.boxed _ intEnc2_ok _ _ _ rfl) (by intro h; cases h) (by rw [hlq]; simp only [maxLen]; omega) (by rw [hlq]; omega) (by simp; omega) ?_); intro v' w11 hown hg11 hat11))
          have hR11 := (HR10.out.below ((Below.refl _ _).alloc (Nat.le_refl _) (.cells #[.int .i64 q] 3))).pushOut hown hg11 hat11
          have HR11 := hide hR11
          have hs11 := hR11.bel.size
          clear HR10 hown hg11 hat11 hR11
          go_wp2_with (first | (at_builtin; go_loud (refine wpList_push _ rfl _ _ 73 rfl w.heap.size 74 j0 (.pointer none) 1 8 Tryz.underlying73 hj0 hx0 hx1 hx2 rfl (by decide) pEnc_ok _ cs rfl (HR11.out.cut.alloc _) _ 1 1 [(gq + 1, (m : Int))] rfl (Rd.boxed _ pEnc_ok (gq + 1, (m : Int)) _ _ rfl) (by intro h; cases h) (by rw [hlc]; simp only [maxLen]; omega) (by rw [hlc]; omega) (by simp; omega) ?_); intro v2 w12 hown hg12 hat12))
          go_roundw
          case rel => exact ⟨i + 1, cs ++ [(gq + 1, (m : Int))], _, by omega, by go_num, by rw [HTK.out]; exact (HR11.out.below ((Below.refl _ _).alloc (Nat.le_refl _) _)).pushCut hown hg12 hat12 (fun y hy => by rcases List.mem_append.1 hy with h | h; exact HR11.out.has y h; rw [List.mem_singleton] at h; rw [h]; simp), by rw [List.map_append, HC8.out, HTM.out]; rfl⟩
          case measure => simp [intOf]; omega
        · have hik : i = k := by omega
          rw [hik] at HH
          have e1 : qs.take k = qs := List.take_of_length_le (by have := HQL.out; omega)
          have e2 : ms.take k = ms := List.take_of_length_le (by have := HML.out; omega)
          have e3 : sumTo qs k = qs.sum := by rw [← HSQ.out, HQL.out]
          obtain ⟨hR1, hR2⟩ := HH.out
          rw [e1, e3] at hR1
          rw [e2] at hR2
          have hol := HQL.out
          have hcl : cs.length = k := by
            have h1 : (cs.map (·.2)).length = ms.length := by rw [hR2]
            rw [List.length_map, HML.out] at h1
            exact h1
          have hlf := HLF.out.2.2
          obtain ⟨K, hK⟩ : ∃ K, K = (T - qs.sum).natAbs := ⟨_, rfl⟩
          obtain ⟨sg, hsg⟩ : ∃ sg, sg = (T - qs.sum).sign := ⟨_, rfl⟩
          have hsk : sg * (K : Int) = T - qs.sum := by rw [hsg, hK]; exact sign_mulS _
          have hs1 : K = 0 ∨ sg = 1 ∨ sg = -1 := by
            rcases Int.lt_trichotomy (T - qs.sum) 0 with h | h | h
            · right; right; rw [hsg]; exact Int.sign_eq_neg_one_of_neg h
            · left; rw [hK, h]; rfl
            · right; left; rw [hsg]; exact Int.sign_eq_one_of_pos h
          obtain ⟨R, hR⟩ : ∃ R, R = refSh T ws := ⟨_, rfl⟩
          rw [← hsk] at hR1
          have hG0 := GrS.mk (K := K) (R := R) hR1 (by rw [hR2, hR, HRS.out, hK, hsg]) hol hcl (fun y hy => by have := HQB.out y hy; omega) (fun y hy => by
            have h2 : y.2 ∈ cs.map (·.2) := List.mem_map.2 ⟨y, hy, rfl⟩
            rw [hR2] at h2
            exact HMB.out _ h2)
          obtain ⟨gO, cO, rfl⟩ := hR1.out.formS (by omega)
          obtain ⟨gC, cC, rfl⟩ := hR1.cut.formS (by omega)
          rw [hol] at hG0 ⊢
          rw [hcl] at hG0 ⊢
          have HG0 := hide hG0
          have HS1 := hide hs1
          have HKk : Hid (K ≤ k) := by show _ ≤ _; omega
          have HRE := hide hR
          have hkk : ¬ (i : Int) < (k : Int) := by omega
          clear hG0 hR1 hR2 HH e1 e2 e3 hol hcl hlf hK hsg hsk hs1 hR hlt
          go_wp2_with fail
          clear hkk
          go_loopg [] K (fun fu wg => ∃ (out : List Int) (cs ns : List (Nat × Int)), Hid (fu ≤ K ∧ GrS w wg gl K sg (.slice (some ⟨gO, 0, none⟩) k cO) (.slice (some ⟨gC, 0, none⟩) k cC) k fu out cs ns R))
          case atStart => exact ⟨qs, cs, ns, Nat.le_refl _, HG0.out⟩
          case round =>
            clear HG0
            obtain ⟨out, cs, ns, HG⟩ := hrel
            obtain ⟨wg, hwg⟩ : ∃ wg, wg = wr := ⟨_, rfl⟩
            subst hwg
            by_cases h0 : gk = 0
            · subst h0
              have hl := HG.out.2.sh.left
              rw [show sg * ((0 : Nat) : Int) = 0 by simp] at hl
              have hres : out = R := HG.out.2.gr
              have hown := HG.out.2.sh.out
              rw [hres, HRE.out] at hown
              have hbe := HG.out.2.sh.bel
              go_wp2_with fail
              refine (qSign_any hl).mono ?_
              rintro e w20 ⟨rfl, q20, rfl⟩
              rw [show (0 : Int).sign = 0 from rfl]
              go_wp2_with fail
              go_ret2
              exact ⟨_, rfl, hown.below (bdrewN (Below.refl _ _) q20), bdrewN hbe q20⟩
            · obtain ⟨f, rfl⟩ : ∃ f, gk = f + 1 := ⟨gk - 1, by omega⟩
              have hfK := HG.out.1
              have hsg : sg = 1 ∨ sg = -1 := by rcases HS1.out with h | h; omega; exact h
              have hl := HG.out.2.sh.left
              have hsn : (sg * ((f + 1 : Nat) : Int)).sign = sg := by
                rcases hsg with h | h
                · rw [h, Int.one_mul]; exact Int.sign_eq_one_of_pos (by omega)
                · rw [h]; exact Int.sign_eq_neg_one_of_neg (by omega)
              have hsg0 : (sg == 0) = false := by rw [beq_eq_false_iff_ne]; omega
              have hsg1 : ¬ sg = 0 := by omega
              have hsg2 : (sg != 0) = true := by rw [bne, hsg0]; rfl
              have HSG := hide hsg
              have HSN := hide hsn
              clear hsg hsn
              go_wp2_with fail
              refine (qSign_any hl).mono ?_
              rintro e w20 ⟨rfl, q20, rfl⟩
              rw [HSN.out]
              have HGz := hide (HG.out.2.below (bdrewN (Below.refl wg.heap.size wg) q20))
              clear hl HG
              generalize wg.drewN q20 = wz at HGz ⊢
              obtain ⟨cm, hcm⟩ : ∃ cm, cm = cs.map (·.2) := ⟨_, rfl⟩
              have HCM := hide hcm
              clear hcm
              go_wp2_with fail
              go_loopw [17, 18] (fun av iv wi => ∃ t : Nat, t + 1 ≤ k ∧ av = .int .i64 ((argTo cm t : Nat) : Int) ∧ iv = .int .i64 ((t : Int) + 1) ∧ Below wz.heap.size wz wi) (fun _ iv _ => k - (intOf iv).toNat)
              case atStart => exact ⟨0, by omega, rfl, rfl, Below.refl _ _⟩
              case round =>
                obtain ⟨t, ht, rfl, rfl, hbi⟩ := hrel
                obtain ⟨wi, hwi⟩ : ∃ wi, wi = wr := ⟨_, rfl⟩
                subst hwi
                have hat := argTo_le cm t
                obtain ⟨a, hae⟩ : ∃ a, a = argTo cm t := ⟨_, rfl⟩
                rw [← hae] at hat ⊢
                have HAE := hide hae
                have hGi := HGz.out.below hbi
                have HGI := hide hGi
                have hca : a < cs.length := by have := hGi.cl; omega
                by_cases hlt : t + 1 < k
                · have hct : t + 1 < cs.length := by have := hGi.cl; omega
                  have c1 := (hGi.sh.cut.cells pEnc_ok (t + 1) 0 _ hct rfl).1
                  have c0 := (hGi.sh.cut.cells pEnc_ok a 0 _ hca rfl).1
                  simp only [Nat.mul_one, Nat.add_zero] at c0 c1
                  have n1 := (hGi.sh.nums _ (hGi.sh.has _ (List.getElem_mem hct))).1
                  have n0 := (hGi.sh.nums _ (hGi.sh.has _ (List.getElem_mem hca))).1
                  have b1 := hGi.cb _ (List.getElem_mem hct)
                  have b0 := hGi.cb _ (List.getElem_mem hca)
                  have g1 : cm.getD (t + 1) 0 = (cs[t + 1]).2 := by rw [HCM.out, List.getD_eq_getElem?_getD, List.getElem?_map, List.getElem?_eq_getElem hct]; rfl
                  have g0 : cm.getD a 0 = (cs[a]).2 := by rw [HCM.out, List.getD_eq_getElem?_getD, List.getElem?_map, List.getElem?_eq_getElem hca]; rfl
                  have harg : argTo cm (t + 1) = if (cs[a]).2 < (cs[t + 1]).2 then t + 1 else a := by rw [argTo, ← hae, g0, g1]
                  obtain ⟨p1, hp1⟩ : ∃ p, p = cs[t + 1] := ⟨_, rfl⟩
                  obtain ⟨p0, hp0⟩ : ∃ p, p = cs[a] := ⟨_, rfl⟩
                  rw [← hp1] at c1 n1 b1 harg
                  rw [← hp0] at c0 n0 b0 harg
                  obtain ⟨y1, v1⟩ := p1
                  obtain ⟨y0, v0⟩ := p0
                  simp only at c1 c0 n1 n0 b1 b0 harg
                  have HARG := hide harg
                  have t0 : (0 : Int) ≤ (t : Int) + 1 := by omega
                  have t1 : (t : Int) + 1 < (k : Int) := by omega
                  have a0 : (0 : Int) ≤ (a : Int) := by omega
                  have a1 : (a : Int) < (k : Int) := by omega
                  have HCP := hide (qCmp_any (n1.below (bdrewN (Below.refl _ wi) 1)) (n0.below (bdrewN (Below.refl _ wi) 1)) (by omega) (by omega))
                  clear hae harg g0 g1 hp1 hp0 n1 n0 b1 b0 hGi
                  by_cases hv : v0 < v1
                  · have hcmp : cmpQ v1 v0 = 1 := by unfold cmpQ; rw [if_neg (by omega), if_neg (by omega)]
                    rw [hcmp] at HCP
                    rw [if_pos hv] at HARG
                    clear hcmp hv
                    go_wp2_with fail
                    refine wp_region_still_tail 8 (by kernel_rfl) (by kernel_rfl) ?_
                    simp only [List.take_succ_cons, List.take_zero, List.drop_succ_cons, List.drop_zero]
                    change wpStill _ _ wi.drew _ _ _
                    repeat still_step
                    refine wpStill_nil ?_
                    change wpList _ _ _ _ _ wi.drew
                    go_wp2_with fail
                    refine HCP.out.mono ?_
                    rintro e w21 ⟨rfl, hb21⟩
                    have hb21 : Below wi.heap.size wi w21 := (bdrewN (Below.refl _ wi) 1).trans hb21
                    go_wp2_with fail
                    go_roundw
                    case rel => exact ⟨t + 1, by omega, by rw [HARG.out]; go_num, by go_num, bthen hbi (Nat.le_refl _) hb21⟩
                    case measure => simp [intOf]; omega
                  · have hcmp : cmpQ v1 v0 ≤ 0 := by unfold cmpQ; split; omega; rw [if_pos (by omega)]; omega
                    have hcmq : ¬ (0 : Int) < cmpQ v1 v0 := by omega
                    rw [if_neg hv] at HARG
                    generalize cmpQ v1 v0 = z at HCP hcmp hcmq
                    clear hv
                    go_wp2_with fail
                    refine wp_region_still_tail 8 (by kernel_rfl) (by kernel_rfl) ?_
                    simp only [List.take_succ_cons, List.take_zero, List.drop_succ_cons, List.drop_zero]
                    change wpStill _ _ wi.drew _ _ _
                    repeat still_step
                    refine wpStill_nil ?_
                    change wpList _ _ _ _ _ wi.drew
                    go_wp2_with fail
                    refine HCP.out.mono ?_
                    rintro e w21 ⟨rfl, hb21⟩
                    have hb21 : Below wi.heap.size wi w21 := (bdrewN (Below.refl _ wi) 1).trans hb21
                    go_wp2_with fail
                    go_roundw
                    case rel => exact ⟨t + 1, by omega, by rw [HARG.out], by go_num, bthen hbi (Nat.le_refl _) hb21⟩
                    case measure => simp [intOf]; omega
                · have htk : t + 1 = k := by omega
                  have hat2 : a = argTo cm (cm.length - 1) := by
                    rw [hae, HCM.out, List.length_map, hGi.cl, ← htk]; rfl
                  have HAT := hide hat2
                  have hl := hGi.sh.left
                  have hoa : a < out.length := by have := hGi.ol; omega
                  obtain ⟨d0, df⟩ := hGi.sh.out.cells intEnc2_ok a 0 _ hoa rfl
                  rw [Nat.mul_one, Nat.add_zero] at d0 df
                  have hob := hGi.ob _ (List.getElem_mem hoa)
                  have hod : out.getD a 0 = out[a] := by rw [List.getD_eq_getElem?_getD, List.getElem?_eq_getElem hoa]; rfl
                  obtain ⟨y, hy⟩ : ∃ y, y = out[a] := ⟨_, rfl⟩
                  rw [← hy] at d0 hob hod
                  have HOD := hide hod
                  have HOA := hide hoa
                  have HCA := hide hca
                  have a0 : (0 : Int) ≤ (a : Int) := by omega
                  have a1 : (a : Int) < (k : Int) := by omega
                  have hyw : wrap64 (y + sg) = y + sg := by
                    have h9 := HSG.out
                    have h8 := HKk.out
                    simp only [wrap64]
                    omega
                  have hys : -9223372036854775808 ≤ y + sg ∧ y + sg ≤ 9223372036854775807 := by
                    have h9 := HSG.out
                    have h8 := HKk.out
                    omega
                  have hgg := hGi.sh.glo
                  have hkk : ¬ (t : Int) + 1 < (k : Int) := by omega
                  clear hat2 hae hy hod hoa hca hob hGi hlt htk
                  go_wp2_with fail
                  refine (qSign_any hl).mono ?_
                  rintro e w22 ⟨rfl, q22, rfl⟩
                  rw [HSN.out]
                  have hl22 := hl.below (bdrewN (Below.refl wi.heap.size wi) q22)
                  have d0 : (wi.drewN q22).cell? ⟨gO, a, none⟩ = _ := d0
                  have df : (wi.drewN q22).frozen? ⟨gO, a, none⟩ = _ := df
                  have hGd := HGI.out.below (bdrewN (Below.refl wi.heap.size wi) q22)
                  have hG2 := hGd.sh.setOut (k := a) (y := y + sg) HOA.out
                  have HG2 := hide hG2
                  have HGD := hide hGd
                  clear hl hl22 HGI hGd hG2
                  generalize wi.drewN q22 = wy at d0 df HG2 HGD ⊢
                  go_wp2_with fail
                  refine (refBig_any sg _ (by have := HSG.out; omega) (by have := HSG.out; omega)).mono ?_
                  rintro e w23 ⟨gs, rfl, hQs, hb23⟩
                  have HG3 := hide (HG2.out.below hb23)
                  clear HG2 hb23
                  go_wp2_with fail
                  refine (qSub_frame HG3.out.left hQs HG3.out.bel.size (by have h9 := HSG.out; have h8 := HKk.out; rcases h9 with h9 | h9 <;> rw [h9] <;> omega) (by have := HSG.out; omega)).mono ?_
                  rintro e w24 ⟨rfl, hQl, hb24, hg24, hF24⟩
                  have hlv : sg * ((f + 1 : Nat) : Int) - sg = sg * (f : Int) := by
                    have : ((f + 1 : Nat) : Int) = (f : Int) + 1 := by omega
                    rw [this, Int.mul_add, Int.mul_one]; omega
                  rw [hlv] at hQl
                  have HG4 := hide (HG3.out.sub hg24 hQl hF24 hb24)
                  clear HG3 hQs hQl hb24 hg24 hF24
                  go_wp2_with fail
                  refine (refBigF_any (-1) _ (by decide) (by decide)).mono ?_
                  rintro e w25 ⟨gn, rfl, hQn, hb25, hF25⟩
                  have hgl : gl < w24.heap.size := HG4.out.left.lt
                  have hG5 := (HG4.out.below hb25).add (g := gn) (x := -1) (B := w24.heap.size) (hQn.wider HG4.out.bel.size) hQn.gB hgl (fun z e => (HG4.out.out.block z e).2) (fun z e => (HG4.out.cut.block z e).2) hF25
                  have HG5 := hide hG5
                  obtain ⟨e0, ef⟩ := hG5.cut.cells pEnc_ok a 0 _ HCA.out rfl
                  rw [Nat.mul_one, Nat.add_zero] at e0 ef
                  have hG6 := hG5.setCut (k := a) (y := (gn, -1)) HCA.out (by simp)
                  have HG6 := hide hG6
                  clear HG4 hQn hb25 hF25 hG5 hG6
                  go_wp2_with fail
                  go_roundg f
                  case measure => omega
                  case rel =>
                    refine ⟨_, _, _, by omega, HG6.out, ?_, ?_, ?_, ?_, ?_⟩
                    · have hgr := HGD.out.gr
                      rw [← HCM.out, greedy, ← HAT.out, HOD.out] at hgr
                      rw [List.map_set, ← HCM.out]
                      exact hgr
                    · rw [List.length_set]; exact HGD.out.ol
                    · rw [List.length_set]; exact HGD.out.cl
                    · intro z hz
                      rcases List.mem_or_eq_of_mem_set hz with h1 | h1
                      · have := HGD.out.ob z h1; omega
                      · have h2 : (out[a]'HOA.out).natAbs + (f + 1) ≤ 1000000000000000 + K := HGD.out.ob _ (List.getElem_mem HOA.out)
                        have h3 := HSG.out
                        have h4 : out[a]'HOA.out = y := by have := HOD.out; rw [List.getD_eq_getElem?_getD, List.getElem?_eq_getElem HOA.out] at this; exact this
                        rw [h4] at h2
                        rw [h1]; omega
                    · intro z hz
                      rcases List.mem_or_eq_of_mem_set hz with h1 | h1
                      · exact HGD.out.cb z h1
                      · rw [h1]; show Int.natAbs (-1) ≤ 20000000000; decide
end Go.Proofs.YtbdbpcllndajgaaGreatDoor
