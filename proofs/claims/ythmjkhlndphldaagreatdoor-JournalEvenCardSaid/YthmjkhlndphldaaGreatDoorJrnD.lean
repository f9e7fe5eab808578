/- The journal's methods, walked: At, Post. -/
import Derived.Test.YthmjkhlndphldaaGreatDoorJrnC
import Derived.Deep.RegionLaw
namespace Go.Proofs.YthmjkhlndphldaaGreatDoor
open Go Go.RowKit
set_option linter.unusedVariables false

theorem EntAt.neu (w : World) (ref : ByteArray) (ent per : Int) (v : Value) : EntAt (w.alloc (.cells #[.string ref, .int .i64 ent, .int .i64 per, v] 25)) w.heap.size ref ent per v := by
  unfold EntAt
  simp

set_option maxRecDepth 100000 in
theorem jat_ok {w : World} {B g m : Nat} {v : Value} {es : List Ent} (h : Jrn w B g m v es) (k : Nat) (hk : k < es.length) :
    Calls Tryz.prog 30 #[.pointer (some ⟨g, 0, none⟩), .int .i64 k] w
      fun e w' => ∃ VA vc, e = .returned (.tuple #[.agg #[.string es[k].ref, .int .i64 es[k].ent, .int .i64 es[k].per, .slice VA es[k].lines.length vc], .nilIface]) ∧ Below w.heap.size w w' := by
  obtain ⟨A, c, rfl, h1, h2⟩ := h.few
  have c0 := h.c0
  have hrd := h.own.rd entEnc_ok
  have hK := h.all _ (List.getElem_mem hk)
  obtain ⟨b, off, rfl, hcs⟩ := hrd.2 (by omega)
  have q0 := hcs k 0 _ hk rfl
  have q1 := hcs k 1 _ hk rfl
  have q2 := hcs k 2 _ hk rfl
  have q3 := hcs k 3 _ hk rfl
  rw [Nat.add_zero] at q0
  clear hcs
  have k0 : (0 : Int) ≤ (k : Int) := by omega
  have k1 : (k : Int) < (es.length : Int) := by omega
  have d0 : decide ((k : Int) < 0) = false := by rw [decide_eq_false_iff_not]; omega
  have d1 : decide ((es.length : Int) ≤ (k : Int)) = false := by rw [decide_eq_false_iff_not]; omega
  have hgl := h.lt
  have hbl : b < w.heap.size := World.block_lt_of_cell? _ _ q1
  go_enter Tryz.func30, Tryz.ntmps30
  go_wp2_with fail
  refine (jclone_any es[k].ref es[k].ent es[k].per es[k].lines es[k].A es[k].n es[k].cap _ (hK.rd.below ((Below.refl _ _).alloc (Nat.le_refl _) _)) hK.few hK.nil).mono ?_
  rintro e w1 ⟨VA, vc, rfl, hown1, hb1⟩
  have hR : EntAt w1 w.heap.size ⟨#[]⟩ 0 0 (.slice none 0 0) := (EntAt.neu w ⟨#[]⟩ 0 0 (.slice none 0 0)).below hb1
  have zr : ∀ q, w1.frozen? ⟨w.heap.size, q, none⟩ = false := fun q => ((bcell hb1).2 _ q (by simp)).trans (by simp)
  have zr0 := zr 0
  have zr1 := zr 1
  have zr2 := zr 2
  have zr3 := zr 3
  obtain ⟨r0, r1, r2, r3⟩ := hR
  have hb1 := bof_alloc hb1
  clear zr
  go_wp2_with fail
  refine bodyPost_ret (v := .tuple #[.agg #[.string es[k].ref, .int .i64 es[k].ent, .int .i64 es[k].per, .slice VA es[k].lines.length vc], .nilIface]) (by simp [results, Tryz.results30, go_sem, r0, r1, r2, r3]) rfl ⟨_, _, rfl, ?_⟩
  exact (((hb1.setCell (Nat.le_refl _) _).setCell (Nat.le_refl _) _).setCell (Nat.le_refl _) _).setCell (Nat.le_refl _) _

theorem step_pushJ {P : Program} (w : World) {α : Type} {enc : α → List Value} {ops : Array Oper} {o : Oper} {a : Act} {K : Act → World → Prop} {Q : Exit → Act → World → Prop} {E : Prop} (hgd : o.guard = none) (s x : Operand) (t : TypeId)
    (ho : o.op = .call { callee := .builtin .append, args := #[s, x], argTypes := #[t, t] })
    (B : Nat) (e : TypeId) (i : TypeInfo) (z : Value) (sz bytes : Nat) (ht : P.underlying t = some (.slice e)) (hi : P.info? e = some i) (hz : i.zero = some z)
    (hsize : i.size = sz) (hby : i.bytes = bytes) (hzs : z.cells.size = sz) (hsz : 0 < sz) (he : Enc sz enc) (v : Value) (l : List α) (hs : a.eval s = v) (hown : Own w B e sz enc v l)
    (A : Option Addr) (m c : Nat) (ys : List α) (hx : a.eval x = .slice A m c) (hr : Rd w sz enc A m ys) (hA : A = none → c = 0)
    (h63 : l.length + m ≤ maxLen) (hbytes : (l.length + m) * bytes ≤ 140737488355328) (hbase : B ≤ w.heap.size)
    (h : ∀ v' w', Own w' B e sz enc v' (l ++ ys) → w.grownBy w' v.ownBlock → (v'.ownBlock = v.ownBlock ∨ v'.ownBlock = some w.heap.size) → K (a.put o.dst v') w') :
    if Region.wanted o (yielded ops a.tmps) = true then Oper.wp P o a w K Q else E := by
  have hw : Region.wanted o (yielded ops a.tmps) = true := by simp [Region.wanted, hgd]
  rw [if_pos hw]
  exact wp_push w s x t ho B e i z sz bytes ht hi hz hsize hby hzs hsz he v l hs hown A m c ys hx hr hA h63 hbytes hbase h

theorem frozen_grown {W w' : World} {gx q : Nat} {row : Option Nat} (hf : W.frozen? ⟨gx, q, none⟩ = false) (hx : gx < W.heap.size) (hg : W.grownBy w' row) (hne : row ≠ some gx) : w'.frozen? ⟨gx, q, none⟩ = false := by
  have y := hg.block gx hx (fun e => hne e.symm)
  rw [← hf]
  unfold World.frozen?
  simp only [y]
theorem cell?_alloc_keep {w : World} {g q : Nat} {u : Value} {o : Obj} (h : w.cell? ⟨g, q, none⟩ = some u) : (w.alloc o).cell? ⟨g, q, none⟩ = some u :=
  below_cell ((Below.refl w.heap.size w).alloc (Nat.le_refl _) o) (World.block_lt_of_cell? _ _ h) h
theorem frozen_alloc_keep {w : World} {g q : Nat} {o : Obj} (hg : g < w.heap.size) (h : w.frozen? ⟨g, q, none⟩ = false) : (w.alloc o).frozen? ⟨g, q, none⟩ = false :=
  (((Below.refl w.heap.size w).alloc (Nat.le_refl _) o).frozen (p := ⟨g, q, none⟩) hg).trans h
/-- what Post says of an entry -/
def postE (c : List Acc) (es : List Ent) (ref : ByteArray) (ent per : Int) (l : List Line) : Int :=
  if entE c ref ent per l ≠ 0 then entE c ref ent per l else if hasS (es.map Ent.ref).reverse ref = true then 8 else if 200 ≤ es.length then 4 else 0

set_option maxHeartbeats 1000000 in
set_option maxRecDepth 100000 in
theorem jpost_any {w : World} {B g m : Nat} {v : Value} {es : List Ent} (h : Jrn w B g m v es) (hes : es.length ≤ 200) (hB : B ≤ w.heap.size)
    (c : List Acc) (CA : Option Addr) (cn ccap : Nat) (E : Ent) (hcl : cn ≤ 9223372036854775807) (hcc : cn ≤ ccap) (hc : Accs w CA cn c) (hcok : AccOk c) (hE : EntFits w E) :
    Calls Tryz.prog 24 #[.pointer (some ⟨g, 0, none⟩), .slice CA cn ccap, .agg #[.string E.ref, .int .i64 E.ent, .int .i64 E.per, .slice E.A E.n E.cap]] w
      fun e w' => (postE c es E.ref E.ent E.per E.lines ≠ 0 ∧ e = .returned (.tuple #[.int .i64 0, .iface 108 (.int .i64 (postE c es E.ref E.ent E.per E.lines))]) ∧ Jrn w' B g m v es ∧ Below w.heap.size w w') ∨
        (postE c es E.ref E.ent E.per E.lines = 0 ∧ e = .returned (.tuple #[.int .i64 es.length, .nilIface]) ∧ Below B w w' ∧ ∃ v' E', E'.ref = E.ref ∧ E'.ent = E.ent ∧ E'.per = E.per ∧ E'.lines = E.lines ∧ Jrn w' B g m v' (es ++ [E'])) := by
  obtain ⟨er, en, ep, EA, n, ec, el⟩ := E
  obtain ⟨h1, h2, h3, h4, h5, h6⟩ := hE
  simp only at *
  have hn63 : n ≤ 9223372036854775807 := by unfold maxLen at h3; omega
  have Hes := hide hes
  clear hes
  go_enter Tryz.func24, Tryz.ntmps24
  go_wp2_with fail
  have hbx : Below w.heap.size w (w.alloc (.cells #[.string er, .int .i64 en, .int .i64 ep, .slice EA n ec] 25)) := (Below.refl _ _).alloc (Nat.le_refl _) _
  have hX0 : EntAt (w.alloc (.cells #[.string er, .int .i64 en, .int .i64 ep, .slice EA n ec] 25)) w.heap.size er en ep (.slice EA n ec) := by unfold EntAt; simp
  refine (entCheck_any c _ _ _ er en ep el _ _ _ _ hcl hcc (hc.below hbx) hcok h1 hn63 (Rd.below h4 hbx) h6 h5).mono ?_
  rintro e w1 ⟨rfl, hb1⟩
  have hX1 := hX0.below hb1
  have hb1 := bof_alloc hb1
  have hJ1 := h.below hb1
  by_cases he : entE c er en ep el = 0
  · rw [errV_0 he]
    have HE := hide he
    obtain ⟨x0, x1, x2, x3⟩ := hX1
    have c1 := hJ1.c1
    clear he
    go_wp2_with fail
    refine wp_region_still_tail 6 (by kernel_rfl) (by kernel_rfl) ?_
    simp only [List.take_succ_cons, List.take_zero, List.drop_succ_cons, List.drop_zero]
    change wpStill _ _ w1.drew _ _ _
    repeat still_step
    refine wpStill_nil ?_
    change wpList _ _ _ _ _ w1.drew
    have hX1 : EntAt w1.drew w.heap.size er en ep (.slice EA n ec) := ⟨x0, x1, x2, x3⟩
    have hb1 : Below w.heap.size w w1.drew := bdrewN hb1 1
    have hJ1 : Jrn w1.drew B g m v es := hJ1.below (bdrewN (Below.refl _ w1) 1)
    clear x0 x1 x2 x3 c1
    generalize w1.drew = w1 at hX1 hb1 hJ1 ⊢
    obtain ⟨x0, x1, x2, x3⟩ := hX1
    have hlk := hJ1.refs.lookup er (by unfold maxLen; exact h1)
    have c0 := hJ1.c0
    have c1 := hJ1.c1
    cases hS : hasS (es.map Ent.ref).reverse er with
    | true =>
      have HP : Hid (postE c es er en ep el = 8) := by show _ = _; rw [postE, if_neg (by simpa using HE.out), if_pos hS]
      rw [hS] at hlk
      clear hS
      go_wp2_with fail
      go_ret2
      exact .inl ⟨by rw [HP.out]; decide, by rw [HP.out]; rfl, hJ1, hb1⟩
    | false =>
      rw [hS] at hlk
      obtain ⟨VA, vc, rfl, hvc, hvm⟩ := hJ1.few
      by_cases hfull : 200 ≤ es.length
      · have HP : Hid (postE c es er en ep el = 4) := by show _ = _; rw [postE, if_neg (by simpa using HE.out), if_neg (by rw [hS]; decide), if_pos hfull]
        have hf1 : (200 : Int) ≤ (es.length : Int) := by omega
        clear hS
        go_wp2_with fail
        go_ret2
        exact .inl ⟨by rw [HP.out]; decide, by rw [HP.out]; rfl, hJ1, hb1⟩
      · have HP : Hid (postE c es er en ep el = 0) := by show _ = _; rw [postE, if_neg (by simpa using HE.out), if_neg (by rw [hS]; decide), if_neg hfull]
        have hf1 : ¬ (200 : Int) ≤ (es.length : Int) := by omega
        have hf2 : (es.length : Int) < 200 := by omega
        obtain ⟨i0, hi0, hz0, hz1, hz2⟩ := info_parts ent_info
        clear hS
        go_wp2_with fail
        refine wp_region_still_tail 6 (by kernel_rfl) (by kernel_rfl) ?_
        simp only [List.take_succ_cons, List.take_zero, List.drop_succ_cons, List.drop_zero]
        change wpStill _ _ w1.drew _ _ _
        repeat still_step
        refine wpStill_nil ?_
        change wpList _ _ _ _ _ w1.drew
        have hX1 : EntAt w1.drew w.heap.size er en ep (.slice EA n ec) := ⟨x0, x1, x2, x3⟩
        have hb1 : Below w.heap.size w w1.drew := bdrewN hb1 1
        have hJ1 : Jrn w1.drew B g m (.slice VA es.length vc) es := hJ1.below (bdrewN (Below.refl _ w1) 1)
        clear x0 x1 x2 x3 c0 c1 hlk
        generalize w1.drew = w1 at hX1 hb1 hJ1 ⊢
        obtain ⟨w2, hup, href, h12⟩ := hJ1.refs.update (by unfold maxLen; omega) er (by unfold maxLen; exact h1)
        have hwx : w.heap.size < w1.heap.size := World.block_lt_of_cell? _ _ hX1.1
        have hX2 : EntAt w2 w.heap.size er en ep (.slice EA n ec) := by
          obtain ⟨x0, x1, x2, x3⟩ := hX1
          have hne : ∀ q, some (⟨w.heap.size, q, none⟩ : Addr).block ≠ some m := fun q e => by
            have e' : w.heap.size = m := by simpa using e
            have := h.refs.lt; omega
          exact ⟨h12.cell x0 (hne 0), h12.cell x1 (hne 1), h12.cell x2 (hne 2), h12.cell x3 (hne 3)⟩
        have c0 : w2.cell? ⟨g, 0, none⟩ = some (.slice VA es.length vc) := h12.cell hJ1.c0 (by simp; exact hJ1.gm)
        have f0 : w2.frozen? ⟨g, 0, none⟩ = false := by
          have y := h12.block g hJ1.lt (by simp; exact hJ1.gm)
          have := hJ1.fr 0
          rw [← this]; unfold World.frozen?; simp only [y]
        have hbB2 : Below B w w2 := (hb1.mono hB).grown h12 (Nat.le_trans hB hb1.size) (fun q e => by injection e with e; subst e; exact hJ1.mB)
        obtain ⟨x0, x1, x2, x3⟩ := hX2
        have hn20 : n ≤ 20 := by
          have r := (entE_right HE.out).high
          have := h4.1
          omega
        have hmx : m < w1.heap.size := hJ1.refs.lt
        have hbw2 : ∀ q, q < w.heap.size → q ≠ m → w2.heap[q]? = w.heap[q]? := fun q hq hm => (h12.block q (by omega) (by simp; exact hm)).trans (hb1.block q hq)
        have hr2 : Rd w2 3 lineEnc EA n el := by
          refine ⟨h4.1, fun hp => ?_⟩
          obtain ⟨b, off, e, hc'⟩ := h4.2 hp
          refine ⟨b, off, e, fun k j u hk hu => ?_⟩
          have hcell := hc' k j u hk hu
          have hbl := World.block_lt_of_cell? _ _ hcell
          have h1c := below_cell hb1 hbl hcell
          refine h12.cell h1c (fun e2 => ?_)
          have e3 : b = m := by simpa using e2
          subst e3
          obtain ⟨D, ⟨esm, clk, hm, _⟩, _⟩ := hJ1.refs
          simp [World.cell?, hm] at h1c
        go_wp2_with fail
        have hr2d : Rd w2.drew 3 lineEnc EA n el := hr2
        have hown2 : Own w2.drew B 25 4 Ent.enc (.slice VA es.length vc) es := (show Own w2 B 25 4 Ent.enc (.slice VA es.length vc) es from hJ1.own.grown h12 (.inr hJ1.vm))
        have c0d : w2.drew.cell? ⟨g, 0, none⟩ = some (.slice VA es.length vc) := c0
        have f0d : w2.drew.frozen? ⟨g, 0, none⟩ = false := f0
        have hg2 : g < w2.drew.heap.size := World.block_lt_of_cell? _ _ c0d
        have hB2 : B ≤ w2.drew.heap.size := Nat.le_trans hB hbB2.size
        have hvg := hJ1.vg
        go_region_law (first
          | (refine step_pushJ _ rfl _ _ 50 rfl B 25 i0 zeroEnt 4 56 Tryz.underlying50 hi0 hz0 hz1 hz2 rfl (by decide) entEnc_ok (.slice VA es.length vc) es (by simp [Act.eval]) (Own.alloc hown3 _) _ 1 1 [⟨er, en, ep, CA3, el.length, cc3, el⟩] (by simp [Act.eval]) (Rd.boxedAt _ entEnc_ok _ _ _ rfl _ rfl) (by intro h; cases h) (by simp only [maxLen]; omega) (by omega) (by simp; omega) ?_; intro v' w5 hown5 hg5 hat5; have c05 := hg5.cell (cell?_alloc_keep c03) (fun e => hvg e.symm); have f05 := frozen_grown (frozen_alloc_keep hg3 f03) (by simp; omega) hg5 hvg; obtain ⟨VA5, vc5, rfl, hvc5, hvm5⟩ := hown5.form)
          | (go_simp; go_at_call 86; refine (jclone_any er en ep el EA n ec _ hr2d hn20 h6).mono ?_; rintro e w3 ⟨CA3, cc3, rfl, hownC, hb3⟩; have c03 := below_cell hb3 hg2 c0d; have f03 := (hb3.frozen (p := ⟨g, 0, none⟩) hg2).trans f0d; have hown3 := hown2.below hb3; have hg3 := Nat.lt_of_lt_of_le hg2 hb3.size; have hB3 := Nat.le_trans hB2 hb3.size))
        all_goals go_wp2_with fail
        all_goals
          go_ret2
          have e1 : (es ++ [(⟨er, en, ep, CA3, el.length, cc3, el⟩ : Ent)]).length = es.length + 1 := by simp
          rw [e1] at hown5 hat5
          have h23 : Below w2.heap.size w2 w3 := (bdrewN (Below.refl w2.heap.size w2) 1).trans hb3
          have hel : el.length ≤ 20 := (entE_right HE.out).high
          refine .inr ⟨HP.out, rfl, ?_, _, ⟨er, en, ep, CA3, el.length, cc3, el⟩, rfl, rfl, rfl, rfl, Jrn.push (n := 0) (c := 0) _ hJ1 href h12 h23 hownC hel hown5 hg5 hat5⟩
          exact (((hbB2.trans (h23.mono hB2)).alloc hB3 _).grown hg5 (by simp; omega) (fun q e => (hown3.block q e).1)).setCell hJ1.gB _
  · rw [errV_n he]
    have HP : Hid (postE c es er en ep el = entE c er en ep el) := by show _ = _; rw [postE, if_pos he]
    have HE := hide he
    clear he
    go_wp2_with fail
    go_ret2
    exact .inl ⟨by rw [HP.out]; exact HE.out, by rw [HP.out]; rfl, hJ1, hb1⟩
end Go.Proofs.YthmjkhlndphldaaGreatDoor
