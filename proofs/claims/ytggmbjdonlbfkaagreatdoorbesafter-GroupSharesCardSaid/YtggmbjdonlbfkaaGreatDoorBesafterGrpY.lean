/- group.Whole's own function: rows of ints summed up, and rolled up over a chart. -/
import Derived.Test.YtggmbjdonlbfkaaGreatDoorBesafterRoll
import Derived.Test.YtggmbjdonlbfkaaGreatDoorBesafterOpenX
import Derived.Test.YtggmbjdonlbfkaaGreatDoorBesafterGrpX
import Derived.Deep.LoopGhost
import Derived.Deep.Slices
namespace Go.Proofs.YtggmbjdonlbfkaaGreatDoorBesafter
open Go Go.RowKit
set_option linter.unusedVariables false

/-- the sums of the first k rows -/
def sumsTo (rows : List Wt) (k : Nat) : List Int := (rows.take k).map fun x => x.ws.sum
theorem sumsTo_succ {rows : List Wt} {k : Nat} (hk : k < rows.length) : sumsTo rows (k + 1) = sumsTo rows k ++ [rows[k].ws.sum] := by
  unfold sumsTo
  rw [List.take_succ_eq_append_getElem hk, List.map_append]
  rfl
theorem sumsTo_len {rows : List Wt} {k : Nat} (hk : k ≤ rows.length) : (sumsTo rows k).length = k := by
  unfold sumsTo
  rw [List.length_map, List.length_take]
  omega
structure RowOk (W : World) (x : Wt) : Prop where
  rd : Rd W 1 intEnc2 x.A x.n x.ws
  n : x.n ≤ 1000
  i64 : Ints64 x.ws
  fit : in64 x.ws.sum = true
theorem RowOk.below {W W' : World} {x : Wt} (h : RowOk W x) (hb : Below W.heap.size W W') : RowOk W' x := ⟨h.rd.below hb, h.n, h.i64, h.fit⟩
theorem sums_64 {W : World} {rows : List Wt} (h : ∀ x ∈ rows, RowOk W x) (k : Nat) : Ints64 (sumsTo rows k) := by
  intro y hy
  unfold sumsTo at hy
  obtain ⟨x, hx, rfl⟩ := List.mem_map.1 hy
  have hf := (h x (List.mem_of_mem_take hx)).fit
  by_cases hr : -9223372036854775808 ≤ x.ws.sum ∧ x.ws.sum ≤ 9223372036854775807
  · exact hr
  · rw [in64_no _ hr] at hf; cases hf

set_option maxHeartbeats 2000000 in
set_option maxRecDepth 100000 in
theorem wsum_any (c : List Acc) (CA : Option Addr) (cn ccap g : Nat) (rows : List Wt) (RA : Option Addr) (rc : Nat) (w : World) (h60 : cn ≤ 60) (hcc : cn ≤ ccap) (hc : Accs w CA cn c) (hcok : AccOk c) (he : chartE c = 0) (hg : w.cell? ⟨g, 0, none⟩ = some (.slice CA cn ccap))
    (hr : Rd w 1 Wt.enc RA cn rows) (hok : ∀ x ∈ rows, RowOk w x) :
    Calls Tryz.prog 15 #[.slice RA cn rc, .pointer (some ⟨g, 0, none⟩)] w fun e w' => Below w.heap.size w w' ∧
      ((Fit64 c (sumsTo rows cn) c.length ∧ ∃ v, e = .returned (.tuple #[v, .nilIface]) ∧ Own w' w.heap.size 3 1 intEnc2 v (rollTo c (sumsTo rows cn) c.length)) ∨
        (¬ Fit64 c (sumsTo rows cn) c.length ∧ e = .returned (.tuple #[.slice none 0 0, .iface 41 (.int .i64 10)]))) := by
  obtain ⟨i0, hi0, hz0, hz1, hz2⟩ := info_parts int_info2
  have Hr := hide hr.1
  have HE := hide he
  have HOK := hide hok
  have hgl := World.block_lt_of_cell? _ _ hg
  clear he hok
  go_enter Tryz.func15, Tryz.ntmps15
  go_wp2_with fail
  go_loopw [5, 12] (fun ov iv wr => ∃ k : Nat, k ≤ cn ∧ iv = .int .i64 k ∧ Own wr w.heap.size 3 1 intEnc2 ov (sumsTo rows k) ∧ Below w.heap.size w wr) (fun _ iv _ => cn - (intOf iv).toNat)
  case atStart => exact ⟨0, by omega, rfl, Own.nil _ _ _ _ _, Below.refl _ _⟩
  case round =>
    obtain ⟨k, hk, rfl, hown, hbr⟩ := hrel
    obtain ⟨wo, hwo⟩ : ∃ wo, wo = wr := ⟨_, rfl⟩
    subst hwo
    by_cases hlt : k < cn
    · have hkl : k < rows.length := by have := Hr.out; omega
      obtain ⟨b, off, rfl, hcs⟩ := (Rd.below hr hbr).2 (by omega)
      have q0 := hcs k 0 _ hkl rfl
      simp only [Nat.mul_one, Nat.add_zero] at q0
      clear hcs
      have k0 : (0 : Int) ≤ (k : Int) := by omega
      have k1 : (k : Int) < (cn : Int) := by omega
      have hx := (HOK.out _ (List.getElem_mem hkl)).below hbr
      have HNX := hide (sumsTo_succ hkl)
      have hslen : (sumsTo rows k).length = k := sumsTo_len (by omega)
      obtain ⟨x, hxe⟩ : ∃ x, x = rows[k] := ⟨_, rfl⟩
      rw [← hxe] at q0 hx HNX
      clear hxe
      obtain ⟨xA, xn, xc, ws⟩ := x
      have hxr := hx.rd
      have hxn := hx.n
      have hx6 := hx.i64
      have hsv : smV ws.sum = ws.sum := if_pos hx.fit
      have hse : smE ws.sum = 0 := if_pos hx.fit
      simp only at hxr hxn hx6 HNX
      have HSV := hide hsv
      have HSE := hide hse
      have hsz := hbr.size
      clear hx hsv hse
      go_wp2_with fail
      refine (msum_any ws _ _ _ _ hxr (by omega) hx6).mono ?_
      rintro e w4 ⟨rfl, hb4⟩
      rw [HSV.out, HSE.out, show errV 0 = .nilIface from rfl]
      have hown4 := hown.below hb4
      have hb4w := bthen hbr (Nat.le_refl _) hb4
      have hs4 := hb4w.size
      go_wp2_with (first | (at_builtin; go_loud (refine wpList_push _ rfl _ _ 25 rfl w.heap.size 3 i0 (.int .i64 0) 1 8 Tryz.underlying25 hi0 hz0 hz1 hz2 rfl (by decide) intEnc2_ok _ (sumsTo rows k) rfl (hown4.alloc _) _ 1 1 [ws.sum] rfl (Rd.boxed _ intEnc2_ok _ _ _ rfl) (by intro h; cases h) (by simp only [maxLen]; omega) (by omega) (by simp; omega) ?_); intro v' w5 hown5 hg5 hat5))
      go_roundw
      case rel => exact ⟨k + 1, by omega, by go_num, by rw [HNX.out]; exact hown5, (hb4w.alloc hs4 _).grown hg5 (by simp; omega) (fun q e => (hown4.block q e).1)⟩
      case measure => simp [intOf]; omega
    · have hkn : k = cn := by omega
      subst hkn
      have hg4 := below_cell hbr hgl hg
      have h64 := sums_64 HOK.out k
      have hslen : (sumsTo rows k).length = k := sumsTo_len (by have := Hr.out; omega)
      have hbs := hbr.size
      obtain ⟨SA, sc, rfl, hs1, hs2⟩ := hown.form
      have hrd := hown.rd intEnc2_ok
      rw [hslen] at hrd ⊢
      clear hs1 hs2
      go_wp2_with fail
      refine (roll_any c (sumsTo rows k) _ _ _ _ _ _ h60 hcc (hc.below hbr) hcok HE.out hrd h64).mono ?_
      rintro e w4 ⟨hb4, ⟨hfit, v4, rfl, hown4⟩ | ⟨hfit, rfl⟩⟩
      · have HF := hide hfit
        clear hfit
        go_wp2_with fail
        go_ret2
        exact ⟨bthen hbr (Nat.le_refl _) hb4, .inl ⟨HF.out, _, rfl, Own.wider hown4 hbs⟩⟩
      · have HF := hide hfit
        clear hfit
        go_wp2_with fail
        go_ret2
        exact ⟨bthen hbr (Nat.le_refl _) hb4, .inr ⟨HF.out, rfl⟩⟩
end Go.Proofs.YtggmbjdonlbfkaaGreatDoorBesafter

namespace Go.Proofs.YtggmbjdonlbfkaaGreatDoorBesafter
open Go Go.RowKit
set_option linter.unusedVariables false

/-- the box gq holds a slice of the call's own -/
structure OrdAt (w W : World) (gq : Nat) (out : List Int) (v : Value) : Prop where
  c : W.cell? ⟨gq, 0, none⟩ = some v
  f : W.frozen? ⟨gq, 0, none⟩ = false
  own : Own W (gq + 1) 3 1 intEnc2 v out
  be : Below w.heap.size w W
  lo : w.heap.size ≤ gq
section
variable {w W W' : World} {gq : Nat} {out out' : List Int} {v v' : Value}
theorem OrdAt.lt (h : OrdAt w W gq out v) : gq < W.heap.size := World.block_lt_of_cell? _ _ h.c
theorem OrdAt.below (h : OrdAt w W gq out v) (hb : Below W.heap.size W W') : OrdAt w W' gq out v :=
  ⟨below_cell hb h.lt h.c, (hb.frozen (p := ⟨gq, 0, none⟩) h.lt).trans h.f, h.own.below hb, bthen h.be (Nat.le_refl _) hb, h.lo⟩
theorem OrdAt.other (h : OrdAt w W gq out v) {g : Nat} (h1 : gq < g) (h2 : v.ownBlock ≠ some g) (o : Nat) (u : Value) : OrdAt w (W.setCell ⟨g, o, none⟩ u) gq out v :=
  ⟨(World.cell?_setCell_other _ _ _ _ (by simp <;> omega)).trans h.c, by simp [h.f], h.own.grown (only_setCell (only_refl W (some g)) o u) (.inr h2), h.be.setCell (show w.heap.size ≤ g by have := h.lo; omega) u, h.lo⟩
theorem cell_keepG {W : World} {o : Obj} {b q : Nat} {u : Value} (h : W.cell? ⟨b, q, none⟩ = some u) : (W.alloc o).cell? ⟨b, q, none⟩ = some u :=
  below_cell ((Below.refl W.heap.size W).alloc (Nat.le_refl _) o) (World.block_lt_of_cell? _ _ h) h
theorem OrdAt.put (h : OrdAt w W gq out v) {o : Obj} (hown : Own W' (gq + 1) 3 1 intEnc2 v' out') (hg : (W.alloc o).grownBy W' v.ownBlock) :
    W'.cell? ⟨gq, 0, none⟩ = some v ∧ W'.frozen? ⟨gq, 0, none⟩ = false ∧ OrdAt w (W'.setCell ⟨gq, 0, none⟩ v') gq out' v' := by
  have hn : v.ownBlock ≠ some gq := fun e => by have := (h.own.block gq e).1; omega
  have hlt := h.lt
  have hA := h.below (W' := W.alloc o) ((Below.refl _ _).alloc (Nat.le_refl _) _)
  have c1 : W'.cell? ⟨gq, 0, none⟩ = some v := hg.cell hA.c (fun e => hn e.symm)
  have f1 : W'.frozen? ⟨gq, 0, none⟩ = false := frozen_grown2 hA.f hA.lt hg (fun e => hn e)
  have hb1 : Below w.heap.size w W' := hA.be.grown hg hA.be.size (fun k e => by have := (h.own.block k e).1; have := h.lo; omega)
  have hn' : v'.ownBlock ≠ some gq := fun e => by have := (hown.block gq e).1; omega
  exact ⟨c1, f1, World.cell?_setCell_same _ ⟨gq, 0, none⟩ _ c1, by simp [f1], hown.grown (only_setCell (only_refl W' (some gq)) 0 v') (.inr hn'), hb1.setCell h.lo v', h.lo⟩
end

theorem roundTo_yes {l : List Hold} {out : List Int} {k : Nat} (h : mayP l (roundTo l out k) ((k : Int) + 1) = true) : roundTo l out (k + 1) = roundTo l out k ++ [(k : Int) + 1] := if_pos h
theorem roundTo_no {l : List Hold} {out : List Int} {k : Nat} (h : mayP l (roundTo l out k) ((k : Int) + 1) = false) : roundTo l out (k + 1) = roundTo l out k := if_neg (by rw [h]; decide)
theorem round_len (l : List Hold) (out : List Int) : ∀ k, out.length ≤ (roundTo l out k).length
  | 0 => Nat.le_refl _
  | k + 1 => by
    have := round_len l out k
    rw [roundTo]
    split
    · rw [List.length_append]; omega
    · exact this
theorem Ord12.len {o : List Int} (h : Ord12 o) : o.length ≤ 12 := by
  have := nodup_len o [1, 2, 3, 4, 5, 6, 7, 8, 9, 10, 11, 12] h.nd (fun x hx => by
    have hr := h.rng x hx
    simp only [List.mem_cons, List.not_mem_nil, or_false]
    omega)
  simpa using this

theorem orderN_done {l : List Hold} {fu : Nat} {out : List Int} (h : 12 ≤ out.length) (h13 : 13 ≤ fu + out.length) (h12 : out.length ≤ 12) : orderN l fu out = out := by
  obtain ⟨f, rfl⟩ : ∃ f, fu = f + 1 := ⟨fu - 1, by omega⟩
  rw [orderN, if_pos h]
theorem orderN_stop {l : List Hold} {f : Nat} {out : List Int} (h : ¬ 12 ≤ out.length) (e : (roundTo l out 12).length = out.length) : orderN l (f + 1) out = [] := by
  rw [orderN, if_neg h, if_pos e]
theorem orderN_go {l : List Hold} {f : Nat} {out : List Int} (h : ¬ 12 ≤ out.length) (e : (roundTo l out 12).length ≠ out.length) : orderN l (f + 1) out = orderN l f (roundTo l out 12) := by
  rw [orderN, if_neg h, if_neg e]
theorem mayP_1 {l : List Hold} {out : List Int} {e : Int} (h : inL out e = true) : mayP l out e = false := by unfold mayP; rw [h]; rfl
theorem mayP_2 {l : List Hold} {out : List Int} {e : Int} (h : inL out e = false) (h2 : l.any (waits out e) = true) : mayP l out e = false := by unfold mayP; rw [h, h2]; rfl
theorem mayP_3 {l : List Hold} {out : List Int} {e : Int} (h : inL out e = false) (h2 : l.any (waits out e) = false) : mayP l out e = true := by unfold mayP; rw [h, h2]; rfl

set_option maxHeartbeats 2000000 in
set_option maxRecDepth 100000 in
theorem order_any (l : List Hold) (A : Option Addr) (n cap : Nat) (w : World) (hl : n ≤ 9223372036854775807) (ha : Rd w 3 Hold.enc A n l) :
    Calls Tryz.prog 10 #[.slice A n cap] w fun e w' => Below w.heap.size w w' ∧ ((orderF l = [] ∧ e = .returned (.slice none 0 0)) ∨ (orderF l ≠ [] ∧ ∃ OA oc, e = .returned (.slice OA 12 oc) ∧ Own w' w.heap.size 3 1 intEnc2 (.slice OA 12 oc) (orderF l))) := by
  obtain ⟨i0, hi0, hz0, hz1, hz2⟩ := info_parts int_info2
  have H0 : OrdAt w (w.alloc (.cells #[.slice none 0 0] 25)) w.heap.size [] (.slice none 0 0) :=
    ⟨by simp, by simp, Own.nil _ _ _ _ _, (Below.refl _ _).alloc (Nat.le_refl _) _, Nat.le_refl _⟩
  obtain ⟨R, hR⟩ : ∃ R, R = orderF l := ⟨_, rfl⟩
  have HR := hide hR
  rw [← hR]
  clear hR
  go_enter Tryz.func10, Tryz.ntmps10
  go_wp2_with fail
  generalize w.alloc (.cells #[.slice none 0 0] 25) = W0 at H0 ⊢
  obtain ⟨gq, hgq⟩ : ∃ gq, gq = w.heap.size := ⟨_, rfl⟩
  have HGQ := hide hgq
  rw [← hgq] at H0 ⊢
  clear hgq
  go_loopg [] 13 (fun fu wr => ∃ (out : List Int) (v : Value), OrdAt w wr gq out v ∧ Hid (orderN l fu out = R ∧ 13 ≤ fu + out.length ∧ Ord12 out))
  case atStart => exact ⟨[], _, H0, HR.out.symm, by simp, ⟨by simp, fun x hx => by cases hx⟩⟩
  case round =>
    obtain ⟨out, v, hO, HN⟩ := hrel
    obtain ⟨wo, hwo⟩ : ∃ wo, wo = wr := ⟨_, rfl⟩
    subst hwo
    obtain ⟨OA, oc, rfl, hoc, hom⟩ := hO.own.form
    have c0 := hO.c
    have f0 := hO.f
    have h12 := HN.out.2.2.len
    have hlt := hO.lt
    obtain ⟨on, hon⟩ : ∃ on, on = out.length := ⟨_, rfl⟩
    rw [← hon] at c0 hO hoc h12
    have HON := hide hon
    clear hon
    by_cases h1 : 12 ≤ on
    · have h1' : ¬ ((on : Int) < 12) := by omega
      go_wp2_with fail
      go_ret
      obtain ⟨a1, a2, a3⟩ := HN.out
      have e1 := HON.out
      have e2 : out = R := by rw [← a1]; exact (orderN_done (by omega) (by omega) (by omega)).symm
      have e3 : on = 12 := by omega
      subst e2 e3
      have hown := hO.own
      refine ⟨hO.be, .inr ⟨(fun e => by rw [e] at e1; cases e1), OA, oc, rfl, Own.wider hown (by rw [HGQ.out]; exact Nat.le_succ _)⟩⟩
    · have h1' : ((on : Int) < 12) := by omega
      obtain ⟨f, hf⟩ : ∃ f, gk = f + 1 := ⟨gk - 1, by have := HN.out.2.1; have := HON.out; omega⟩
      have HF := hide hf
      have HN2 : Hid (orderN l (f + 1) out = R ∧ 13 ≤ f + 1 + out.length ∧ Ord12 out) := by show _ ∧ _; rw [← hf]; exact HN.out
      clear hf
      have hA : Below wo.heap.size wo (wo.alloc (.cells #[.int .i64 1] 3)) := (Below.refl _ _).alloc (Nat.le_refl _) _
      have hO1 := hO.below hA
      have cg : (wo.alloc (.cells #[.int .i64 1] 3)).cell? ⟨wo.heap.size, 0, none⟩ = some (.int .i64 1) := by simp
      have fg : (wo.alloc (.cells #[.int .i64 1] 3)).frozen? ⟨wo.heap.size, 0, none⟩ = false := by simp
      have hvg : (Value.slice OA on oc).ownBlock ≠ some wo.heap.size := fun e => by have := (hO.own.block _ e).2; omega
      go_wp2_with fail
      go_loopg [5] 12 (fun r ev wi => ∃ (k ge : Nat) (vi : Value), r + k = 12 ∧ ev = .pointer (some ⟨ge, 0, none⟩) ∧ wi.cell? ⟨ge, 0, none⟩ = some (.int .i64 ((k : Int) + 1)) ∧ wi.frozen? ⟨ge, 0, none⟩ = false ∧ gq < ge ∧ vi.ownBlock ≠ some ge ∧ OrdAt w wi gq (roundTo l out k) vi)
      case atStart => exact ⟨0, wo.heap.size, _, rfl, rfl, cg, fg, hlt, hvg, hO1⟩
      case round =>
        clear c0 f0 hO hO1 cg fg hvg hA hoc hom
        obtain ⟨k, ge, vi, hrk, rfl, cg, fg, hgg, hvg, hO⟩ := hrel
        obtain ⟨cur, hcur⟩ : ∃ cur, cur = roundTo l out k := ⟨_, rfl⟩
        rw [← hcur] at hO
        obtain ⟨CA, cc, rfl, hcc, hcm⟩ := hO.own.form
        have hrd := hO.own.rd intEnc2_ok
        have c0 := hO.c
        have f0 := hO.f
        have hqlt := hO.lt
        have hglt := World.block_lt_of_cell? _ _ cg
        obtain ⟨e, he⟩ : ∃ e : Int, e = (k : Int) + 1 := ⟨_, rfl⟩
        rw [← he] at cg
        have hE1 : 1 ≤ e := by omega
        have hne1 : ge ≠ gq := by omega
        have hne2 : gq ≠ ge := by omega
        have hcl : cur.length ≤ 9223372036854775807 := by unfold maxLen at hcm; omega
        have HCUR := hide hcur
        have HE := hide he
        clear hcur
        by_cases hk : e ≤ 12
        · have HNX : Hid (∀ (W : World) (V : Value) (L : List Int) (g : Nat), OrdAt w W gq L V → L = roundTo l out (k + 1) → g = W.heap.size → ∀ W2, W2 = W.alloc (.cells #[.int .i64 (e + 1)] 3) →
            ∃ (k' g' : Nat) (v' : Value), (gk - 1) + k' = 12 ∧ Value.pointer (some ⟨g, 0, none⟩) = .pointer (some ⟨g', 0, none⟩) ∧ W2.cell? ⟨g', 0, none⟩ = some (.int .i64 ((k' : Int) + 1)) ∧ W2.frozen? ⟨g', 0, none⟩ = false ∧ gq < g' ∧ v'.ownBlock ≠ some g' ∧ OrdAt w W2 gq (roundTo l out k') v') := by
            rintro W V L g h1 rfl rfl W2 rfl
            exact ⟨k + 1, W.heap.size, V, by omega, rfl, by simp; omega, by simp, h1.lt, (fun h => by have := (h1.own.block _ h).2; omega), h1.below ((Below.refl _ _).alloc (Nat.le_refl _) _)⟩
          have HM : Hid (gk - 1 < gk) := by show _ < _; omega
          clear he
          cases hin : inL cur e with
          | true =>
            have HIN := hide hin
            have HL : Hid (cur = roundTo l out (k + 1)) := by
              show _ = _
              rw [roundTo_no (by rw [← HCUR.out, ← HE.out]; exact mayP_1 hin)]
              exact HCUR.out
            clear hin
            go_wp2_with fail
            refine (contains_intG cur e _ _ _ _ hcl hrd).mono ?_
            rintro e' w1 ⟨rfl, rfl⟩
            rw [HIN.out]
            go_wp2_with fail
            go_roundg (gk - 1)
            case measure => exact HM.out
            case rel => exact HNX.out wr _ cur _ hO HL.out rfl _ rfl
          | false =>
            have HIN := hide hin
            have HHP := hide hin
            clear hin
            have HCW := hide (contains_wait l e cur ge gq CA cur.length cc A n cap wr hl (ha.below hO.be) cg c0 hcl hrd)
            cases hany : l.any (waits cur e) with
            | true =>
              have HL : Hid (cur = roundTo l out (k + 1)) := by
                show _ = _
                rw [roundTo_no (by rw [← HCUR.out, ← HE.out]; exact mayP_2 HHP.out hany)]
                exact HCUR.out
              have HANY := hide hany
              clear hany
              go_wp2_with fail
              refine (contains_intG cur e _ _ _ _ hcl hrd).mono ?_
              rintro e' w1 ⟨rfl, rfl⟩
              rw [HIN.out]
              go_wp2_with fail
              refine HCW.out.mono ?_
              rintro e' w1 ⟨rfl, hb1⟩
              rw [HANY.out]
              have hO1 := hO.below hb1
              have cg1 := below_cell hb1 hglt cg
              clear hO cg c0 hrd
              go_wp2_with fail
              go_roundg (gk - 1)
              case measure => exact HM.out
              case rel => exact HNX.out w1 _ cur _ hO1 HL.out rfl _ rfl
            | false =>
              have HL : Hid (cur ++ [e] = roundTo l out (k + 1)) := by
                show _ = _
                rw [roundTo_yes (by rw [← HCUR.out, ← HE.out]; exact mayP_3 HHP.out hany), ← HCUR.out, ← HE.out]
              have HANY := hide hany
              have hcl2 : cur.length ≤ 12 := by rw [HCUR.out]; exact (round_ord l HN.out.2.2 k (by omega)).len
              clear hany
              go_wp2_with fail
              refine (contains_intG cur e _ _ _ _ hcl hrd).mono ?_
              rintro e' w1 ⟨rfl, rfl⟩
              rw [HIN.out]
              go_wp2_with fail
              refine HCW.out.mono ?_
              rintro e' w1 ⟨rfl, hb1⟩
              rw [HANY.out]
              have hO1 := hO.below hb1
              have cg1 := below_cell hb1 hglt cg
              have hgl1 := World.block_lt_of_cell? _ _ cg1
              have c1 := hO1.c
              have f1 := hO1.f
              have hs1 := hO1.lt
              clear hO cg c0 f0 hrd
              go_wp2_with (first | (at_builtin; go_loud (refine wpList_push _ rfl _ _ 25 rfl (gq + 1) 3 i0 (.int .i64 0) 1 8 Tryz.underlying25 hi0 hz0 hz1 hz2 rfl (by decide) intEnc2_ok _ cur rfl (hO1.own.alloc _) _ 1 1 [e] rfl (Rd.boxed _ intEnc2_ok _ _ _ rfl) (by intro h; cases h) (by simp only [maxLen]; omega) (by omega) (by simp; omega) ?_); intro v' w4 hown4 hg4 hat4; obtain ⟨VA4, vc4, rfl, hv4, hm4⟩ := hown4.form; obtain ⟨c4, f4, hO4⟩ := hO1.put hown4 hg4; have cg4 : w4.cell? ⟨ge, 0, none⟩ = some (.int .i64 e) := hg4.cell (cell_keepG cg1) (fun h => hvg h.symm)))
              go_roundg (gk - 1)
              case measure => exact HM.out
              case rel => exact HNX.out _ _ (cur ++ [e]) _ hO4 HL.out (by simp [World.setCell]) _ (by simp)
        · have hk12 : k = 12 := by omega
          subst hk12
          have HCL : Hid (cur = roundTo l out 12) := HCUR
          by_cases hst : cur.length = on
          · have hst' : (cur.length : Int) = (on : Int) := by omega
            go_wp2_with fail
            go_ret
            refine ⟨hO.be, .inl ⟨?_, rfl⟩⟩
            rw [← HN2.out.1]
            exact orderN_stop (by have := HON.out; omega) (by rw [← HCL.out, hst, HON.out])
          · have hst' : ¬ (cur.length : Int) = (on : Int) := by omega
            go_wp2_with fail
            go_roundg f
            case measure => have := HF.out; omega
            case rel =>
              have h2 : cur.length ≠ out.length := by rw [← HON.out]; exact hst
              have h3 := round_len l out 12
              rw [← HCL.out] at h3
              refine ⟨cur, _, hO, ?_, ?_, ?_⟩
              · rw [← HN2.out.1, HCL.out]
                exact (orderN_go (by have := HON.out; omega) (by rw [← HCL.out]; exact h2)).symm
              · have := HN2.out.2.1; omega
              · rw [HCL.out]; exact round_ord l HN2.out.2.2 12 (by omega)
end Go.Proofs.YtggmbjdonlbfkaaGreatDoorBesafter

namespace Go.Proofs.YtggmbjdonlbfkaaGreatDoorBesafter
open Go Go.RowKit
set_option linter.unusedVariables false

theorem VRow.other2 {w : World} {g e n : Nat} {F : Nat → Value} (h : VRow w g e n F) {q : Nat} (hne : g ≠ q) (i : Nat) (v : Value) : VRow (w.setCell ⟨q, i, none⟩ v) g e n F := (Below.heap_setCell w ⟨q, i, none⟩ v g hne).trans h
structure Mat (W : World) (ga gb cn : Nat) (am : List Int) (i : Nat) : Prop where
  ne : ga ≠ gb
  a : ∃ F : Nat → Value, VRow W ga 25 cn F ∧ (∀ j, j < i → ∃ b c, F j = .slice (some ⟨b, 0, none⟩) 1 c ∧ W.cell? ⟨b, 0, none⟩ = some (.int .i64 (am.getD j 0)) ∧ b ≠ ga ∧ b ≠ gb) ∧ ∀ j, i ≤ j → F j = .slice none 0 0
  b : ∃ G : Nat → Value, VRow W gb 25 cn G ∧ (∀ j, j < i → ∃ b c, G j = .slice (some ⟨b, 0, none⟩) 2 c ∧ W.cell? ⟨b, 0, none⟩ = some (.int .i64 (am.getD j 0)) ∧ W.cell? ⟨b, 1, none⟩ = some (.int .i64 (-(am.getD j 0))) ∧ b ≠ ga ∧ b ≠ gb) ∧ ∀ j, i ≤ j → G j = .slice none 0 0

section
variable {W W' : World} {ga gb cn i : Nat} {am : List Int}
theorem Mat.new (h : ga ≠ gb) (h1 : VRow W ga 25 cn fun _ => .slice none 0 0) (h2 : VRow W gb 25 cn fun _ => .slice none 0 0) : Mat W ga gb cn am 0 :=
  ⟨h, ⟨_, h1, fun j hj => absurd hj (by omega), fun _ _ => rfl⟩, ⟨_, h2, fun j hj => absurd hj (by omega), fun _ _ => rfl⟩⟩
theorem Mat.below (h : Mat W ga gb cn am i) (hb : Below W.heap.size W W') : Mat W' ga gb cn am i := by
  obtain ⟨hn, ⟨F, f1, f2, f3⟩, ⟨G, g1, g2, g3⟩⟩ := h
  have hc : ∀ {b o : Nat} {u : Value}, W.cell? ⟨b, o, none⟩ = some u → W'.cell? ⟨b, o, none⟩ = some u := fun h => below_cell hb (World.block_lt_of_cell? _ _ h) h
  refine ⟨hn, ⟨F, f1.below hb, fun j hj => ?_, f3⟩, ⟨G, g1.below hb, fun j hj => ?_, g3⟩⟩
  · obtain ⟨b, c, k1, k2, k3, k4⟩ := f2 j hj
    exact ⟨b, c, k1, hc k2, k3, k4⟩
  · obtain ⟨b, c, k1, k2, k3, k4, k5⟩ := g2 j hj
    exact ⟨b, c, k1, hc k2, hc k3, k4, k5⟩
theorem Mat.lts (h : Mat W ga gb cn am i) : ga < W.heap.size ∧ gb < W.heap.size := by
  obtain ⟨hn, ⟨F, f1, _⟩, ⟨G, g1, _⟩⟩ := h
  exact ⟨f1.lt, g1.lt⟩
/-- the two places that are filled next -/
theorem Mat.spot (h : Mat W ga gb cn am i) (hi : i < cn) : W.cell? ⟨ga, i, none⟩ = some (.slice none 0 0) ∧ W.frozen? ⟨ga, i, none⟩ = false ∧ W.cell? ⟨gb, i, none⟩ = some (.slice none 0 0) ∧ W.frozen? ⟨gb, i, none⟩ = false := by
  obtain ⟨hn, ⟨F, f1, f2, f3⟩, ⟨G, g1, g2, g3⟩⟩ := h
  exact ⟨by rw [f1.cell i hi, f3 i (Nat.le_refl _)], f1.frozen i, by rw [g1.cell i hi, g3 i (Nat.le_refl _)], g1.frozen i⟩
theorem own1 {W : World} {B : Nat} {V : Value} {x : Int} (h : Own W B 3 1 intEnc2 V [x]) : ∃ b c, V = .slice (some ⟨b, 0, none⟩) 1 c ∧ W.cell? ⟨b, 0, none⟩ = some (.int .i64 x) ∧ B ≤ b := by
  obtain ⟨A, c, rfl, _, _⟩ := h.form
  obtain ⟨g, rfl⟩ : ∃ g, A = some ⟨g, 0, none⟩ := by
    rcases h.2 with ⟨hv, h0⟩ | ⟨g9, cap9, cur9, hv, _⟩
    · cases h0
    · injection hv with e1; exact ⟨g9, e1⟩
  have := (h.cells intEnc2_ok 0 0 (.int .i64 x) (by simp) rfl).1
  simp only [Nat.zero_mul, Nat.add_zero] at this
  exact ⟨g, c, rfl, this, (h.block g rfl).1⟩
theorem own2 {W : World} {B : Nat} {V : Value} {x y : Int} (h : Own W B 3 1 intEnc2 V [x, y]) : ∃ b c, V = .slice (some ⟨b, 0, none⟩) 2 c ∧ W.cell? ⟨b, 0, none⟩ = some (.int .i64 x) ∧ W.cell? ⟨b, 1, none⟩ = some (.int .i64 y) ∧ B ≤ b := by
  obtain ⟨A, c, rfl, _, _⟩ := h.form
  obtain ⟨g, rfl⟩ : ∃ g, A = some ⟨g, 0, none⟩ := by
    rcases h.2 with ⟨hv, h0⟩ | ⟨g9, cap9, cur9, hv, _⟩
    · cases h0
    · injection hv with e1; exact ⟨g9, e1⟩
  have h0 := (h.cells intEnc2_ok 0 0 (.int .i64 x) (by simp) rfl).1
  have h1 := (h.cells intEnc2_ok 1 0 (.int .i64 y) (by simp) rfl).1
  simp only [Nat.zero_mul, Nat.add_zero, Nat.one_mul] at h0 h1
  exact ⟨g, c, rfl, h0, h1, (h.block g rfl).1⟩
theorem Mat.step {V1 V2 : Value} {B1 B2 : Nat} (h : Mat W ga gb cn am i) (hi : i < cn) (hb : Below W.heap.size W W') (h1 : Own W' B1 3 1 intEnc2 V1 [am.getD i 0]) (h2 : Own W' B2 3 1 intEnc2 V2 [am.getD i 0, -(am.getD i 0)]) (hB1 : W.heap.size ≤ B1) (hB2 : W.heap.size ≤ B2) :
    Mat ((W'.setCell ⟨ga, i, none⟩ V1).setCell ⟨gb, i, none⟩ V2) ga gb cn am (i + 1) := by
  obtain ⟨la, lb⟩ := h.lts
  obtain ⟨hn, ⟨F, f1, f2, f3⟩, ⟨G, g1, g2, g3⟩⟩ := h.below hb
  obtain ⟨p, c1, rfl, p0, hp⟩ := own1 h1
  obtain ⟨q, c2, rfl, q0, q1, hq⟩ := own2 h2
  have hc : ∀ {b o : Nat} {u : Value}, b ≠ ga → b ≠ gb → W'.cell? ⟨b, o, none⟩ = some u → ((W'.setCell ⟨ga, i, none⟩ (.slice (some ⟨p, 0, none⟩) 1 c1)).setCell ⟨gb, i, none⟩ (.slice (some ⟨q, 0, none⟩) 2 c2)).cell? ⟨b, o, none⟩ = some u := fun {b o u} e1 e2 h =>
    (World.cell?_setCell_other _ _ _ _ (by simp <;> exact e2)).trans ((World.cell?_setCell_other _ _ _ _ (by simp <;> exact e1)).trans h)
  refine ⟨hn, ⟨_, VRow.other2 (f1.set_ i (.slice (some ⟨p, 0, none⟩) 1 c1)) hn i _, fun j hj => ?_, fun j hj => ?_⟩, ⟨_, ((VRow.other2 g1 (fun e => hn e.symm) i _).set_ i (.slice (some ⟨q, 0, none⟩) 2 c2)), fun j hj => ?_, fun j hj => ?_⟩⟩
  · by_cases e : j = i
    · subst e
      exact ⟨p, c1, if_pos rfl, hc (by omega) (by omega) p0, by omega, by omega⟩
    · obtain ⟨b, c, k1, k2, k3, k4⟩ := f2 j (by omega)
      exact ⟨b, c, (if_neg e).trans k1, hc k3 k4 k2, k3, k4⟩
  · show (if j = i then _ else F j) = _
    rw [if_neg (by omega)]; exact f3 j (by omega)
  · by_cases e : j = i
    · subst e
      exact ⟨q, c2, if_pos rfl, hc (by omega) (by omega) q0, hc (by omega) (by omega) q1, by omega, by omega⟩
    · obtain ⟨b, c, k1, k2, k3, k4, k5⟩ := g2 j (by omega)
      exact ⟨b, c, (if_neg e).trans k1, hc k4 k5 k2, hc k4 k5 k3, k4, k5⟩
  · show (if j = i then _ else G j) = _
    rw [if_neg (by omega)]; exact g3 j (by omega)

theorem rd1 {w : World} {b : Nat} {x : Int} (h : w.cell? ⟨b, 0, none⟩ = some (.int .i64 x)) : Rd w 1 intEnc2 (some ⟨b, 0, none⟩) 1 [x] := by
  refine ⟨rfl, fun _ => ⟨b, 0, rfl, fun k j u hk hu => ?_⟩⟩
  have hk0 : k = 0 := by simpa using hk
  subst hk0
  have hj0 : j = 0 := by
    have := (List.getElem?_eq_some_iff.1 hu).1
    simp [intEnc2] at this; exact this
  subst hj0
  simp [intEnc2] at hu
  subst hu
  simpa using h
theorem rd2 {w : World} {b : Nat} {x y : Int} (h : w.cell? ⟨b, 0, none⟩ = some (.int .i64 x)) (h2 : w.cell? ⟨b, 1, none⟩ = some (.int .i64 y)) : Rd w 1 intEnc2 (some ⟨b, 0, none⟩) 2 [x, y] := by
  refine ⟨rfl, fun _ => ⟨b, 0, rfl, fun k j u hk hu => ?_⟩⟩
  have hj0 : j = 0 := by
    have := (List.getElem?_eq_some_iff.1 hu).1
    simp [intEnc2] at this; exact this
  subst hj0
  have hk2 : k = 0 ∨ k = 1 := by simp at hk; omega
  rcases hk2 with rfl | rfl
  · simp [intEnc2] at hu
    subst hu
    simpa using h
  · simp [intEnc2] at hu
    subst hu
    simpa using h2
theorem getD_at {l : List Int} {k : Nat} (hk : k < l.length) : l.getD k 0 = l[k] := by
  rw [List.getD_eq_getElem?_getD, List.getElem?_eq_getElem hk]; rfl
/-- the filled rows, read as lists -/
theorem Mat.rowsA (h : Mat W ga gb cn am cn) (hl : am.length = cn) (h64 : Ints64 am) : ∃ rows, Rd W 1 Wt.enc (some ⟨ga, 0, none⟩) cn rows ∧ (∀ x ∈ rows, RowOk W x) ∧ sumsTo rows cn = am := by
  obtain ⟨hn, ⟨F, f1, f2, _⟩, _⟩ := h
  obtain ⟨f, hf⟩ := Deep.choose_lt (α := Wt) (n := cn) (p := fun j r => F j = .slice r.A r.n r.c ∧ RowOk W r ∧ r.ws = [am.getD j 0]) (fun j hj => by
    obtain ⟨b, c, k1, k2, _, _⟩ := f2 j hj
    have hm : am.getD j 0 ∈ am := by rw [getD_at (by omega)]; exact List.getElem_mem _
    have hb := h64 _ hm
    refine ⟨⟨some ⟨b, 0, none⟩, 1, c, [am.getD j 0]⟩, k1, ⟨rd1 k2, by show 1 ≤ 1000; omega, ?_, ?_⟩, rfl⟩
    · intro y hy
      obtain rfl := List.mem_singleton.1 hy
      exact hb
    · exact in64_yes _ (by simpa using hb))
  refine ⟨(List.range cn).map f, ⟨by simp, fun _ => ⟨ga, 0, rfl, fun k j u hk hu => ?_⟩⟩, ?_, ?_⟩
  · have hkc : k < cn := by simpa using hk
    have hj0 : j = 0 := by
      have := (List.getElem?_eq_some_iff.1 hu).1
      simp [Wt.enc] at this; exact this
    subst hj0
    have hu' : u = .slice (f k).A (f k).n (f k).c := by simpa [Wt.enc] using hu.symm
    rw [hu', ← (hf k hkc).1]
    have := f1.cell k hkc
    simpa using this
  · intro x hx
    obtain ⟨j, hj, rfl⟩ := List.mem_map.1 hx
    exact (hf j (List.mem_range.1 hj)).2.1
  · unfold sumsTo
    apply List.ext_getElem
    · simp [hl]
    · intro j h1 h2
      have hj : j < cn := by omega
      simp only [List.getElem_map, List.getElem_take, List.getElem_range]
      rw [(hf j hj).2.2, getD_at h2]
      simp
theorem Mat.rowsB (h : Mat W ga gb cn am cn) (hl : am.length = cn) (hb : ∀ y ∈ am, -1000000000000000000 ≤ y ∧ y ≤ 1000000000000000000) : ∃ rows, Rd W 1 Wt.enc (some ⟨gb, 0, none⟩) cn rows ∧ (∀ x ∈ rows, RowOk W x) ∧ sumsTo rows cn = List.replicate cn 0 := by
  obtain ⟨hn, _, ⟨G, g1, g2, _⟩⟩ := h
  obtain ⟨f, hf⟩ := Deep.choose_lt (α := Wt) (n := cn) (p := fun j r => G j = .slice r.A r.n r.c ∧ RowOk W r ∧ r.ws = [am.getD j 0, -(am.getD j 0)]) (fun j hj => by
    obtain ⟨b, c, k1, k2, k3, _, _⟩ := g2 j hj
    have hm : am.getD j 0 ∈ am := by rw [getD_at (by omega)]; exact List.getElem_mem _
    have hb := hb _ hm
    refine ⟨⟨some ⟨b, 0, none⟩, 2, c, [am.getD j 0, -(am.getD j 0)]⟩, k1, ⟨rd2 k2 k3, by show 2 ≤ 1000; omega, ?_, ?_⟩, rfl⟩
    · intro y hy
      rcases List.mem_cons.1 hy with rfl | hy
      · omega
      · obtain rfl := List.mem_singleton.1 hy
        omega
    · have : ([am.getD j 0, -(am.getD j 0)] : List Int).sum = 0 := by simp; omega
      show in64 ([am.getD j 0, -(am.getD j 0)] : List Int).sum = true
      rw [this]; rfl)
  refine ⟨(List.range cn).map f, ⟨by simp, fun _ => ⟨gb, 0, rfl, fun k j u hk hu => ?_⟩⟩, ?_, ?_⟩
  · have hkc : k < cn := by simpa using hk
    have hj0 : j = 0 := by
      have := (List.getElem?_eq_some_iff.1 hu).1
      simp [Wt.enc] at this; exact this
    subst hj0
    have hu' : u = .slice (f k).A (f k).n (f k).c := by simpa [Wt.enc] using hu.symm
    rw [hu', ← (hf k hkc).1]
    have := g1.cell k hkc
    simpa using this
  · intro x hx
    obtain ⟨j, hj, rfl⟩ := List.mem_map.1 hx
    exact (hf j (List.mem_range.1 hj)).2.1
  · unfold sumsTo
    apply List.ext_getElem
    · simp
    · intro j h1 h2
      have hj : j < cn := by simpa using h2
      simp only [List.getElem_map, List.getElem_take, List.getElem_range, List.getElem_replicate]
      rw [(hf j hj).2.2]
      simp; omega
end
/-- nothing rolled up is nothing -/
theorem roll_zeros (c : List Acc) (n k : Nat) : rollTo c (List.replicate n 0) k = List.replicate k 0 := by
  have key : ∀ i, rollOf c (List.replicate n 0) i = 0 := by
    intro i
    unfold rollOf someTo
    have : ∀ l : List Nat, (l.map fun j => (List.replicate n (0 : Int)).getD j 0).sum = 0 := by
      intro l
      induction l with
      | nil => rfl
      | cons a l ih =>
        have h0 : (List.replicate n (0 : Int)).getD a 0 = 0 := by
          rw [List.getD_eq_getElem?_getD, List.getElem?_replicate]
          split <;> rfl
        rw [List.map_cons, List.sum_cons, ih, h0]; rfl
    exact this _
  unfold rollTo
  apply List.ext_getElem
  · simp
  · intro j h1 h2
    simp [key]
theorem fit_zeros (c : List Acc) (n k : Nat) : Fit64 c (List.replicate n 0) k := by
  intro i hi
  have h := roll_zeros c n (i + 1)
  have h2 : (rollTo c (List.replicate n 0) (i + 1))[i]? = some 0 := by rw [h]; simp
  have h3 : rollOf c (List.replicate n 0) i = 0 := by
    unfold rollTo at h2
    simpa using h2
  rw [h3]; rfl
/-- append onto nothing -/
theorem step_freshG {P : Program} (w : World) {α : Type} {enc : α → List Value} {ops : Array Oper} {o : Oper} {a : Act} {K : Act → World → Prop} {Q : Exit → Act → World → Prop} {E : Prop} (hgd : o.guard = none) (s x : Operand) (t : TypeId)
    (ho : o.op = .call { callee := .builtin .append, args := #[s, x], argTypes := #[t, t] })
    (e : TypeId) (i : TypeInfo) (z : Value) (sz bytes : Nat) (ht : P.underlying t = some (.slice e)) (hi : P.info? e = some i) (hz : i.zero = some z)
    (hsize : i.size = sz) (hby : i.bytes = bytes) (hzs : z.cells.size = sz) (hsz : 0 < sz) (he : Enc sz enc) (hs : a.eval s = .slice none 0 0)
    (A : Option Addr) (m c : Nat) (ys : List α) (hx : a.eval x = .slice A m c) (hr : Rd w sz enc A m ys) (hA : A = none → c = 0)
    (h63 : m ≤ maxLen) (hbytes : m * bytes ≤ 140737488355328)
    (h : ∀ v' w', Own w' w.heap.size e sz enc v' ys → Below w.heap.size w w' → K (a.put o.dst v') w') :
    if Region.wanted o (yielded ops a.tmps) = true then Oper.wp P o a w K Q else E := by
  have hw : Region.wanted o (yielded ops a.tmps) = true := by simp [Region.wanted, hgd]
  rw [if_pos hw]
  refine wp_push w s x t ho w.heap.size e i z sz bytes ht hi hz hsize hby hzs hsz he (.slice none 0 0) [] hs (Own.nil _ _ _ _ _) A m c ys hx hr hA (by simpa using h63) (by simpa using hbytes) (Nat.le_refl _) ?_
  intro v' w' h1 h2 _
  exact h v' w' (by simpa using h1) ⟨h2.os, h2.tape, h2.output, h2.size, fun i hi => h2.block i hi (by simp [Value.ownBlock])⟩
end Go.Proofs.YtggmbjdonlbfkaaGreatDoorBesafter
