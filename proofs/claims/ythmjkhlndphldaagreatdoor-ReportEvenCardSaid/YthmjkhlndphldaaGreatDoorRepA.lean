/- ledger.Balances of entries that are right: what it returns. -/
import Derived.Test.YthmjkhlndphldaaGreatDoorRestAll
namespace Go.Proofs.YthmjkhlndphldaaGreatDoor
open Go Go.RowKit Go.Maps
set_option linter.unusedVariables false

/-- an entry whose amounts are small, of a period up to 120 -/
def Small (x : Core) : Prop := x.2.2.1 ≤ 120 ∧ x.2.2.2.length ≤ 20 ∧ (∀ y, y ∈ x.2.2.2 → inB (-1000000000000000) 1000000000000000 y.amt = true) ∧ ∀ y, y ∈ coreBals x → PlFits y.pl
theorem Small.bnd {x : Core} (h : Small x) : (coreBals x).length ≤ 20 ∧ ∀ y, y ∈ coreBals x → -1000000000000000 ≤ y.amt ∧ y.amt ≤ 1000000000000000 := by
  refine ⟨by unfold coreBals; rw [List.length_map]; exact h.2.1, fun y hy => ?_⟩
  unfold coreBals at hy
  obtain ⟨z, hz, rfl⟩ := List.mem_map.1 hy
  have := h.2.2.1 z hz
  simp [inB] at this
  exact this
theorem small_of {cs : List Core} (h : ∀ x, x ∈ cs → Small x) : (balsOf cs).length ≤ 20 * cs.length ∧ ∀ y, y ∈ balsOf cs → (-1000000000000000 ≤ y.amt ∧ y.amt ≤ 1000000000000000) ∧ PlFits y.pl := by
  induction cs with
  | nil => exact ⟨by simp [balsOf], fun y hy => by simp [balsOf] at hy⟩
  | cons x cs ih =>
    obtain ⟨h1, h2⟩ := ih (fun y hy => h y (by simp [hy]))
    obtain ⟨h3, h4⟩ := (h x (by simp)).bnd
    have h5 := (h x (by simp)).2.2.2
    have e : balsOf (x :: cs) = coreBals x ++ balsOf cs := rfl
    rw [e]
    refine ⟨by rw [List.length_append, List.length_cons]; omega, fun y hy => ?_⟩
    rcases List.mem_append.1 hy with hy | hy
    · exact ⟨h4 y hy, h5 y hy⟩
    · exact h2 y hy
theorem small_at {cs : List Core} (h : ∀ x, x ∈ cs → Small x) {i k : Nat} (hi : i < cs.length) : (balsAt cs i k).length ≤ 20 * cs.length ∧ ∀ y, y ∈ balsAt cs i k → (-1000000000000000 ≤ y.amt ∧ y.amt ≤ 1000000000000000) ∧ PlFits y.pl := by
  obtain ⟨h1, h2⟩ := small_of (cs := cs.take i) (fun x hx => h x (List.mem_of_mem_take hx))
  obtain ⟨h3, h4⟩ := (h _ (List.getElem_mem hi)).bnd
  have h5 := (h _ (List.getElem_mem hi)).2.2.2
  rw [balsAt_at hi]
  rw [List.length_take] at h1
  refine ⟨by rw [List.length_append, List.length_take]; omega, fun y hy => ?_⟩
  rcases List.mem_append.1 hy with hy | hy
  · exact h2 y hy
  · exact ⟨h4 y (List.mem_of_mem_take hy), h5 y (List.mem_of_mem_take hy)⟩
theorem bump_fits {S : List Bal} {x : Bal} (hl : S.length ≤ 2000) (h : ∀ y, y ∈ S → -1000000000000000 ≤ y.amt ∧ y.amt ≤ 1000000000000000) (hx : -1000000000000000 ≤ x.amt ∧ x.amt ≤ 1000000000000000) :
    -9223372036854775808 ≤ totB S x.pl + x.amt ∧ totB S x.pl + x.amt ≤ 9223372036854775807 := by
  have h2 := totB_bound (by omega) h x.pl
  have h3 : (S.length : Int) * 1000000000000000 ≤ 2000 * 1000000000000000 := Int.mul_le_mul_of_nonneg_right (by omega) (by omega)
  omega

theorem want_any (r : ByteArray) (en pe : Int) (v : Value) (g : Nat) (w : World) (hp : w.cell? ⟨g, 0, none⟩ = some (.int .i64 120)) (h : pe ≤ 120) :
    Calls Tryz.prog 97 #[.agg #[.string r, .int .i64 en, .int .i64 pe, v], .pointer (some ⟨g, 0, none⟩)] w fun e w' => e = .returned (.bool true) ∧ Below w.heap.size w w' := by
  have hg : g < w.heap.size := World.block_lt_of_cell? _ _ hp
  go_enter Tryz.func97, Tryz.ntmps97
  go_wp2_with fail
  go_ret
  exact ⟨by simp, (Below.refl _ _).alloc (Nat.le_refl _) _⟩

set_option maxHeartbeats 4000000 in
set_option maxRecDepth 100000 in
theorem some_any (es : List Ent) (A : Option Addr) (n cap g : Nat) (w : World) (hn : n ≤ 60) (ha : Rd w 4 Ent.enc A n es) (h1 : ∀ e, e ∈ es → Rd w 3 lineEnc e.A e.n e.lines) (h2 : ∀ e, e ∈ es → Small (Ent.core e)) (hp : w.cell? ⟨g, 0, none⟩ = some (.int .i64 120)) :
    Calls Tryz.prog 96 #[.slice A n cap, .func (.func 97) #[] #[.pointer (some ⟨g, 0, none⟩)]] w fun e w' =>
      ((200 < (canonB (balsOf (es.map Ent.core))).length ∧ e = .returned (.tuple #[.slice none 0 0, .iface 108 (.int .i64 4)])) ∨
        (¬ 200 < (canonB (balsOf (es.map Ent.core))).length ∧ ∃ v, e = .returned (.tuple #[v, .nilIface]) ∧ Own w' w.heap.size 73 4 balEnc v (netB (balsOf (es.map Ent.core))))) ∧ Below w.heap.size w w' := by
  have Hn := hide ha.1
  have hgw : g < w.heap.size := World.block_lt_of_cell? _ _ hp
  have hmm := @run_makeMap Tryz.prog
  have hnl : n ≤ 200 := by omega
  obtain ⟨cs, hcs⟩ : ∃ cs, cs = es.map Ent.core := ⟨_, rfl⟩
  have hcsl : cs.length = es.length := by rw [hcs, List.length_map]
  rw [← hcs]
  have HSM : Hid (∀ x, x ∈ cs → Small x) := fun x hx => by
    rw [hcs] at hx
    obtain ⟨e, he, rfl⟩ := List.mem_map.1 hx
    exact h2 e he
  have HCS := hide hcs
  clear hcs h2
  have hm0 := Sums.made w
  go_enter Tryz.func96, Tryz.ntmps96
  go_wp2_with fail
  go_loopw [18] (fun iv wr => ∃ (i nn : Nat), i ≤ n ∧ nn ≤ 20 * i ∧ iv = .int .i64 i ∧ Sums wr w.heap.size nn (balsOf (cs.take i)) ∧ Below w.heap.size w wr) (fun iv _ => n - (intOf iv).toNat)
  case atStart => exact ⟨0, 0, by omega, by omega, rfl, hm0, (Below.refl _ _).alloc (Nat.le_refl _) _⟩
  case round =>
    clear hm0
    obtain ⟨i, nn, hi, hnn, rfl, hS, hbr⟩ := hrel
    by_cases hlt : i < n
    · have hie : i < es.length := by have := Hn.out; omega
      have hic : i < cs.length := by omega
      obtain ⟨b, off, rfl, hecs⟩ := (Rd.below ha hbr).2 (by omega)
      have q0 := hecs i 0 _ hie rfl
      have q1 := hecs i 1 _ hie rfl
      have q2 := hecs i 2 _ hie rfl
      have q3 := hecs i 3 _ hie rfl
      rw [Nat.add_zero] at q0
      clear hecs
      have i0 : (0 : Int) ≤ (i : Int) := by omega
      have i1 : (i : Int) < (n : Int) := by omega
      have hx1 := h1 _ (List.getElem_mem hie)
      have hcore : cs[i] = Ent.core es[i] := by simp [HCS.out]
      have hsm := HSM.out _ (List.getElem_mem hic)
      have hper : es[i].per ≤ 120 := by rw [hcore] at hsm; exact hsm.1
      have hln : es[i].lines.length = es[i].n := hx1.1
      have hcl2 : (coreBals cs[i]).length = es[i].n := by rw [hcore]; show (es[i].lines.map _).length = _; rw [List.length_map, hln]
      have hn20 : es[i].n ≤ 20 := by rw [← hcl2]; exact hsm.bnd.1
      have HCL := hide hcl2
      have HCORE := hide hcore
      have HSI := hide hsm
      clear hcore hsm hcl2
      rw [← balsAt_0] at hS
      generalize es[i] = E at q0 q1 q2 q3 hx1 hper hln hn20 HCL HCORE
      generalize E.A = EA at q3 hx1
      have hB0 : Below wr.heap.size wr (wr.alloc (.cells #[.string E.ref, .int .i64 E.ent, .int .i64 E.per, .slice EA E.n E.cap] 25)) := (Below.refl _ _).alloc (Nat.le_refl _) _
      have x0 : (wr.alloc (.cells #[.string E.ref, .int .i64 E.ent, .int .i64 E.per, .slice EA E.n E.cap] 25)).cell? ⟨wr.heap.size, 0, none⟩ = some (.string E.ref) := by simp
      have x1 : (wr.alloc (.cells #[.string E.ref, .int .i64 E.ent, .int .i64 E.per, .slice EA E.n E.cap] 25)).cell? ⟨wr.heap.size, 1, none⟩ = some (.int .i64 E.ent) := by simp
      have x2 : (wr.alloc (.cells #[.string E.ref, .int .i64 E.ent, .int .i64 E.per, .slice EA E.n E.cap] 25)).cell? ⟨wr.heap.size, 2, none⟩ = some (.int .i64 E.per) := by simp
      have x3 : (wr.alloc (.cells #[.string E.ref, .int .i64 E.ent, .int .i64 E.per, .slice EA E.n E.cap] 25)).cell? ⟨wr.heap.size, 3, none⟩ = some (.slice EA E.n E.cap) := by simp
      have hSW := hS.kept (World.grownBy_alloc wr (.cells #[.string E.ref, .int .i64 E.ent, .int .i64 E.per, .slice EA E.n E.cap] 25) none) (by simp)
      have hxs : wr.heap.size < (wr.alloc (.cells #[.string E.ref, .int .i64 E.ent, .int .i64 E.per, .slice EA E.n E.cap] 25)).heap.size := by simp
      have hmw : w.heap.size < wr.heap.size := hS.lt
      go_wp2_with fail
      obtain ⟨wo, hwo⟩ : ∃ wo, wo = wr := ⟨_, rfl⟩
      rw [← hwo] at hB0 x0 x1 x2 x3 hSW hxs hmw hbr ⊢
      clear hwo q0 q1 q2 q3 hS
      generalize wo.alloc (.cells #[.string E.ref, .int .i64 E.ent, .int .i64 E.per, .slice EA E.n E.cap] 25) = W1 at hB0 x0 x1 x2 x3 hSW hxs ⊢
      go_loopw [25] (fun kv wi => ∃ (k nk : Nat), k ≤ E.n ∧ nk ≤ 20 * i + k ∧ kv = .int .i64 k ∧ Sums wi w.heap.size nk (balsAt cs i k) ∧ W1.grownBy wi (some w.heap.size)) (fun kv _ => E.n - (intOf kv).toNat)
      case atStart => exact ⟨0, nn, by omega, by omega, rfl, hSW, World.grownBy.refl _ _⟩
      case round =>
        clear hSW
        obtain ⟨k, nk, hk, hnk, rfl, hS, hgr⟩ := hrel
        have hb1r : Below w.heap.size w wr := (hbr.trans (hB0.mono hbr.size)).grown hgr (by have := hbr.size; omega) (fun k e => by injection e with e; omega)
        have z0 := hgr.cell x0 (by simp; omega)
        have z1 := hgr.cell x1 (by simp; omega)
        have z2 := hgr.cell x2 (by simp; omega)
        have z3 := hgr.cell x3 (by simp; omega)
        have hp1 := below_cell hb1r hgw hp
        have hsw := hgr.size
        by_cases hkn : k < E.n
        · have hkl : k < E.lines.length := by omega
          obtain ⟨lb, lo, rfl, hlcs⟩ := (hx1.below hb1r).2 (by omega)
          have y0 := hlcs k 0 _ hkl rfl
          have y1 := hlcs k 1 _ hkl rfl
          have y2 := hlcs k 2 _ hkl rfl
          rw [Nat.add_zero] at y0
          clear hlcs
          have k0 : (0 : Int) ≤ (k : Int) := by omega
          have k1 : (k : Int) < (E.n : Int) := by omega
          have HS := hide (balsAt_succ hic (show k < (coreBals cs[i]).length by have := HCL.out; omega))
          have HG : Hid ((coreBals cs[i])[k]'(by have := HCL.out; omega) = ⟨E.ent, E.lines[k].acc, E.lines[k].cur, E.lines[k].amt⟩) := by
            show _ = _
            have : coreBals cs[i] = E.lines.map fun y => ⟨E.ent, y.acc, y.cur, y.amt⟩ := by rw [HCORE.out]; rfl
            simp only [this, List.getElem_map]
          have hxm := List.getElem_mem (show k < (coreBals cs[i]).length by have := HCL.out; omega)
          have hxb := HSI.out.bnd.2 _ hxm
          have hxp := HSI.out.2.2.2 _ hxm
          rw [HG.out] at hxb hxp
          obtain ⟨hbn1, hbn2⟩ := small_at (k := k) HSM.out hic
          have hft := bump_fits (by have := Hn.out; omega) (fun y hy => (hbn2 y hy).1) hxb
          have ham : inB (-1000000000000000) 1000000000000000 E.lines[k].amt = true := by simp [inB]; exact hxb
          have HAM := hide ham
          obtain ⟨x, hx⟩ : ∃ x : Bal, x = ⟨E.ent, E.lines[k].acc, E.lines[k].cur, E.lines[k].amt⟩ := ⟨_, rfl⟩
          rw [← hx] at hxp hft
          have HX := hide hx
          clear hx hxb hbn2 ham hxm
          have v0 : (wr.alloc (.cells #[.string E.lines[k].acc, .string E.lines[k].cur, .int .i64 E.lines[k].amt] 35)).cell? ⟨wr.heap.size, 0, none⟩ = some (.string E.lines[k].acc) := by simp
          have v1 : (wr.alloc (.cells #[.string E.lines[k].acc, .string E.lines[k].cur, .int .i64 E.lines[k].amt] 35)).cell? ⟨wr.heap.size, 1, none⟩ = some (.string E.lines[k].cur) := by simp
          have v2 : (wr.alloc (.cells #[.string E.lines[k].acc, .string E.lines[k].cur, .int .i64 E.lines[k].amt] 35)).cell? ⟨wr.heap.size, 2, none⟩ = some (.int .i64 E.lines[k].amt) := by simp
          have hBx : Below wr.heap.size wr (wr.alloc (.cells #[.string E.lines[k].acc, .string E.lines[k].cur, .int .i64 E.lines[k].amt] 35)) := (Below.refl _ _).alloc (Nat.le_refl _) _
          have hvs : wr.heap.size < (wr.alloc (.cells #[.string E.lines[k].acc, .string E.lines[k].cur, .int .i64 E.lines[k].amt] 35)).heap.size := by simp
          have hwo1 : wo.heap.size < wr.heap.size := by omega
          have a0 := below_cell hBx hwo1 z0
          have a1 := below_cell hBx hwo1 z1
          have a2 := below_cell hBx hwo1 z2
          have a3 := below_cell hBx hwo1 z3
          have hp2 := below_cell hBx (by omega) hp1
          have hS2 := hS.below hBx
          go_wp2_with fail
          generalize wr.alloc (.cells #[.string E.lines[k].acc, .string E.lines[k].cur, .int .i64 E.lines[k].amt] 35) = W2 at v0 v1 v2 hBx hvs a0 a1 a2 a3 hp2 hS2 ⊢
          refine (amount_any _ _).mono ?_
          rintro e w3 ⟨rfl, rfl⟩
          rw [HAM.out]
          go_wp2_with fail
          refine (want_any _ _ _ _ g _ hp2 hper).mono ?_
          rintro e w4 ⟨rfl, hb4⟩
          have c1 := below_cell hb4 (by omega) a1
          have u0 := below_cell hb4 hvs v0
          have u1 := below_cell hb4 hvs v1
          have u2 := below_cell hb4 hvs v2
          have hS4 := (hS2.below hb4).kept (row := none) (grown_drew w4 none) (by simp)
          have hb4r : Below wr.heap.size wr w4 := hBx.trans (hb4.mono hBx.size)
          have hg4 : W1.grownBy w4.drew (some w.heap.size) := (hgr.trans (World.grownBy.but ⟨hb4r.os, hb4r.tape, hb4r.output, hb4r.size, fun i hi _ => hb4r.block i hi⟩ _)).trans (grown_drew _ _)
          have hLk := hS4.lookup x.pl hxp
          obtain ⟨cn, hcn⟩ : ∃ cn, cn = totB (balsAt cs i k) x.pl + x.amt := ⟨_, rfl⟩
          obtain ⟨v9, st, WE, WF, hE, hL2, hST, hS5, hg5⟩ := hS4.bump (by unfold maxLen; omega) x hxp hcn (by simp [Lit.wf, IntKind.min, IntKind.max, IntKind.signed, IntKind.bits]; omega)
          have hwr : IntKind.i64.wrap (totB (balsAt cs i k) x.pl + x.amt) = cn := by rw [← hcn]; exact IntWalk.i64_in _ (by omega)
          generalize totB (balsAt cs i k) x.pl = tn at hLk hL2 hwr
          have HEQ : Hid ((balsAt cs i k ++ [x]) = balsAt cs i (k + 1)) := by show _ = _; rw [HS.out, HG.out, HX.out]
          rw [HEQ.out] at hS5
          have hxpl : plKey x.pl = .agg #[.int .i64 E.ent, .string E.lines[k].acc, .string E.lines[k].cur] := by rw [HX.out]; rfl
          rw [hxpl] at hLk hL2 hE
          have hxa : x.amt = E.lines[k].amt := by rw [HX.out]
          rw [hxa] at hwr
          have HCN := hide hcn
          clear hcn hft hxpl hxa z0 z1 z2 z3 a0 a1 a2 a3 v0 v1 v2 hS hS2 hS4 y0 y1 y2
          go_wp2_with fail
          go_region
          go_wp2_with fail
          go_roundw
          case rel => exact ⟨k + 1, nk + 1, by omega, by omega, by go_num, hS5, hg4.trans hg5⟩
          case measure => simp [intOf]; omega
        · have HF := hide (balsAt_end (cs := cs) (i := i) (k := k) hic (by have := HCL.out; omega))
          rw [HF.out] at hS
          go_wp2_with fail
          go_roundw
          case rel => exact ⟨i + 1, nk, by omega, by omega, by go_num, hS, hb1r⟩
          case measure => simp [intOf]; omega
    · have hil : cs.take i = cs := by rw [List.take_of_length_le]; have := Hn.out; omega
      rw [hil] at hS
      have hbd := small_of HSM.out
      have hcl := canonB_len (balsOf cs)
      go_wp2_with fail
      refine (list_any (balsOf cs) _ _ wr hS (fun x hx => (hbd.2 x hx).2) (by have := Hn.out; omega)).mono ?_
      rintro e w5 ⟨⟨h200, rfl⟩ | ⟨h200, v5, rfl, hown5⟩, hb5⟩
      · have H200 := hide h200
        clear h200
        go_wp2_with fail
        go_ret2
        exact ⟨.inl ⟨H200.out, rfl⟩, bthen hbr (Nat.le_refl _) hb5⟩
      · have H200 := hide h200
        clear h200
        go_wp2_with fail
        go_ret2
        exact ⟨.inr ⟨H200.out, _, rfl, Own.wider hown5 hbr.size⟩, bthen hbr (Nat.le_refl _) hb5⟩

set_option maxRecDepth 100000 in
theorem balances_any (es : List Ent) (A : Option Addr) (n cap : Nat) (w : World) (hn : n ≤ 60) (ha : Rd w 4 Ent.enc A n es) (h1 : ∀ e, e ∈ es → Rd w 3 lineEnc e.A e.n e.lines) (h2 : ∀ e, e ∈ es → Small (Ent.core e)) :
    Calls Tryz.prog 39 #[.slice A n cap, .int .i64 120] w fun e w' =>
      ((200 < (canonB (balsOf (es.map Ent.core))).length ∧ e = .returned (.tuple #[.slice none 0 0, .iface 108 (.int .i64 4)])) ∨
        (¬ 200 < (canonB (balsOf (es.map Ent.core))).length ∧ ∃ v, e = .returned (.tuple #[v, .nilIface]) ∧ Own w' w.heap.size 73 4 balEnc v (netB (balsOf (es.map Ent.core))))) ∧ Below w.heap.size w w' := by
  have hb0 : Below w.heap.size w (w.alloc (.cells #[.int .i64 120] 3)) := (Below.refl _ _).alloc (Nat.le_refl _) _
  have hc0 : (w.alloc (.cells #[.int .i64 120] 3)).cell? ⟨w.heap.size, 0, none⟩ = some (.int .i64 120) := by simp
  go_enter Tryz.func39, Tryz.ntmps39
  go_wp2_with fail
  refine (some_any es _ _ _ _ _ hn (ha.below hb0) (fun e he => (h1 e he).below hb0) h2 hc0).mono ?_
  rintro e w5 ⟨⟨h200, rfl⟩ | ⟨h200, v5, rfl, hown5⟩, hb5⟩
  · have H200 := hide h200
    clear h200
    go_wp2_with fail
    go_ret2
    exact ⟨.inl ⟨H200.out, rfl⟩, bthen hb0 (Nat.le_refl _) hb5⟩
  · have H200 := hide h200
    clear h200
    go_wp2_with fail
    go_ret2
    exact ⟨.inr ⟨H200.out, _, rfl, Own.wider hown5 (by simp)⟩, bthen hb0 (Nat.le_refl _) hb5⟩
end Go.Proofs.YthmjkhlndphldaaGreatDoor
