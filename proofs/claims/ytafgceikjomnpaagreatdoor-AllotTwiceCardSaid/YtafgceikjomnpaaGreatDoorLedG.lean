/- ledger.Merge: what it returns. -/
import Derived.Test.YtafgceikjomnpaaGreatDoorLedX
import Derived.Test.YtafgceikjomnpaaGreatDoorLedY
import Derived.Test.YtafgceikjomnpaaGreatDoorLedH
import Derived.BigRegion
namespace Go.Proofs.YtafgceikjomnpaaGreatDoor
open Go Go.RowKit Go.Maps
set_option linter.unusedVariables false

theorem cells_two (w : World) (u v : Value) (t : TypeId) : (w.alloc (.cells #[u, v] t)).cell? ⟨w.heap.size, 0, none⟩ = some u ∧ (w.alloc (.cells #[u, v] t)).cell? ⟨w.heap.size, 1, none⟩ = some v := by
  constructor <;> simp
theorem Rd.grownR {α : Type} {w w' : World} {sz n : Nat} {enc : α → List Value} {A : Option Addr} {l : List α} {row : Option Nat} (h : Rd w sz enc A n l) (hg : w.grownBy w' row) (hne : ∀ b off, A = some ⟨b, off, none⟩ → row ≠ some b) : Rd w' sz enc A n l := by
  refine ⟨h.1, fun hn => ?_⟩
  obtain ⟨b, off, e, hc⟩ := h.2 hn
  exact ⟨b, off, e, fun k j u hk hu => hg.cell (hc k j u hk hu) (fun e2 => hne b off e e2.symm)⟩
theorem grown_drew (w : World) (row : Option Nat) : w.grownBy w.drew row := ⟨rfl, rfl, rfl, Nat.le_refl _, fun i hi _ => rfl⟩
theorem canonB_len (l : List Bal) : (canonB l).length ≤ l.length := by
  have h := mergeTo_len [] l l.length
  unfold mergeTo at h
  rw [List.take_length] at h
  simpa [canonB] using h
theorem any_all (l : List Bal) : l.all (fun x => mayB x.amt) = !(l.any fun x => !mayB x.amt) := by
  induction l with
  | nil => rfl
  | cons x l ih => rw [List.all_cons, List.any_cons, ih]; cases mayB x.amt <;> simp
set_option maxHeartbeats 4000000 in
set_option maxRecDepth 100000 in
theorem merge_any (a b : List Bal) (A BA : Option Addr) (an ac bn bc : Nat) (w : World) (hl : an ≤ 9223372036854775807) (ha : Rd w 4 balEnc A an a) (hbl : bn ≤ 9223372036854775807) (hb : Rd w 4 balEnc BA bn b) (hA : A = none → ac = 0) (hB : BA = none → bc = 0)
    (haf : BalsOk a) (hbf : BalsOk b) :
    Calls Tryz.prog 7 #[.slice A an ac, .slice BA bn bc] w fun e w' =>
      ∃ v, e = .returned (.tuple #[v, errV (mergeE a b)]) ∧ Own w' w.heap.size 36 4 balEnc v (if mergeE a b = 0 then netB (a ++ b) else []) ∧ Below w.heap.size w w' := by
  obtain ⟨i0, hi0, hz0, hz1, hz2⟩ := info_parts bal_info
  have Hna := hide ha.1
  have Hnb := hide hb.1
  obtain ⟨ev, hev⟩ : ∃ ev, ev = errV (mergeE a b) := ⟨_, rfl⟩
  rw [← hev]
  generalize hLL : (if mergeE a b = 0 then netB (a ++ b) else []) = LL
  have HEV := hide hev
  have HLL := hide hLL
  clear hev hLL
  have hmm := @run_makeMap Tryz.prog
  by_cases h1 : balsE a = 0
  · by_cases h2 : balsE b = 0
    · have H1 := hide h1
      have H2 := hide h2
      have hna : an ≤ 200 := by have := (balsE_0 h1).1; have := Hna.out; omega
      have hnb : bn ≤ 200 := by have := (balsE_0 h2).1; have := Hnb.out; omega
      clear h1 h2
      go_enter Tryz.func7, Tryz.ntmps7
      go_wp2_with fail
      refine (lcheck_any a _ _ _ _ hl ha).mono ?_
      rintro e w1 ⟨rfl, hb1⟩
      rw [errV_0 H1.out]
      go_wp2_with fail
      refine (lcheck_any b _ _ _ _ hbl (hb.below hb1)).mono ?_
      rintro e w2 ⟨rfl, hb2⟩
      rw [errV_0 H2.out]
      have hb2 := bthen hb1 (Nat.le_refl _) hb2
      have ha2 := ha.below hb2
      have hbb2 := hb.below hb2
      have hm2 := Sums.made w2
      go_wp2_with fail
      have g0 : ((w2.alloc (.map #[] 0)).alloc (.cells #[.slice A an ac, .slice BA bn bc] 24)).cell? ⟨w2.heap.size + 1, 0, none⟩ = some (.slice A an ac) := by
        have := (cells_two (w2.alloc (.map #[] 0)) (.slice A an ac) (.slice BA bn bc) 24).1
        rwa [show (w2.alloc (.map #[] 0)).heap.size = w2.heap.size + 1 by simp] at this
      have g1 : ((w2.alloc (.map #[] 0)).alloc (.cells #[.slice A an ac, .slice BA bn bc] 24)).cell? ⟨w2.heap.size + 1, 1, none⟩ = some (.slice BA bn bc) := by
        have := (cells_two (w2.alloc (.map #[] 0)) (.slice A an ac) (.slice BA bn bc) 24).2
        rwa [show (w2.alloc (.map #[] 0)).heap.size = w2.heap.size + 1 by simp] at this
      have hbl3 : Below w2.heap.size w2 ((w2.alloc (.map #[] 0)).alloc (.cells #[.slice A an ac, .slice BA bn bc] 24)) := ((Below.refl _ _).alloc (Nat.le_refl _) _).alloc (by simp) _
      have hm3 : Sums ((w2.alloc (.map #[] 0)).alloc (.cells #[.slice A an ac, .slice BA bn bc] 24)) w2.heap.size 0 [] := hm2.kept (World.grownBy_alloc _ _ none) (by simp)
      have hs3 : ((w2.alloc (.map #[] 0)).alloc (.cells #[.slice A an ac, .slice BA bn bc] 24)).heap.size = w2.heap.size + 2 := by simp
      generalize (w2.alloc (.map #[] 0)).alloc (.cells #[.slice A an ac, .slice BA bn bc] 24) = w3 at g0 g1 hbl3 hm3 hs3 ⊢
      refine (concat_any a b _ an ac bn bc A BA w3 g0 g1 (by omega) (by omega) (ha2.below hbl3) (hbb2.below hbl3) hA hB).mono ?_
      rintro e w4 ⟨v4, rfl, hown4, hb4⟩
      have hm4 := hm3.below hb4
      have hb4 := bthen hbl3 (Nat.le_refl _) hb4
      have hs4 := hb4.size
      have hb24 := bthen hb2 (Nat.le_refl _) hb4
      obtain ⟨VA, vc, rfl, hvc, hvm⟩ := hown4.form
      have hrd4 := hown4.rd balEnc_ok
      have hvb : ∀ g off, VA = some ⟨g, off, none⟩ → w3.heap.size ≤ g := fun g off e => by subst e; exact (hown4.block g rfl).1
      have hab : (a ++ b).length ≤ 400 := by rw [List.length_append, Hna.out, Hnb.out]; omega
      have hok : BalsOk (a ++ b) := fun x hx => by
        rcases List.mem_append.1 hx with h | h
        · exact haf x h
        · exact hbf x h
      have hfit := fun (k : Nat) (hk : k < (a ++ b).length) => sums_fit H1.out H2.out hk
      clear hown4 hm2 g0 g1 hm3
      have HAB : Hid ((a ++ b) = (a ++ b)) := rfl
      generalize hc : a ++ b = c at hvc hrd4 hab hok hfit ⊢
      have HC := hide hc
      clear hc
      go_wp2_with fail
      go_loopw [29] (fun iv wr => ∃ k : Nat, k ≤ c.length ∧ iv = .int .i64 k ∧ Sums wr w2.heap.size k (c.take k) ∧ w4.grownBy wr (some w2.heap.size)) (fun iv _ => c.length - (intOf iv).toNat)
      case atStart => exact ⟨0, by omega, rfl, by simpa using hm4, World.grownBy.refl _ _⟩
      case round =>
        clear hm4
        obtain ⟨k, hk, rfl, hS, hgr⟩ := hrel
        have hrdr : Rd wr 4 balEnc VA c.length c := hrd4.grownR hgr (fun b off e => by intro e2; injection e2 with e2; have := (hvb b off e); omega)
        have hsr := hgr.size
        by_cases hlt : k < c.length
        · obtain ⟨bb, off, rfl, hcs⟩ := hrdr.2 (by omega)
          have q0 := hcs k 0 _ hlt rfl
          have q1 := hcs k 1 _ hlt rfl
          have q2 := hcs k 2 _ hlt rfl
          have q3 := hcs k 3 _ hlt rfl
          rw [Nat.add_zero] at q0
          clear hcs
          have k0 : (0 : Int) ≤ (k : Int) := by omega
          have k1 : (k : Int) < (c.length : Int) := by omega
          have HT := hide (List.take_succ_eq_append_getElem hlt)
          have hxf : PlFits c[k].pl := (hok _ (List.getElem_mem hlt)).pl
          have hxs := hfit k hlt
          have hmw : w2.heap.size < wr.heap.size := hS.lt
          generalize c[k] = x at q0 q1 q2 q3 HT hxf hxs
          have x0 : (wr.alloc (.cells #[.int .i64 x.ent, .string x.acc, .string x.cur, .int .i64 x.amt] 36)).cell? ⟨wr.heap.size, 0, none⟩ = some (.int .i64 x.ent) := by simp
          have x1 : (wr.alloc (.cells #[.int .i64 x.ent, .string x.acc, .string x.cur, .int .i64 x.amt] 36)).cell? ⟨wr.heap.size, 1, none⟩ = some (.string x.acc) := by simp
          have x2 : (wr.alloc (.cells #[.int .i64 x.ent, .string x.acc, .string x.cur, .int .i64 x.amt] 36)).cell? ⟨wr.heap.size, 2, none⟩ = some (.string x.cur) := by simp
          have x3 : (wr.alloc (.cells #[.int .i64 x.ent, .string x.acc, .string x.cur, .int .i64 x.amt] 36)).cell? ⟨wr.heap.size, 3, none⟩ = some (.int .i64 x.amt) := by simp
          have hS1 : Sums (wr.alloc (.cells #[.int .i64 x.ent, .string x.acc, .string x.cur, .int .i64 x.amt] 36)).drew w2.heap.size k (c.take k) := hS.kept (row := none) ((World.grownBy_alloc _ _ none).trans (grown_drew _ _)) (by simp)
          have hg1 : w4.grownBy (wr.alloc (.cells #[.int .i64 x.ent, .string x.acc, .string x.cur, .int .i64 x.amt] 36)).drew (some w2.heap.size) := (hgr.trans ((World.grownBy_alloc _ _ none).but _)).trans (grown_drew _ _)
          go_wp2_with fail
          generalize wr.alloc (.cells #[.int .i64 x.ent, .string x.acc, .string x.cur, .int .i64 x.amt] 36) = W1 at x0 x1 x2 x3 hS1 hg1 ⊢
          have hLk := hS1.lookup x.pl hxf
          obtain ⟨cn, hcn⟩ : ∃ cn, cn = totB (c.take k) x.pl + x.amt := ⟨_, rfl⟩
          obtain ⟨v0, st, WE, WF, hE, hL2, hST, hS2, hg2⟩ := hS1.bump (by unfold maxLen; omega) x hxf hcn (by simp [Lit.wf, IntKind.min, IntKind.max, IntKind.signed, IntKind.bits]; omega)
          have hwr : IntKind.i64.wrap (totB (c.take k) x.pl + x.amt) = cn := by rw [← hcn]; exact IntWalk.i64_in _ (by omega)
          generalize totB (c.take k) x.pl = tn at hLk hL2 hwr
          change (Instr.lookup _ _ (.agg #[.int .i64 x.ent, .string x.acc, .string x.cur]) false).run _ _ = _ at hLk
          change (Instr.lookup _ _ (.agg #[.int .i64 x.ent, .string x.acc, .string x.cur]) false).run _ _ = _ at hL2
          change (Instr.mapEntry _ _ (.agg #[.int .i64 x.ent, .string x.acc, .string x.cur])).run _ _ = _ at hE
          have HCN := hide hcn
          clear hcn hfit hok hvc hrd4
          go_region
          go_wp2_with fail
          go_roundw
          case rel => exact ⟨k + 1, by omega, by go_num, by rw [HT.out]; exact hS2, hg1.trans hg2⟩
          case measure => simp [intOf]; omega
        · have hkc : k = c.length := by omega
          subst hkc
          rw [List.take_length] at hS
          have hb4r : Below w2.heap.size w2 wr := hb4.grown hgr hb4.size (fun k e => by injection e with e; omega)
          have hbr : Below w.heap.size w wr := hb2.trans (hb4r.mono hb2.size)
          have hcl := canonB_len c
          clear hrdr hrd4 hfit
          go_wp2_with fail
          refine (list_any c _ _ wr hS (fun x hx => (hok x hx).pl) (by omega)).mono ?_
          rintro e w5 ⟨⟨h200, rfl⟩ | ⟨h200, v5, rfl, hown5⟩, hb5⟩
          · have hb5 := bthen hbr (Nat.le_refl _) hb5
            have HE := hide (mergeE_3 H1.out H2.out (by rw [HC.out]; exact h200))
            clear h200
            go_wp2_with fail
            go_ret2
            exact ⟨_, by rw [HEV.out, HE.out]; rfl, by rw [← HLL.out, if_neg (by rw [HE.out]; decide)]; exact Own.nil _ _ _ _ _, hb5⟩
          · have hb5 := bthen hbr (Nat.le_refl _) hb5
            have H200 := hide h200
            have hown5 := Own.wider hown5 hbr.size
            have hnl : (netB c).length ≤ 9223372036854775807 := by have := fullB_len (canonB c); unfold netB; omega
            obtain ⟨UA, uc, rfl, huc, hum⟩ := hown5.form
            have hrd5 := hown5.rd balEnc_ok
            have HAL := hide (any_all (netB c))
            clear h200
            have eg : ∀ args w, (callFunc 20 args).run Tryz.prog w = .ok (.enter 20 args) w := enters_of Tryz.func20 (by kernel_rfl) rfl
            have hask := hide asks_over
            generalize hNB : netB c = nb at hown5 hnl huc hrd5 HAL ⊢
            have HNB := hide hNB
            clear hNB
            go_wp2_with fail
            refine (containsFunc_bal nb _ _ hask eg _ _ _ _ hnl hrd5).mono ?_
            rintro e w6 ⟨rfl, hb6⟩
            have hown6 := hown5.below hb6
            have hb6 := bthen hb5 (Nat.le_refl _) hb6
            cases han : nb.any (fun x => !mayB x.amt) with
            | true =>
              have HE := hide (mergeE_4 H1.out H2.out (by rw [HC.out]; exact H200.out) (by rw [HC.out, HNB.out, HAL.out, han]; rfl))
              clear han
              go_wp2_with fail
              go_ret2
              exact ⟨_, by rw [HEV.out, HE.out]; rfl, by rw [← HLL.out, if_neg (by rw [HE.out]; decide)]; exact Own.nil _ _ _ _ _, hb6⟩
            | false =>
              have HE := hide (mergeE_5 H1.out H2.out (by rw [HC.out]; exact H200.out) (by rw [HC.out, HNB.out, HAL.out, han]; rfl))
              clear han
              go_wp2_with fail
              go_ret2
              exact ⟨_, by rw [HEV.out, HE.out]; rfl, by rw [← HLL.out, if_pos HE.out, HC.out, HNB.out]; exact hown6, hb6⟩
    · have H1 := hide h1
      have HE := hide (mergeE_2 h1 h2)
      have HN := hide h2
      clear h1 h2
      go_enter Tryz.func7, Tryz.ntmps7
      go_wp2_with fail
      refine (lcheck_any a _ _ _ _ hl ha).mono ?_
      rintro e w1 ⟨rfl, hb1⟩
      rw [errV_0 H1.out]
      go_wp2_with fail
      refine (lcheck_any b _ _ _ _ hbl (hb.below hb1)).mono ?_
      rintro e w2 ⟨rfl, hb2⟩
      rw [errV_n HN.out]
      have hb2 := bthen hb1 (Nat.le_refl _) hb2
      go_wp2_with fail
      go_ret2
      exact ⟨_, by rw [HEV.out, HE.out, errV_n HN.out]; rfl, by rw [← HLL.out, if_neg (by rw [HE.out]; exact HN.out)]; exact Own.nil _ _ _ _ _, hb2⟩
  · have HE := hide (mergeE_1 (b := b) h1)
    have HN := hide h1
    clear h1
    go_enter Tryz.func7, Tryz.ntmps7
    go_wp2_with fail
    refine (lcheck_any a _ _ _ _ hl ha).mono ?_
    rintro e w1 ⟨rfl, hb1⟩
    rw [errV_n HN.out]
    go_wp2_with fail
    go_ret2
    exact ⟨_, by rw [HEV.out, HE.out, errV_n HN.out]; rfl, by rw [← HLL.out, if_neg (by rw [HE.out]; exact HN.out)]; exact Own.nil _ _ _ _ _, hb1⟩
end Go.Proofs.YtafgceikjomnpaaGreatDoor
