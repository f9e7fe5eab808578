/- accrue.Entries: what it returns. -/
import Derived.Test.YtfkhcdcmcplfoaaGreatDoorAcrX
import Derived.Test.YtfkhcdcmcplfoaaGreatDoorAcrE
import Derived.Deep.RegionHeld3
namespace Go.Proofs.YtfkhcdcmcplfoaaGreatDoor
open Go Go.RowKit
set_option linter.unusedVariables false

def atEA (ent per : Int) : Int := if inB 1 12 ent = true ∧ inB 1 120 per = true then 0 else 1
theorem atA_any (ent per : Int) (w : World) : Calls Tryz.prog 23 #[.int .i64 ent, .int .i64 per] w fun e w' => e = .returned (errV (atEA ent per)) ∧ w = w' := by
  by_cases h1 : ent < 1
  · have hf : atEA ent per = 1 := if_neg (by simp [inB]; omega)
    rw [hf]; clear hf
    go_enter Tryz.func23, Tryz.ntmps23
    go_wp2_with fail
    go_ret
    exact ⟨rfl, rfl⟩
  · by_cases h2 : 12 < ent
    · have hf : atEA ent per = 1 := if_neg (by simp [inB]; omega)
      rw [hf]; clear hf
      have h1' : 1 ≤ ent := by omega
      clear h1
      go_enter Tryz.func23, Tryz.ntmps23
      go_wp2_with fail
      go_ret
      exact ⟨rfl, rfl⟩
    · have h1' : 1 ≤ ent := by omega
      have h2' : ent ≤ 12 := by omega
      have hi : inB 1 12 ent = true := inB_iff.2 ⟨h1', h2'⟩
      cases h3 : inB 1 120 per with
      | true =>
        have hf : atEA ent per = 0 := if_pos ⟨hi, h3⟩
        rw [hf]; clear hf hi h1 h2
        have H3 := hide h3
        clear h3
        go_enter Tryz.func23, Tryz.ntmps23
        go_wp2_with fail
        refine (period_any _ _).mono ?_
        rintro e w1 ⟨rfl, rfl⟩
        rw [H3.out]
        go_wp2_with fail
        go_ret
        exact ⟨rfl, rfl⟩
      | false =>
        have hf : atEA ent per = 1 := if_neg (by rw [h3]; simp)
        rw [hf]; clear hf hi h1 h2
        have H3 := hide h3
        clear h3
        go_enter Tryz.func23, Tryz.ntmps23
        go_wp2_with fail
        refine (period_any _ _).mono ?_
        rintro e w1 ⟨rfl, rfl⟩
        rw [H3.out]
        go_wp2_with fail
        go_ret
        exact ⟨rfl, rfl⟩

/-- the entries of the plans of an entity that have a part in the period -/
def acoreOf (ent per : Int) (dg : ByteArray) (x : Pln) : List Core := if x.ent ≠ ent then [] else if partOf x per = 0 then [] else [(x.ref ++ ⟨#[45]⟩ ++ dg, ent, per, [⟨x.fr, x.cur, partOf x per⟩, ⟨x.to, x.cur, -(partOf x per)⟩])]
def acoresTo (l : List Pln) (ent per : Int) (dg : ByteArray) (k : Nat) : List Core := (l.take k).flatMap (acoreOf ent per dg)
section
variable {l : List Pln} {ent per : Int} {dg : ByteArray} {k : Nat}
theorem acoresTo_succ (hk : k < l.length) : acoresTo l ent per dg (k + 1) = acoresTo l ent per dg k ++ acoreOf ent per dg l[k] := by
  unfold acoresTo
  rw [List.take_succ_eq_append_getElem hk, List.flatMap_append]
  simp
theorem acores_ent (hk : k < l.length) (h : l[k].ent ≠ ent) : acoresTo l ent per dg (k + 1) = acoresTo l ent per dg k := by
  rw [acoresTo_succ hk, acoreOf, if_pos h, List.append_nil]
theorem acores_no (hk : k < l.length) (h : l[k].ent = ent) (h2 : partOf l[k] per = 0) : acoresTo l ent per dg (k + 1) = acoresTo l ent per dg k := by
  rw [acoresTo_succ hk, acoreOf, if_neg (by simpa using h), if_pos h2, List.append_nil]
theorem acores_yes (hk : k < l.length) (h : l[k].ent = ent) (h2 : partOf l[k] per ≠ 0) : acoresTo l ent per dg (k + 1) = acoresTo l ent per dg k ++ [(l[k].ref ++ ⟨#[45]⟩ ++ dg, ent, per, [⟨l[k].fr, l[k].cur, partOf l[k] per⟩, ⟨l[k].to, l[k].cur, -(partOf l[k] per)⟩])] := by
  rw [acoresTo_succ hk, acoreOf, if_neg (by simpa using h), if_neg h2]
theorem acoreOf_len (x : Pln) : (acoreOf ent per dg x).length ≤ 1 := by
  unfold acoreOf
  split
  · simp
  · split <;> simp
theorem acoresTo_len (hk : k ≤ l.length) : (acoresTo l ent per dg k).length ≤ k := by
  induction k with
  | zero => simp [acoresTo]
  | succ k ih =>
    rw [acoresTo_succ (by omega), List.length_append]
    have := ih (by omega)
    have := acoreOf_len (ent := ent) (per := per) (dg := dg) l[k]
    omega
theorem acoreOf_two {x : Pln} (hx : numE x = 0) : ∀ y, y ∈ acoreOf ent per dg x → TwoLine y := by
  intro y hy
  unfold acoreOf at hy
  split at hy
  · cases hy
  · split at hy
    · cases hy
    · obtain rfl := List.mem_singleton.1 hy
      have := partOf_small (period := per) hx
      exact ⟨x.fr, x.to, x.cur, -(partOf x per), by rw [Int.neg_neg], by omega, by omega⟩
theorem acoresTo_two (hl : ∀ x, x ∈ l → numE x = 0) : ∀ y, y ∈ acoresTo l ent per dg k → TwoLine y := by
  intro y hy
  obtain ⟨x, hx, hy⟩ := List.mem_flatMap.1 hy
  exact acoreOf_two (hl x (List.mem_of_mem_take hx)) y hy
end
theorem cores_lenA {es : List Ent} {l : List Core} (h : es.map Ent.core = l) : es.length = l.length := by rw [← h, List.length_map]

/-- an entry is ready to be taken up: its lines lie in one block, it lies in another -/
structure Rdy (w W : World) (B g : Nat) (x : Pln) (ov : Value) (es : List Ent) (E : Ent) (eb : Nat) : Prop where
  pk : Pack W B ov es
  rE : Rd W 4 Ent.enc (some ⟨eb, 0, none⟩) 1 [E]
  rL : Rd W 3 lineEnc E.A E.n E.lines ∧ E.n ≤ 20
  pa : PlnAt W g x
  bl : Below B w W
  gv : ov.ownBlock ≠ some g
  lb : ∃ b off, E.A = some ⟨b, off, none⟩ ∧ b < W.heap.size ∧ ov.ownBlock ≠ some b
theorem Rdy.make {w W0 W1 : World} {B g : Nat} {x : Pln} {ov : Value} {es : List Ent} (n : Int) (ref : ByteArray) (ent per : Int) (hB : Below B w W0) (hBs : B ≤ w.heap.size) (hpk : Pack W0 B ov es) (hpa : PlnAt W0 g x) (hgv : ov.ownBlock ≠ some g)
    (h1 : Below (W0.alloc (.cells #[.string x.fr, .string x.cur, .int .i64 n, .string x.to, .string x.cur, .int .i64 (-n)] 56)).heap.size (W0.alloc (.cells #[.string x.fr, .string x.cur, .int .i64 n, .string x.to, .string x.cur, .int .i64 (-n)] 56)) W1) :
    Rdy w (W1.alloc (.cells #[.string ref, .int .i64 ent, .int .i64 per, .slice (some ⟨W0.heap.size, 0, none⟩) 2 2] 54)) B g x ov es ⟨ref, ent, per, some ⟨W0.heap.size, 0, none⟩, 2, 2, [⟨x.fr, x.cur, n⟩, ⟨x.to, x.cur, -n⟩]⟩ W1.heap.size := by
  have hA : Below W0.heap.size W0 (W0.alloc (.cells #[.string x.fr, .string x.cur, .int .i64 n, .string x.to, .string x.cur, .int .i64 (-n)] 56)) := (Below.refl _ _).alloc (Nat.le_refl _) _
  have hs : (W0.alloc (.cells #[.string x.fr, .string x.cur, .int .i64 n, .string x.to, .string x.cur, .int .i64 (-n)] 56)).heap.size = W0.heap.size + 1 := by simp
  have h2 : Below W1.heap.size W1 (W1.alloc (.cells #[.string ref, .int .i64 ent, .int .i64 per, .slice (some ⟨W0.heap.size, 0, none⟩) 2 2] 54)) := (Below.refl _ _).alloc (Nat.le_refl _) _
  have hR : Rd (W0.alloc (.cells #[.string x.fr, .string x.cur, .int .i64 n, .string x.to, .string x.cur, .int .i64 (-n)] 56)) 3 lineEnc (some ⟨W0.heap.size, 0, none⟩) 2 [⟨x.fr, x.cur, n⟩, ⟨x.to, x.cur, -n⟩] := Rd.lit W0 lineEnc_ok [⟨x.fr, x.cur, n⟩, ⟨x.to, x.cur, -n⟩] 2 rfl _ _ rfl
  have h3 := h1.size
  have h4 := h2.size
  refine ⟨((hpk.below hA).below h1).below h2, Rd.boxed W1 entEnc_okA ⟨ref, ent, per, some ⟨W0.heap.size, 0, none⟩, 2, 2, [⟨x.fr, x.cur, n⟩, ⟨x.to, x.cur, -n⟩]⟩ _ _ rfl, ⟨(hR.below h1).below h2, by show 2 ≤ 20; omega⟩, ((hpa.below hA).below h1).below h2, ?_, hgv, W0.heap.size, 0, rfl, by omega, fun e => ?_⟩
  · exact ((hB.trans (hA.mono (Nat.le_trans hBs hB.size))).trans (h1.mono (by have := hB.size; omega))).trans (h2.mono (by have := hB.size; omega))
  · have := (hpk.own.block _ e).2
    omega
theorem Rdy.done {w W w7 : World} {B g : Nat} {x : Pln} {ov v' : Value} {es : List Ent} {E : Ent} {eb : Nat} (h : Rdy w W B g x ov es E eb) (hBs : B ≤ w.heap.size)
    (hown : Own w7 B 54 4 Ent.enc v' (es ++ [E])) (hg : W.grownBy w7 ov.ownBlock) (hat : v'.ownBlock = ov.ownBlock ∨ v'.ownBlock = some W.heap.size) :
    Pack w7 B v' (es ++ [E]) ∧ Below B w w7 ∧ PlnAt w7 g x := by
  obtain ⟨b, off, h1, h2, h3⟩ := h.lb
  exact ⟨h.pk.push hown hg hat h.rL.1 h.rL.2 h1 h2 h3, h.bl.grown hg (Nat.le_trans hBs h.bl.size) (fun q e => (h.pk.own.block q e).1), h.pa.grown hg h.gv⟩
def CellsP (w : World) (g : Nat) (x : Pln) : Prop := w.cell? ⟨g, 0, none⟩ = some (.string x.ref) ∧ w.cell? ⟨g, 2, none⟩ = some (.string x.fr) ∧ w.cell? ⟨g, 3, none⟩ = some (.string x.to) ∧ w.cell? ⟨g, 4, none⟩ = some (.string x.cur)
theorem PlnAt.four {w : World} {g : Nat} {x : Pln} (h : PlnAt w g x) : w.cell? ⟨g, 0, none⟩ = some (.string x.ref) ∧ w.cell? ⟨g, 2, none⟩ = some (.string x.fr) ∧ w.cell? ⟨g, 3, none⟩ = some (.string x.to) ∧ w.cell? ⟨g, 4, none⟩ = some (.string x.cur) := ⟨h.c0, h.c2, h.c3, h.c4⟩
theorem keepP {w : World} {g : Nat} {x : Pln} (o' : Obj) (h : w.cell? ⟨g, 0, none⟩ = some (.string x.ref) ∧ w.cell? ⟨g, 2, none⟩ = some (.string x.fr) ∧ w.cell? ⟨g, 3, none⟩ = some (.string x.to) ∧ w.cell? ⟨g, 4, none⟩ = some (.string x.cur)) :
    (w.alloc o').cell? ⟨g, 0, none⟩ = some (.string x.ref) ∧ (w.alloc o').cell? ⟨g, 2, none⟩ = some (.string x.fr) ∧ (w.alloc o').cell? ⟨g, 3, none⟩ = some (.string x.to) ∧ (w.alloc o').cell? ⟨g, 4, none⟩ = some (.string x.cur) :=
  have k : ∀ {b o : Nat} {u : Value}, w.cell? ⟨b, o, none⟩ = some u → (w.alloc o').cell? ⟨b, o, none⟩ = some u := fun hc => below_cell ((Below.refl w.heap.size w).alloc (Nat.le_refl _) _) (World.block_lt_of_cell? _ _ hc) hc
  ⟨k h.1, k h.2.1, k h.2.2.1, k h.2.2.2⟩

set_option maxHeartbeats 4000000 in
set_option maxRecDepth 100000 in
theorem aEntries_any (c : List Acc) (CA : Option Addr) (cn ccap : Nat) (l : List Pln) (A : Option Addr) (n cap : Nat) (ent per : Int) (dg : ByteArray) (w : World)
    (hcl : cn ≤ 9223372036854775807) (hcc : cn ≤ ccap) (hc : Accs w CA cn c) (hcok : AccOk c) (hl : n ≤ cap) (hcap : cap ≤ maxLen) (ha : Rd w 8 plnEnc A n l) (hok : PlnsOk l) (hdg : dg.size ≤ 21)
    (HIt : Hid (∀ W : World, Below w.heap.size w W → Calls Tryz.prog 25 #[.int .i64 per] W fun e w' => e = .returned (.string dg) ∧ Below W.heap.size W w')) :
    Calls Tryz.prog 8 #[.slice CA cn ccap, .slice A n cap, .int .i64 ent, .int .i64 per] w fun e w' =>
      ((plansE c l ≠ 0 ∧ e = .returned (.tuple #[.slice none 0 0, .iface 43 (.int .i64 (plansE c l))])) ∨
        (plansE c l = 0 ∧ atEA ent per ≠ 0 ∧ e = .returned (.tuple #[.slice none 0 0, .iface 43 (.int .i64 (atEA ent per))])) ∨
        (plansE c l = 0 ∧ atEA ent per = 0 ∧ ∃ v es, e = .returned (.tuple #[v, .nilIface]) ∧ Pack w' w.heap.size v es ∧ es.map Ent.core = acoresTo l ent per dg n)) ∧ Below w.heap.size w w' := by
  have hn := ha.1
  have Hn := hide hn
  obtain ⟨i1, hi1, hy0, hy1, hy2⟩ := info_parts ent_infoA
  by_cases hp : plansE c l = 0
  · have HP := hide hp
    obtain ⟨_, h20, hpo⟩ := plansE_0 hp
    have hn20 : n ≤ 20 := by omega
    have HPO := hide hpo
    clear hp hpo h20 hn
    by_cases hat : atEA ent per = 0
    · have HAT := hide hat
      have hper : 1 ≤ per ∧ per ≤ 120 := by
        unfold atEA at hat
        by_cases h : inB 1 12 ent = true ∧ inB 1 120 per = true
        · exact inB_iff.1 h.2
        · rw [if_neg h] at hat; cases hat
      obtain ⟨p0, p1⟩ := hper
      have H0 := hide p0
      have H1 := hide p1
      clear hat p0 p1
      go_enter Tryz.func8, Tryz.ntmps8
      go_wp2_with fail
      refine (aCheck_any c _ _ _ l _ _ _ _ hcl hcc hc hcok hl hcap ha hok).mono ?_
      rintro e w1 ⟨rfl, hb1⟩
      rw [errV_0 HP.out]
      go_wp2_with fail
      refine (atA_any ent per _).mono ?_
      rintro e w2 ⟨rfl, rfl⟩
      rw [errV_0 HAT.out]
      go_wp2_with fail
      go_loopw [12, 30] (fun ov iv wr => ∃ (k : Nat) (es : List Ent), k ≤ n ∧ iv = .int .i64 k ∧ Pack wr w.heap.size ov es ∧ es.map Ent.core = acoresTo l ent per dg k ∧ Below w.heap.size w wr) (fun _ iv _ => n - (intOf iv).toNat)
      case atStart => exact ⟨0, [], by omega, rfl, Pack.nil _ _, rfl, hb1⟩
      case round =>
        clear hb1
        obtain ⟨k, es, hk, rfl, hpk, hes, hbr⟩ := hrel
        obtain ⟨wo, hwo⟩ : ∃ wo, wo = wr := ⟨_, rfl⟩
        subst hwo
        have HEs := hide hes
        clear hes
        by_cases hlt : k < n
        · have hkl : k < l.length := by have := Hn.out; omega
          obtain ⟨b, off, rfl, hcs⟩ := (Rd.below ha hbr).2 (by omega)
          have q0 := hcs k 0 _ hkl rfl
          have q1 := hcs k 1 _ hkl rfl
          have q2 := hcs k 2 _ hkl rfl
          have q3 := hcs k 3 _ hkl rfl
          have q4 := hcs k 4 _ hkl rfl
          have q5 := hcs k 5 _ hkl rfl
          have q6 := hcs k 6 _ hkl rfl
          have q7 := hcs k 7 _ hkl rfl
          rw [Nat.add_zero] at q0
          clear hcs
          have k0 : (0 : Int) ≤ (k : Int) := by omega
          have k1 : (k : Int) < (n : Int) := by omega
          have hsz := hbr.size
          have hX := PlnAt.new wo l[k]
          have hA : Below wo.heap.size wo (wo.alloc (.cells #[.string l[k].ref, .int .i64 l[k].ent, .string l[k].fr, .string l[k].to, .string l[k].cur, .int .i64 l[k].amt, .int .i64 l[k].first, .int .i64 l[k].per] 37)) := (Below.refl _ _).alloc (Nat.le_refl _) _
          have hB : Below w.heap.size w (wo.alloc (.cells #[.string l[k].ref, .int .i64 l[k].ent, .string l[k].fr, .string l[k].to, .string l[k].cur, .int .i64 l[k].amt, .int .i64 l[k].first, .int .i64 l[k].per] 37)) := hbr.trans (hA.mono hsz)
          have hpk1 := hpk.below hA
          have hel : es.length ≤ 20 := by have := cores_lenA HEs.out; have := acoresTo_len (l := l) (ent := ent) (per := per) (dg := dg) (k := k) (by omega); omega
          obtain ⟨VA, vc, rfl, hvc, hvm⟩ := hpk.own.form
          obtain ⟨pg, hpg⟩ : ∃ pg, pg = wo.heap.size := ⟨_, rfl⟩
          have hvp : Value.ownBlock (.slice VA es.length vc) ≠ some pg := fun e => Nat.lt_irrefl _ (Nat.lt_of_lt_of_eq (hpk.own.block pg e).2 hpg.symm)
          obtain ⟨X, hXe⟩ : ∃ X, X = l[k] := ⟨_, rfl⟩
          have HXE := hide hXe
          have hnum : numE X = 0 := by rw [hXe]; exact (HPO.out _ (List.getElem_mem hkl)).num
          have hrs : X.ref.size ≤ 8 := by rw [hXe]; exact (HPO.out _ (List.getElem_mem hkl)).ref
          rw [← hXe] at q0 q1 q2 q3 q4 q5 q6 q7 hX hB hpk1 hA
          obtain ⟨nv, hnv⟩ : ∃ nv, nv = partOf X per := ⟨_, rfl⟩
          have hnb := partOf_small (x := X) (period := per) hnum
          rw [← hnv] at hnb
          obtain ⟨hn1, hn2⟩ := hnb
          have HNV := hide hnv
          have HPT : Hid (∀ W : World, Calls Tryz.prog 24 #[.agg #[.string X.ref, .int .i64 X.ent, .string X.fr, .string X.to, .string X.cur, .int .i64 X.amt, .int .i64 X.first, .int .i64 X.per], .int .i64 per] W fun e w' => e = .returned (.int .i64 nv) ∧ Below W.heap.size W w') := fun W => by rw [hnv]; exact apart_any X per W hnum H0.out H1.out
          clear hnum hnv hXe hpk
          go_upto_region 11 with fail
          rw [← hpg] at hX ⊢
          generalize (wo.alloc (.cells #[.string X.ref, .int .i64 X.ent, .string X.fr, .string X.to, .string X.cur, .int .i64 X.amt, .int .i64 X.first, .int .i64 X.per] 37)) = W1 at hX hB hpk1 hA ⊢
          clear hpg q0 q1 q2 q3 q4 q5 q6 q7 hA hsz
          have hX1 := hX
          obtain ⟨c0, c1, c2, c3, c4, c5, c6, c7⟩ := hX
          go_wp2_with fail
          refine (HPT.out _).mono ?_
          rintro e w2 ⟨rfl, hb2⟩
          have hX2 := hX1.below hb2
          have hpk2 := hpk1.below hb2
          have hB2 := bthen hB (Nat.le_refl _) hb2
          have hs2 := hB2.size
          clear c0 c1 c2 c3 c4 c5 c6 c7 hX1 hpk1 hB hb2 HPT
          have d1 := hX2.c1
          cases e1 : (X.ent == ent) with
          | false =>
            have e1n : (X.ent != ent) = true := by rw [bne, e1] <;> rfl
            have HN := hide (acores_ent (ent := ent) (per := per) (dg := dg) hkl (by rw [← HXE.out]; simpa using e1))
            go_wp2_with fail
            go_roundw
            case rel => exact ⟨k + 1, es, by omega, by go_num, hpk2, by rw [HN.out]; exact HEs.out, hB2⟩
            case measure => simp [intOf]; omega
          | true =>
            have e1n : (X.ent != ent) = false := by rw [bne, e1] <;> rfl
            have he1 : X.ent = ent := by simpa using e1
            by_cases hz : nv = 0
            · have hz1 : (nv == 0) = true := by simpa using hz
              have HN := hide (acores_no (ent := ent) (per := per) (dg := dg) hkl (by rw [← HXE.out]; exact he1) (by rw [← HXE.out, ← HNV.out]; exact hz))
              clear hz he1
              go_wp2_with fail
              go_roundw
              case rel => exact ⟨k + 1, es, by omega, by go_num, hpk2, by rw [HN.out]; exact HEs.out, hB2⟩
              case measure => simp [intOf]; omega
            · have hz1 : (nv == 0) = false := by simpa using hz
              have HN := hide (acores_yes (ent := ent) (per := per) (dg := dg) hkl (by rw [← HXE.out]; exact he1) (by rw [← HXE.out, ← HNV.out]; exact hz))
              clear hz he1
              go_upto_region 13 with fail
              clear e1 e1n hz1 d1
              have hw1 : ¬ (9223372036854775807 < X.ref.size + (⟨#[45]⟩ : ByteArray).size) := by
                have : (⟨#[45]⟩ : ByteArray).size = 1 := rfl
                omega
              have hw2 : ¬ (9223372036854775807 < X.ref.size + 1) := by omega
              have hpd : (X.ref ++ ⟨#[45]⟩ : ByteArray).size = X.ref.size + 1 := by rw [ByteArray.size_append]; rfl
              have hw3 : ¬ (9223372036854775807 < (X.ref ++ ⟨#[45]⟩ : ByteArray).size + dg.size) := by rw [hpd]; omega
              have hw4 : ¬ (9223372036854775807 < X.ref.size + 1 + dg.size) := by omega
              have hw5 : ¬ (9223372036854775807 < X.ref.size + (⟨#[45]⟩ : ByteArray).size + dg.size) := by
                have : (⟨#[45]⟩ : ByteArray).size = 1 := rfl
                omega
              clear hpd
              have hwn : IntKind.i64.wrap (-nv) = -nv := IntWalk.i64_in _ (by omega)
              have hS := hX2.four
              have hBd : Below w.heap.size w w2.drew := bdrewN hB2 1
              have hpkd : Pack w2.drew w.heap.size (.slice VA es.length vc) es := hpk2.below (bdrewN (Below.refl _ w2) 1)
              have hXd : PlnAt w2.drew pg X := ⟨hX2.c0, hX2.c1, hX2.c2, hX2.c3, hX2.c4, hX2.c5, hX2.c6, hX2.c7⟩
              have HIA : Hid (Calls Tryz.prog 25 #[.int .i64 per] w2.drew fun e w' => e = .returned (.string dg) ∧ Below w2.drew.heap.size w2.drew w') := HIt.out _ hBd
              have hLb : Below w2.drew.heap.size w2.drew (w2.drew.alloc (.cells #[.string X.fr, .string X.cur, .int .i64 nv, .string X.to, .string X.cur, .int .i64 (-nv)] 56)) := (Below.refl _ _).alloc (Nat.le_refl _) _
              have HIB : Hid (Calls Tryz.prog 25 #[.int .i64 per] (w2.drew.alloc (.cells #[.string X.fr, .string X.cur, .int .i64 nv, .string X.to, .string X.cur, .int .i64 (-nv)] 56)) fun e w' => e = .returned (.string dg) ∧ Below (w2.drew.alloc (.cells #[.string X.fr, .string X.cur, .int .i64 nv, .string X.to, .string X.cur, .int .i64 (-nv)] 56)).heap.size (w2.drew.alloc (.cells #[.string X.fr, .string X.cur, .int .i64 nv, .string X.to, .string X.cur, .int .i64 (-nv)] 56)) w') := HIt.out _ (hBd.trans (hLb.mono hBd.size))
              have HQA : Hid (∀ w3, Below w2.drew.heap.size w2.drew w3 → (w3.cell? ⟨pg, 0, none⟩ = some (.string X.ref) ∧ w3.cell? ⟨pg, 2, none⟩ = some (.string X.fr) ∧ w3.cell? ⟨pg, 3, none⟩ = some (.string X.to) ∧ w3.cell? ⟨pg, 4, none⟩ = some (.string X.cur)) ∧
                  Hid (Rdy w ((w3.alloc (.cells #[.string X.fr, .string X.cur, .int .i64 nv, .string X.to, .string X.cur, .int .i64 (-nv)] 56)).alloc (.cells #[.string (X.ref ++ ⟨#[45]⟩ ++ dg), .int .i64 ent, .int .i64 per, .slice (some ⟨w3.heap.size, 0, none⟩) 2 2] 54)) w.heap.size pg X (.slice VA es.length vc) es ⟨X.ref ++ ⟨#[45]⟩ ++ dg, ent, per, some ⟨w3.heap.size, 0, none⟩, 2, 2, [⟨X.fr, X.cur, nv⟩, ⟨X.to, X.cur, -nv⟩]⟩ (w3.alloc (.cells #[.string X.fr, .string X.cur, .int .i64 nv, .string X.to, .string X.cur, .int .i64 (-nv)] 56)).heap.size)) := by
                intro w3 h3
                exact ⟨(hXd.below h3).four, Rdy.make nv _ ent per (bthen hBd (Nat.le_refl _) h3) (Nat.le_refl _) (hpkd.below h3) (hXd.below h3) hvp (Below.refl _ _)⟩
              have HQB : Hid (∀ w3, Below (w2.drew.alloc (.cells #[.string X.fr, .string X.cur, .int .i64 nv, .string X.to, .string X.cur, .int .i64 (-nv)] 56)).heap.size (w2.drew.alloc (.cells #[.string X.fr, .string X.cur, .int .i64 nv, .string X.to, .string X.cur, .int .i64 (-nv)] 56)) w3 → (w3.cell? ⟨pg, 0, none⟩ = some (.string X.ref) ∧ w3.cell? ⟨pg, 2, none⟩ = some (.string X.fr) ∧ w3.cell? ⟨pg, 3, none⟩ = some (.string X.to) ∧ w3.cell? ⟨pg, 4, none⟩ = some (.string X.cur)) ∧
                  Hid (Rdy w (w3.alloc (.cells #[.string (X.ref ++ ⟨#[45]⟩ ++ dg), .int .i64 ent, .int .i64 per, .slice (some ⟨w2.drew.heap.size, 0, none⟩) 2 2] 54)) w.heap.size pg X (.slice VA es.length vc) es ⟨X.ref ++ ⟨#[45]⟩ ++ dg, ent, per, some ⟨w2.drew.heap.size, 0, none⟩, 2, 2, [⟨X.fr, X.cur, nv⟩, ⟨X.to, X.cur, -nv⟩]⟩ w3.heap.size)) := by
                intro w3 h3
                exact ⟨((hXd.below hLb).below h3).four, Rdy.make nv _ ent per hBd (Nat.le_refl _) hpkd hXd hvp h3⟩
              clear hX2 hpk2 hB2 hBd hpkd hXd hLb hbr
              go_region_held3 (fun w' => w'.cell? ⟨pg, 0, none⟩ = some (.string X.ref) ∧ w'.cell? ⟨pg, 2, none⟩ = some (.string X.fr) ∧ w'.cell? ⟨pg, 3, none⟩ = some (.string X.to) ∧ w'.cell? ⟨pg, 4, none⟩ = some (.string X.cur)) (first | exact hS | exact keepP _ hS | exact keepP _ (keepP _ hS)) (first | (go_at_call 25; refine HIA.out.mono ?_; rintro e w3 ⟨rfl, hb3⟩; obtain ⟨hS, HQ⟩ := HQA.out _ hb3; clear hb3) | (go_at_call 25; refine HIB.out.mono ?_; rintro e w3 ⟨rfl, hb3⟩; obtain ⟨hS, HQ⟩ := HQB.out _ hb3; clear hb3) | (refine step_pushE _ rfl _ _ 29 rfl w.heap.size 54 i1 zeroEntA 4 56 Tryz.underlying29 hi1 hy0 hy1 hy2 rfl (by decide) entEnc_okA (.slice VA es.length vc) es (by simp [Act.eval]) HQ.out.pk.own _ 1 1 [_] (by simp [Act.eval]) HQ.out.rE (by intro h; cases h) (by simp only [maxLen]; omega) (by omega) HQ.out.bl.size ?_; intro v' w7 hown7 hg7 hat7; obtain ⟨hpk7, hb7, hX7⟩ := HQ.out.done (Nat.le_refl _) hown7 hg7 hat7; have hS := hX7.four; have HPK := hide hpk7; have HB7 := hide hb7; clear hpk7 hb7 hX7 hown7 hg7 hat7))
              all_goals
                go_wp2_with fail
                go_roundw
                case rel => exact ⟨k + 1, es ++ [_], by omega, by go_num, HPK.out, by rw [List.map_append, HEs.out, HN.out, ← HXE.out, ← HNV.out]; rfl, HB7.out⟩
                case measure => simp [intOf]; omega
        · have hkn : k = n := by omega
          go_wp2_with fail
          go_ret2
          exact ⟨.inr (.inr ⟨HP.out, HAT.out, _, es, rfl, hpk, by rw [HEs.out, hkn]⟩), hbr⟩
    · have HAT := hide hat
      clear hat
      go_enter Tryz.func8, Tryz.ntmps8
      go_wp2_with fail
      refine (aCheck_any c _ _ _ l _ _ _ _ hcl hcc hc hcok hl hcap ha hok).mono ?_
      rintro e w1 ⟨rfl, hb1⟩
      rw [errV_0 HP.out]
      go_wp2_with fail
      refine (atA_any ent per _).mono ?_
      rintro e w2 ⟨rfl, rfl⟩
      rw [errV_n HAT.out]
      go_wp2_with fail
      go_ret2
      exact ⟨.inr (.inl ⟨HP.out, HAT.out, rfl⟩), hb1⟩
  · have HP := hide hp
    clear hp
    go_enter Tryz.func8, Tryz.ntmps8
    go_wp2_with fail
    refine (aCheck_any c _ _ _ l _ _ _ _ hcl hcc hc hcok hl hcap ha hok).mono ?_
    rintro e w1 ⟨rfl, hb1⟩
    rw [errV_n HP.out]
    go_wp2_with fail
    go_ret2
    exact ⟨.inl ⟨HP.out, rfl⟩, hb1⟩
end Go.Proofs.YtfkhcdcmcplfoaaGreatDoor
