/- The statement JournalParts: what it begins with. -/
import Derived.Test.YthmjkhlndphldaaDoorJrnD
namespace Go.Proofs.YthmjkhlndphldaaDoor
open Go Go.RowKit
set_option linter.unusedVariables false

theorem EntFits.below {w w' : World} {e : Ent} (h : EntFits w e) (hb : Below w.heap.size w w') : EntFits w' e :=
  ⟨h.1, h.2.1, h.2.2.1, h.2.2.2.1.below hb, h.2.2.2.2.1, h.2.2.2.2.2⟩

def acct5 : List Acc := [⟨⟨#[49, 48]⟩, ⟨#[99, 97, 115, 104]⟩, 1, ⟨#[]⟩, true⟩, ⟨⟨#[50, 48]⟩, ⟨#[100, 101, 98, 116]⟩, 2, ⟨#[]⟩, true⟩, ⟨⟨#[51, 48]⟩, ⟨#[107, 101, 112, 116]⟩, 3, ⟨#[]⟩, false⟩, ⟨⟨#[52, 48]⟩, ⟨#[115, 97, 108, 101, 115]⟩, 4, ⟨#[]⟩, false⟩, ⟨⟨#[53, 48]⟩, ⟨#[99, 111, 115, 116]⟩, 5, ⟨#[]⟩, false⟩]
def line2 : List Line := [⟨⟨#[49, 48]⟩, eur, 5⟩, ⟨⟨#[50, 48]⟩, eur, -5⟩]
theorem accEnc_ok : Enc 5 Acc.enc := ⟨fun _ => rfl, by
  intro a u hu
  simp only [Acc.enc, List.mem_cons, List.not_mem_nil, or_false] at hu
  rcases hu with rfl | rfl | rfl | rfl | rfl <;> rfl⟩

theorem accounts_any (w : World) : Calls Tryd.prog 26 #[] w fun e w' => ∃ g, e = .returned (.slice (some ⟨g, 0, none⟩) 5 5) ∧ Accs w' (some ⟨g, 0, none⟩) 5 acct5 ∧ Below w.heap.size w w' := by
  go_enter Tryd.func26, Tryd.ntmps26
  go_wp2_with fail
  go_ret
  exact ⟨_, rfl, Rd.lit w accEnc_ok acct5 5 rfl _ _ rfl, (Below.refl _ _).alloc (Nat.le_refl _) _⟩
theorem acct5_ok : AccOk acct5 := accOk_of (by
  intro a ha
  simp only [acct5, List.mem_cons, List.not_mem_nil, or_false] at ha
  rcases ha with rfl | rfl | rfl | rfl | rfl <;> exact ⟨by decide, by decide⟩)
theorem post_first : postE acct5 [] ⟨#[97]⟩ 1 1 line2 = 0 := by decide +kernel

theorem line2_fits {w : World} {g : Nat} (h : Rd w 3 lineEnc (some ⟨g, 0, none⟩) 2 line2) : EntFits w ⟨⟨#[97]⟩, 1, 1, some ⟨g, 0, none⟩, 2, 2, line2⟩ := by
  refine ⟨by show (1 : Nat) ≤ _; decide, Nat.le_refl _, by show (2 : Nat) ≤ maxLen; unfold maxLen; omega, h, ?_, fun h => by cases h⟩
  intro x hx
  simp only [line2, List.mem_cons, List.not_mem_nil, or_false] at hx
  rcases hx with rfl | rfl <;> exact ⟨by decide, by decide⟩

/-- is it among the first of them? -/
def memTo (Y : List Int) (a : Nat) (z : Nat) : Bool := (Y.take z).any fun y => y == (a : Int)
theorem memTo_succ (Y : List Int) (a z : Nat) (h : z < Y.length) : memTo Y a (z + 1) = (memTo Y a z || Y[z] == (a : Int)) := by
  unfold memTo
  rw [List.take_succ_eq_append_getElem h, List.any_append]
  simp
theorem memTo_all {Y : List Int} {a : Nat} (h : (a : Int) ∈ Y) : memTo Y a Y.length = true := by
  unfold memTo
  rw [List.take_length, List.any_eq_true]
  exact ⟨_, h, by simp⟩
/-- all entries of a journal are of entities that there are -/
def InE (es : List Ent) : Prop := ∀ x, x ∈ es → 1 ≤ x.ent ∧ x.ent ≤ 12
theorem InE.push {c : List Acc} {es : List Ent} {E E' : Ent} (h : InE es) (hp : postE c es E.ref E.ent E.per E.lines = 0) (he : E'.ent = E.ent) : InE (es ++ [E']) := by
  intro x hx
  rcases List.mem_append.1 hx with hx | hx
  · exact h x hx
  · have hx' : x = E' := by simpa using hx
    subst hx'
    have h0 : entE c E.ref E.ent E.per E.lines = 0 := by
      unfold postE at hp
      split at hp
      · exact hp
      · rename_i hn; simpa using hn
    have := (entE_right h0).ent
    simp only [inB, Bool.and_eq_true, decide_eq_true_eq] at this
    rw [he]; exact this

set_option maxHeartbeats 4000000 in
set_option maxRecDepth 100000 in
theorem jparts_any (c : List Acc) (CA : Option Addr) (cn ccap : Nat) (L : List Ent) (LA : Option Addr) (ln lcap : Nat) (w : World)
    (hcc : cn ≤ ccap) (hcm : ccap ≤ maxLen) (hc : Accs w CA cn c) (hcok : AccOk c) (hlc : ln ≤ lcap) (hlm : lcap ≤ maxLen) (hL : Rd w 4 Ent.enc LA ln L) (hLok : ∀ e, e ∈ L → EntFits w e) :
    Calls Tryd.prog 6 #[.slice CA cn ccap, .slice LA ln lcap] w
      fun e w' => e = .returned (.bool true) ∧ Below w.heap.size w w' := by
  have hcn : cn ≤ 9223372036854775807 := by unfold maxLen at hcm; omega
  have hln : ln ≤ 9223372036854775807 := by unfold maxLen at hlm; omega
  have Hn := hide hL.1
  go_enter Tryd.func6, Tryd.ntmps6
  go_wp2_with fail
  refine (jnew_any _).mono ?_
  rintro e w1 ⟨g, m, rfl, hJ1, hb1⟩
  go_wp2_with fail
  refine (accounts_any _).mono ?_
  rintro e w2 ⟨ga, rfl, hac2, hb2'⟩
  have hJ2 := hJ1.below hb2'
  have hb2 := bthen hb1 (Nat.le_refl _) hb2'
  go_wp2_with fail
  refine (two_any _ _ _ 1 1 5 _ (by decide) (by decide)).mono ?_
  rintro e w3 ⟨g3, rfl, hl3, hb3'⟩
  have hJ3 := hJ2.below hb3'
  have hac3 := hac2.below hb3'
  have hb3 := bthen hb2 (Nat.le_refl _) hb3'
  go_wp2_with fail
  refine (jpost_any hJ3 (by simp) hb3.size acct5 _ 5 5 ⟨⟨#[97]⟩, 1, 1, some ⟨g3, 0, none⟩, 2, 2, line2⟩ (by omega) (by omega) hac3 acct5_ok (line2_fits hl3)).mono ?_
  rintro e w4 (⟨hbad, _⟩ | ⟨_, rfl, hb4', v4, E4, _, he4, hp4, _, hJ4⟩)
  · exact absurd post_first hbad
  have hb4 := hb3.trans hb4'
  have hof : ofTo ([] ++ [E4]) 1 1 ([] ++ [E4]).length = [0] := by
    have h1 : ofB 1 1 E4 = true := by
      have e1 : E4.ent = 1 := he4
      have e2 : E4.per = 1 := hp4
      simp [ofB, e1, e2]
    show ofTo [E4] 1 1 1 = _
    rw [ofTo_yes (es := [E4]) (k := 0) (by simp) h1]
    rfl
  go_wp2_with fail
  refine (jof_any hJ4 (by simp) 1 1).mono ?_
  rintro e w5 ⟨r5, rfl, hown5, hb5'⟩
  rw [hof] at hown5
  obtain ⟨XA, xc, rfl, hx1, hx2⟩ := hown5.form
  have hb5 := hb4.trans (hb5'.mono hb4.size)
  clear hown5 hof he4 hp4 hJ4 hJ3 hJ2 hJ1 hac2 hac3 hl3 hx1 hx2 hb2' hb3' hb4' hb5'
  go_wp2_with fail
  refine (jnew_any _).mono ?_
  rintro e w6 ⟨g6, m6, rfl, hJ6, hb6'⟩
  have hb6 := bthen hb5 (Nat.le_refl _) hb6'
  go_wp2_with fail
  go_loopw [9] (fun iv wr => ∃ (k : Nat) (v : Value) (es : List Ent), k ≤ 60 ∧ k ≤ ln ∧ iv = .int .i64 k ∧ es.length ≤ k ∧ InE es ∧ Jrn wr w5.heap.size g6 m6 v es ∧ Below w5.heap.size w5 wr) (fun iv _ => 60 - (intOf iv).toNat)
  case atStart => exact ⟨0, _, [], by omega, by omega, rfl, by simp, (fun x hx => by cases hx), hJ6, hb6'⟩
  case round =>
    obtain ⟨k, v, es, hk60, hkn, rfl, hes, hin, hJ, hbr'⟩ := hrel
    have hbr := bthen hb5 (Nat.le_refl _) hbr'
    have hHin := hide hin
    clear hin
    by_cases hlt : k < ln
    · by_cases hlt60 : k < 60
      · have hkl : k < L.length := by have := Hn.out; omega
        obtain ⟨b, off, rfl, hcs⟩ := (Rd.below hL hbr).2 (by omega)
        have q0 := hcs k 0 _ hkl rfl
        have q1 := hcs k 1 _ hkl rfl
        have q2 := hcs k 2 _ hkl rfl
        have q3 := hcs k 3 _ hkl rfl
        rw [Nat.add_zero] at q0
        clear hcs
        have hfit := (hLok L[k] (List.getElem_mem _)).below hbr
        have k0 : (0 : Int) ≤ (k : Int) := by omega
        have k1 : (k : Int) < (ln : Int) := by omega
        have k2 : (k : Int) < 60 := by omega
        go_wp2_with fail
        refine (jpost_any hJ (by omega) hbr'.size c _ _ _ L[k] hcn hcc (hc.below hbr) hcok hfit).mono ?_
        rintro e w7 (⟨_, rfl, hJ7, hb7⟩ | ⟨hp0, rfl, hb7, v7, E7, _, he7, _, _, hJ7⟩)
        · go_wp2_with fail
          go_roundw
          case rel => exact ⟨k + 1, v, es, by omega, by omega, by go_num, by omega, hHin.out, hJ7, bthen hbr' (Nat.le_refl _) hb7⟩
          case measure => simp [intOf]; omega
        · go_wp2_with fail
          go_roundw
          case rel => exact ⟨k + 1, v7, es ++ [E7], by omega, by omega, by go_num, by rw [List.length_append]; simp; omega, InE.push hHin.out hp0 he7, hJ7, hbr'.trans hb7⟩
          case measure => simp [intOf]; omega
      · have hes60 : es.length ≤ 60 := by omega
        go_wp2_with fail
        refine (jof_any hJ (by omega) 0 0).mono ?_
        rintro e w7 ⟨r7, rfl, hown7, hb7'⟩
        obtain ⟨AA, ac, rfl, ha1, ha2⟩ := hown7.form
        have hall := ofTo_all es
        rw [hall]
        have hJ7 := hJ.below hb7'
        have hb7 := bthen hbr (Nat.le_refl _) hb7'
        clear hall hown7 ha1 ha2 hJ hb7'
        go_wp2_with fail
        refine (jlen_any hJ7).mono ?_
        rintro e w8 ⟨rfl, rfl⟩
        go_wp2_with fail
        go_loopw [11, 12] (fun cv ev wq => ∃ q : Nat, q ≤ 12 ∧ ev = .int .i64 ((q : Int) + 1) ∧ cv = .int .i64 (upTo es q : Int) ∧ Below w7.heap.size w7 wq) (fun _ ev _ => 13 - (intOf ev).toNat)
        case atStart => exact ⟨0, by omega, rfl, by rw [show ((0 : Nat) : Int) = 0 from rfl, upTo_zero]; rfl, Below.refl _ _⟩
        case round =>
          obtain ⟨q, hq, rfl, rfl, hbq⟩ := hrel
          have hJq := hJ7.below hbq
          by_cases hq12 : q < 12
          · have q1 : (q : Int) + 1 ≤ 12 := by omega
            go_wp2_with fail
            refine (jof_any hJq (by omega) ((q : Int) + 1) 0).mono ?_
            rintro e wx ⟨rx, rfl, hownx, hbx⟩
            have hXc := upTo_succ es q (by omega)
            have hXl := ofTo_len es ((q : Int) + 1) 0 es.length
            obtain ⟨X, hX⟩ : ∃ X, X = ofTo es ((q : Int) + 1) 0 es.length := ⟨_, rfl⟩
            have hXat : ∀ (i : Nat) (h : i < X.length), ∃ (j : Nat) (hj : j < es.length), X[i] = (j : Int) ∧ es[j].ent = (q : Int) + 1 ∧ (j : Int) ∈ ofTo es ((q : Int) + 1) es[j].per es.length := by subst hX; exact fun i h => ofTo_at (by omega) h
            have hXs : ∀ (i : Nat) (h : i + 1 < X.length), X[i] < X[i + 1] := by subst hX; exact fun i h => ofTo_lt i h
            rw [← hX] at hownx hXc hXl
            clear hX
            obtain ⟨XA2, xc2, rfl, hx1, hx2⟩ := hownx.form
            have hrdx := hownx.rd intEnc_ok
            have hJx := hJq.below hbx
            have hbqx := bthen hbq (Nat.le_refl _) hbx
            have hXl60 : X.length ≤ 60 := by omega
            have hup : upTo es q ≤ es.length := by unfold upTo; exact List.length_filter_le _ _
            have hHXat := hide hXat
            have hHXs := hide hXs
            have hHXc := hide hXc
            clear hXat hXs hXc
            go_wp2_with fail
            go_loopw [14] (fun iv wi => ∃ i : Nat, i ≤ X.length ∧ iv = .int .i64 i ∧ Below wx.heap.size wx wi) (fun iv _ => X.length - (intOf iv).toNat)
            case atStart => exact ⟨0, by omega, rfl, Below.refl _ _⟩
            case round =>
              obtain ⟨i, hi, rfl, hbi⟩ := hrel
              have hJi := hJx.below hbi
              by_cases hil : i < X.length
              · obtain ⟨j, hj, hXi, hent, hmem⟩ := hHXat.out i hil
                obtain ⟨xb, xoff, rfl, hxc⟩ := hrdx.2 (by omega)
                have cx : ∀ (z : Nat) (hz : z < X.length), wx.cell? ⟨xb, xoff + z, none⟩ = some (.int .i64 X[z]) := fun z hz => by have := hxc z 0 _ hz rfl; rwa [Nat.mul_one, Nat.add_zero] at this
                have hxbl : xb < wx.heap.size := World.block_lt_of_cell? _ _ (cx i hil)
                have cxi : wx.cell? ⟨xb, xoff + i, none⟩ = some (.int .i64 (j : Int)) := by rw [cx i hil, hXi]
                have ci := below_cell hbi hxbl cxi
                have i0' : (0 : Int) ≤ (i : Int) := by omega
                have i1' : (i : Int) < (X.length : Int) := by omega
                go_wp2_with fail
                refine (jat_ok hJi j hj).mono ?_
                rintro e wa ⟨PA, pc, rfl, hba⟩
                rw [hent]
                have hbia := bthen hbi (Nat.le_refl _) hba
                have hJa := (hJi.below hba).alloc (.cells #[.string es[j].ref, .int .i64 ((q : Int) + 1), .int .i64 es[j].per, .slice PA es[j].lines.length pc] 56)
                go_wp2_with fail
                refine (jof_any hJa (by omega) ((q : Int) + 1) es[j].per).mono ?_
                rintro e wy ⟨ry, rfl, howny, hby⟩
                have hPy := (EntAt.neu wa es[j].ref ((q : Int) + 1) es[j].per (.slice PA es[j].lines.length pc)).below hby
                have hbxy := bthen hbia (Nat.le_refl _) (bof_alloc hby)
                have hYl := ofTo_len es ((q : Int) + 1) es[j].per es.length
                obtain ⟨Y, hY⟩ : ∃ Y, Y = ofTo es ((q : Int) + 1) es[j].per es.length := ⟨_, rfl⟩
                rw [← hY] at howny hmem hYl
                clear hY
                obtain ⟨YA, yc, rfl, hy1, hy2⟩ := howny.form
                have hrdy := howny.rd intEnc_ok
                have hYl60 : Y.length ≤ 60 := by omega
                have cyi := below_cell hbxy hxbl cxi
                have hHmem := hide hmem
                clear hmem ci
                obtain ⟨p0, p1, p2, p3⟩ := hPy
                have hpl : wa.heap.size < wy.heap.size := World.block_lt_of_cell? _ _ p0
                have hxyl : xb < wy.heap.size := World.block_lt_of_cell? _ _ cyi
                go_wp2_with fail
                go_loopw [18, 19] (fun nv kv wk => ∃ z : Nat, z ≤ Y.length ∧ kv = .int .i64 z ∧ nv = .bool (memTo Y j z) ∧ Below wy.heap.size wy wk) (fun _ kv _ => Y.length - (intOf kv).toNat)
                case atStart => exact ⟨0, by omega, rfl, rfl, Below.refl _ _⟩
                case round =>
                  obtain ⟨z, hz, rfl, rfl, hbk⟩ := hrel
                  have ck := below_cell hbk hxyl cyi
                  by_cases hzl : z < Y.length
                  · obtain ⟨yb, yoff, rfl, hyc⟩ := hrdy.2 (by omega)
                    have cy : wy.cell? ⟨yb, yoff + z, none⟩ = some (.int .i64 Y[z]) := by have := hyc z 0 _ hzl rfl; rwa [Nat.mul_one, Nat.add_zero] at this
                    have ck2 := below_cell hbk (World.block_lt_of_cell? _ _ cy) cy
                    have z0' : (0 : Int) ≤ (z : Int) := by omega
                    have z1' : (z : Int) < (Y.length : Int) := by omega
                    have HM := hide (memTo_succ Y j z hzl)
                    cases hm : memTo Y j z with
                    | true =>
                      have HN : Hid (memTo Y j (z + 1) = true) := by show _ = _; rw [HM.out, hm]; rfl
                      clear hm
                      go_wp2_with fail
                      go_quiet (fail)
                      go_wp2_with fail
                      go_roundw
                      case rel => exact ⟨z + 1, by omega, by go_num, by rw [HN.out], bdrewN hbk _⟩
                      case measure => simp [intOf]; omega
                    | false =>
                      have HN : Hid (memTo Y j (z + 1) = (Y[z] == (j : Int))) := by show _ = _; rw [HM.out, hm]; rfl
                      clear hm
                      go_wp2_with fail
                      go_quiet (fail)
                      go_wp2_with fail
                      go_roundw
                      case rel => exact ⟨z + 1, by omega, by go_num, by rw [HN.out], bdrewN hbk _⟩
                      case measure => simp [intOf]; omega
                  · have hzY : z = Y.length := by omega
                    subst hzY
                    rw [memTo_all hHmem.out]
                    have pk1 := below_cell hbk hpl p1
                    have hbek : ¬ ((q : Int) + 1 != (q : Int) + 1) = true := by simp
                    by_cases hi0 : i = 0
                    · subst hi0
                      go_wp2_with fail
                      go_quiet (fail)
                      go_wp2_with fail
                      go_roundw
                      case rel => exact ⟨0 + 1, by omega, by go_num, bdrewN (bthen hbxy (Nat.le_refl _) hbk) _⟩
                      case measure => simp [intOf]; omega
                    · obtain ⟨i', rfl⟩ : ∃ i', i = i' + 1 := ⟨i - 1, by omega⟩
                      have hlt' := hHXs.out i' hil
                      rw [hXi] at hlt'
                      have cp := below_cell (bthen hbxy (Nat.le_refl _) hbk) hxbl (cx i' (by omega))
                      have ii0 : (0 : Int) < ((i' + 1 : Nat) : Int) := by omega
                      have ii1 : (0 : Int) ≤ (i' : Int) := by omega
                      have ii2 : (i' : Int) < (X.length : Int) := by omega
                      have hle : ¬ ((j : Int) ≤ X[i']) := by omega
                      go_wp2_with fail
                      go_quiet (fail)
                      go_wp2_with fail
                      go_roundw
                      case rel => exact ⟨i' + 1 + 1, by omega, by go_num, bdrewN (bthen hbxy (Nat.le_refl _) hbk) _⟩
                      case measure => simp [intOf]; omega
              · have hix : i = X.length := by omega
                subst hix
                go_wp2_with fail
                go_roundw
                case rel => exact ⟨q + 1, by omega, by go_num, by rw [show ((q + 1 : Nat) : Int) = (q : Int) + 1 from by omega, hHXc.out]; go_num, bthen hbqx (Nat.le_refl _) hbi⟩
                case measure => simp [intOf]; omega
          · have hq12' : q = 12 := by omega
            subst hq12'
            have hup := upTo_all hHin.out
            have HU : Hid ((upTo es ((12 : Nat) : Int) : Int) = (es.length : Int)) := by show _ = _; rw [show ((12 : Nat) : Int) = 12 from rfl, hup]
            rw [HU.out]
            go_wp2_with fail
            refine (jlen_any hJq).mono ?_
            rintro e w8 ⟨rfl, rfl⟩
            go_wp2_with fail
            go_ret
            exact ⟨rfl, bthen hb7 (Nat.le_refl _) hbq⟩
    · have hes60 : es.length ≤ 60 := by omega
      go_wp2_with fail
      refine (jof_any hJ (by omega) 0 0).mono ?_
      rintro e w7 ⟨r7, rfl, hown7, hb7'⟩
      obtain ⟨AA, ac, rfl, ha1, ha2⟩ := hown7.form
      have hall := ofTo_all es
      rw [hall]
      have hJ7 := hJ.below hb7'
      have hb7 := bthen hbr (Nat.le_refl _) hb7'
      clear hall hown7 ha1 ha2 hJ hb7'
      go_wp2_with fail
      refine (jlen_any hJ7).mono ?_
      rintro e w8 ⟨rfl, rfl⟩
      go_wp2_with fail
      go_loopw [11, 12] (fun cv ev wq => ∃ q : Nat, q ≤ 12 ∧ ev = .int .i64 ((q : Int) + 1) ∧ cv = .int .i64 (upTo es q : Int) ∧ Below w7.heap.size w7 wq) (fun _ ev _ => 13 - (intOf ev).toNat)
      case atStart => exact ⟨0, by omega, rfl, by rw [show ((0 : Nat) : Int) = 0 from rfl, upTo_zero]; rfl, Below.refl _ _⟩
      case round =>
        obtain ⟨q, hq, rfl, rfl, hbq⟩ := hrel
        have hJq := hJ7.below hbq
        by_cases hq12 : q < 12
        · have q1 : (q : Int) + 1 ≤ 12 := by omega
          go_wp2_with fail
          refine (jof_any hJq (by omega) ((q : Int) + 1) 0).mono ?_
          rintro e wx ⟨rx, rfl, hownx, hbx⟩
          have hXc := upTo_succ es q (by omega)
          have hXl := ofTo_len es ((q : Int) + 1) 0 es.length
          obtain ⟨X, hX⟩ : ∃ X, X = ofTo es ((q : Int) + 1) 0 es.length := ⟨_, rfl⟩
          have hXat : ∀ (i : Nat) (h : i < X.length), ∃ (j : Nat) (hj : j < es.length), X[i] = (j : Int) ∧ es[j].ent = (q : Int) + 1 ∧ (j : Int) ∈ ofTo es ((q : Int) + 1) es[j].per es.length := by subst hX; exact fun i h => ofTo_at (by omega) h
          have hXs : ∀ (i : Nat) (h : i + 1 < X.length), X[i] < X[i + 1] := by subst hX; exact fun i h => ofTo_lt i h
          rw [← hX] at hownx hXc hXl
          clear hX
          obtain ⟨XA2, xc2, rfl, hx1, hx2⟩ := hownx.form
          have hrdx := hownx.rd intEnc_ok
          have hJx := hJq.below hbx
          have hbqx := bthen hbq (Nat.le_refl _) hbx
          have hXl60 : X.length ≤ 60 := by omega
          have hup : upTo es q ≤ es.length := by unfold upTo; exact List.length_filter_le _ _
          have hHXat := hide hXat
          have hHXs := hide hXs
          have hHXc := hide hXc
          clear hXat hXs hXc
          go_wp2_with fail
          go_loopw [14] (fun iv wi => ∃ i : Nat, i ≤ X.length ∧ iv = .int .i64 i ∧ Below wx.heap.size wx wi) (fun iv _ => X.length - (intOf iv).toNat)
          case atStart => exact ⟨0, by omega, rfl, Below.refl _ _⟩
          case round =>
            obtain ⟨i, hi, rfl, hbi⟩ := hrel
            have hJi := hJx.below hbi
            by_cases hil : i < X.length
            · obtain ⟨j, hj, hXi, hent, hmem⟩ := hHXat.out i hil
              obtain ⟨xb, xoff, rfl, hxc⟩ := hrdx.2 (by omega)
              have cx : ∀ (z : Nat) (hz : z < X.length), wx.cell? ⟨xb, xoff + z, none⟩ = some (.int .i64 X[z]) := fun z hz => by have := hxc z 0 _ hz rfl; rwa [Nat.mul_one, Nat.add_zero] at this
              have hxbl : xb < wx.heap.size := World.block_lt_of_cell? _ _ (cx i hil)
              have cxi : wx.cell? ⟨xb, xoff + i, none⟩ = some (.int .i64 (j : Int)) := by rw [cx i hil, hXi]
              have ci := below_cell hbi hxbl cxi
              have i0' : (0 : Int) ≤ (i : Int) := by omega
              have i1' : (i : Int) < (X.length : Int) := by omega
              go_wp2_with fail
              refine (jat_ok hJi j hj).mono ?_
              rintro e wa ⟨PA, pc, rfl, hba⟩
              rw [hent]
              have hbia := bthen hbi (Nat.le_refl _) hba
              have hJa := (hJi.below hba).alloc (.cells #[.string es[j].ref, .int .i64 ((q : Int) + 1), .int .i64 es[j].per, .slice PA es[j].lines.length pc] 56)
              go_wp2_with fail
              refine (jof_any hJa (by omega) ((q : Int) + 1) es[j].per).mono ?_
              rintro e wy ⟨ry, rfl, howny, hby⟩
              have hPy := (EntAt.neu wa es[j].ref ((q : Int) + 1) es[j].per (.slice PA es[j].lines.length pc)).below hby
              have hbxy := bthen hbia (Nat.le_refl _) (bof_alloc hby)
              have hYl := ofTo_len es ((q : Int) + 1) es[j].per es.length
              obtain ⟨Y, hY⟩ : ∃ Y, Y = ofTo es ((q : Int) + 1) es[j].per es.length := ⟨_, rfl⟩
              rw [← hY] at howny hmem hYl
              clear hY
              obtain ⟨YA, yc, rfl, hy1, hy2⟩ := howny.form
              have hrdy := howny.rd intEnc_ok
              have hYl60 : Y.length ≤ 60 := by omega
              have cyi := below_cell hbxy hxbl cxi
              have hHmem := hide hmem
              clear hmem ci
              obtain ⟨p0, p1, p2, p3⟩ := hPy
              have hpl : wa.heap.size < wy.heap.size := World.block_lt_of_cell? _ _ p0
              have hxyl : xb < wy.heap.size := World.block_lt_of_cell? _ _ cyi
              go_wp2_with fail
              go_loopw [18, 19] (fun nv kv wk => ∃ z : Nat, z ≤ Y.length ∧ kv = .int .i64 z ∧ nv = .bool (memTo Y j z) ∧ Below wy.heap.size wy wk) (fun _ kv _ => Y.length - (intOf kv).toNat)
              case atStart => exact ⟨0, by omega, rfl, rfl, Below.refl _ _⟩
              case round =>
                obtain ⟨z, hz, rfl, rfl, hbk⟩ := hrel
                have ck := below_cell hbk hxyl cyi
                by_cases hzl : z < Y.length
                · obtain ⟨yb, yoff, rfl, hyc⟩ := hrdy.2 (by omega)
                  have cy : wy.cell? ⟨yb, yoff + z, none⟩ = some (.int .i64 Y[z]) := by have := hyc z 0 _ hzl rfl; rwa [Nat.mul_one, Nat.add_zero] at this
                  have ck2 := below_cell hbk (World.block_lt_of_cell? _ _ cy) cy
                  have z0' : (0 : Int) ≤ (z : Int) := by omega
                  have z1' : (z : Int) < (Y.length : Int) := by omega
                  have HM := hide (memTo_succ Y j z hzl)
                  cases hm : memTo Y j z with
                  | true =>
                    have HN : Hid (memTo Y j (z + 1) = true) := by show _ = _; rw [HM.out, hm]; rfl
                    clear hm
                    go_wp2_with fail
                    go_quiet (fail)
                    go_wp2_with fail
                    go_roundw
                    case rel => exact ⟨z + 1, by omega, by go_num, by rw [HN.out], bdrewN hbk _⟩
                    case measure => simp [intOf]; omega
                  | false =>
                    have HN : Hid (memTo Y j (z + 1) = (Y[z] == (j : Int))) := by show _ = _; rw [HM.out, hm]; rfl
                    clear hm
                    go_wp2_with fail
                    go_quiet (fail)
                    go_wp2_with fail
                    go_roundw
                    case rel => exact ⟨z + 1, by omega, by go_num, by rw [HN.out], bdrewN hbk _⟩
                    case measure => simp [intOf]; omega
                · have hzY : z = Y.length := by omega
                  subst hzY
                  rw [memTo_all hHmem.out]
                  have pk1 := below_cell hbk hpl p1
                  have hbek : ¬ ((q : Int) + 1 != (q : Int) + 1) = true := by simp
                  by_cases hi0 : i = 0
                  · subst hi0
                    go_wp2_with fail
                    go_quiet (fail)
                    go_wp2_with fail
                    go_roundw
                    case rel => exact ⟨0 + 1, by omega, by go_num, bdrewN (bthen hbxy (Nat.le_refl _) hbk) _⟩
                    case measure => simp [intOf]; omega
                  · obtain ⟨i', rfl⟩ : ∃ i', i = i' + 1 := ⟨i - 1, by omega⟩
                    have hlt' := hHXs.out i' hil
                    rw [hXi] at hlt'
                    have cp := below_cell (bthen hbxy (Nat.le_refl _) hbk) hxbl (cx i' (by omega))
                    have ii0 : (0 : Int) < ((i' + 1 : Nat) : Int) := by omega
                    have ii1 : (0 : Int) ≤ (i' : Int) := by omega
                    have ii2 : (i' : Int) < (X.length : Int) := by omega
                    have hle : ¬ ((j : Int) ≤ X[i']) := by omega
                    go_wp2_with fail
                    go_quiet (fail)
                    go_wp2_with fail
                    go_roundw
                    case rel => exact ⟨i' + 1 + 1, by omega, by go_num, bdrewN (bthen hbxy (Nat.le_refl _) hbk) _⟩
                    case measure => simp [intOf]; omega
            · have hix : i = X.length := by omega
              subst hix
              go_wp2_with fail
              go_roundw
              case rel => exact ⟨q + 1, by omega, by go_num, by rw [show ((q + 1 : Nat) : Int) = (q : Int) + 1 from by omega, hHXc.out]; go_num, bthen hbqx (Nat.le_refl _) hbi⟩
              case measure => simp [intOf]; omega
        · have hq12' : q = 12 := by omega
          subst hq12'
          have hup := upTo_all hHin.out
          have HU : Hid ((upTo es ((12 : Nat) : Int) : Int) = (es.length : Int)) := by show _ = _; rw [show ((12 : Nat) : Int) = 12 from rfl, hup]
          rw [HU.out]
          go_wp2_with fail
          refine (jlen_any hJq).mono ?_
          rintro e w8 ⟨rfl, rfl⟩
          go_wp2_with fail
          go_ret
          exact ⟨rfl, bthen hb7 (Nat.le_refl _) hbq⟩
end Go.Proofs.YthmjkhlndphldaaDoor
