/- group.Parts: what it returns. -/
import Derived.Test.YtggmbjdonlbfkaaGreatDoorBesafterGrpB
import Derived.Test.YtggmbjdonlbfkaaGreatDoorBesafterLedY
import Derived.BigQuiet
namespace Go.Proofs.YtggmbjdonlbfkaaGreatDoorBesafter
open Go Go.RowKit
set_option linter.unusedVariables false

theorem holdsE_ok {l : List Hold} (h : holdsE l = 0) : l.length ≤ 20 ∧ firstE (holdE l) l.length = 0 ∧ firstE (sumHE l) l.length = 0 ∧ orderF l ≠ [] := by
  unfold holdsE at h
  split at h
  · cases h
  · split at h
    · rename_i h1 h2; exact absurd h h2
    · split at h
      · rename_i h1 h2 h3; exact absurd h h3
      · split at h
        · cases h
        · rename_i h1 h2 h3 h4
          exact ⟨by omega, by simpa using h2, by simpa using h3, h4⟩
theorem partsTo_top {l : List Hold} {top : Int} {ord : List Int} {k : Nat} (hk : k < ord.length) (h : ord[k] = top) : partsTo l top ord (k + 1) = (partsTo l top ord k).set (top - 1).toNat 1000 := by
  rw [partsTo, List.getElem?_eq_getElem hk]
  show (partsTo l top ord k).set (ord[k] - 1).toNat (if ord[k] = top then 1000 else _) = _
  rw [if_pos h, h]
theorem partsTo_sum {l : List Hold} {top : Int} {ord : List Int} {k : Nat} (hk : k < ord.length) (h : ord[k] ≠ top) : partsTo l top ord (k + 1) = (partsTo l top ord k).set (ord[k] - 1).toNat ((sumP l (partsTo l top ord k) ord[k] l.length).tdiv 1000) := by
  rw [partsTo, List.getElem?_eq_getElem hk]
  show (partsTo l top ord k).set (ord[k] - 1).toNat (if ord[k] = top then 1000 else _) = _
  rw [if_neg h]
theorem sumP_low {l : List Hold} (h : firstE (holdE l) l.length = 0) (h2 : firstE (sumHE l) l.length = 0) {o : List Int} (ho : ∀ i, 0 ≤ o.getD i 0 ∧ o.getD i 0 ≤ 1000) (e : Int) (k : Nat) (hk : k ≤ l.length) : 0 ≤ sumP l o e k ∧ sumP l o e k ≤ 1000000 := by
  have h3 := sumP_le h h2 ho e k hk
  have h4 := had_le h2 e k hk
  omega

set_option maxHeartbeats 4000000 in
set_option maxRecDepth 100000 in
theorem gparts_any (l : List Hold) (A : Option Addr) (n cap : Nat) (top : Int) (w : World) (hl : n ≤ cap) (hcap : cap ≤ maxLen) (ha : Rd w 3 Hold.enc A n l) :
    Calls Tryz.prog 4 #[.slice A n cap, .int .i64 top] w fun e w' => Below w.heap.size w w' ∧
      ((holdsE l = 0 ∧ (1 ≤ top ∧ top ≤ 12) ∧ ∃ g, e = .returned (.tuple #[.slice (some ⟨g, 0, none⟩) 12 12, .nilIface]) ∧ Own w' w.heap.size 3 1 intEnc2 (.slice (some ⟨g, 0, none⟩) 12 12) (partsF l top)) ∨
        (¬ (holdsE l = 0 ∧ (1 ≤ top ∧ top ≤ 12)) ∧ ∃ z, e = .returned (.tuple #[.slice none 0 0, .iface 41 (.int .i64 z)]))) := by
  obtain ⟨i0, hi0, hz0, hz1, hz2⟩ := info_parts int_info2
  have Hn := hide ha.1
  by_cases he : holdsE l = 0
  case neg =>
    have HE := hide he
    have HV := hide (errV_n he)
    clear he
    go_enter Tryz.func4, Tryz.ntmps4
    go_wp2_with fail
    refine (gcheck_any l A n cap _ hl hcap ha).mono ?_
    rintro e w1 ⟨rfl, hb1⟩
    rw [HV.out]
    go_wp2_with fail
    go_ret2
    exact ⟨hb1, .inr ⟨fun h => HE.out h.1, _, rfl⟩⟩
  case pos =>
  have HV := hide (errV_0 he)
  have HE := hide he
  obtain ⟨h20, h1, h2, h3⟩ := holdsE_ok he
  have H1 := hide h1
  have H2 := hide h2
  have H3 := hide h3
  have hn20 : n ≤ 20 := by have := Hn.out; omega
  clear he h1 h2 h3 h20
  cases ht : inB 1 12 top with
  | false =>
    have HT := hide ht
    have HT2 : Hid (¬ (1 ≤ top ∧ top ≤ 12)) := by
      show ¬ _
      simp [inB] at ht
      omega
    clear ht
    go_enter Tryz.func4, Tryz.ntmps4
    go_wp2_with fail
    refine (gcheck_any l A n cap _ hl hcap ha).mono ?_
    rintro e w1 ⟨rfl, hb1⟩
    rw [HV.out]
    go_wp2_with fail
    refine (entity_any top _).mono ?_
    rintro e w2 ⟨rfl, rfl⟩
    rw [HT.out]
    go_wp2_with fail
    go_ret2
    exact ⟨hb1, .inr ⟨fun h => HT2.out h.2, _, rfl⟩⟩
  | true =>
    have HT := hide ht
    have HT2 : Hid (1 ≤ top ∧ top ≤ 12) := by
      show _ ∧ _
      simp [inB] at ht
      omega
    clear ht
    have hmk : ∀ W : World, (Instr.makeSlice 25 (.int .i64 12) (.int .i64 12)).run Tryz.prog W = .ok (.slice (some ⟨W.heap.size, 0, none⟩) 12 12) (W.alloc (.cells (Array.replicate 12 (.int .i64 0)) 3)) := fun W => by
      have h := run_mk 25 3 i0 (.int .i64 0) Tryz.underlying25 hi0 hz0 12 (by rw [hz2]; omega) (by omega) W
      simp only [hz1, Nat.mul_one, show (Value.int .i64 0).cells = #[.int .i64 0] from rfl, madeCells_one] at h
      exact h
    go_enter Tryz.func4, Tryz.ntmps4
    go_wp2_with fail
    refine (gcheck_any l A n cap _ hl hcap ha).mono ?_
    rintro e w1 ⟨rfl, hb1⟩
    rw [HV.out]
    go_wp2_with fail
    refine (entity_any top _).mono ?_
    rintro e w2 ⟨rfl, rfl⟩
    rw [HT.out]
    go_wp2_with fail
    have hW0 := own_zeros w1 12 (by unfold maxLen; omega)
    have hb0 : Below w.heap.size w (w1.alloc (.cells (Array.replicate 12 (.int .i64 0)) 3)) := hb1.alloc hb1.size _
    have hA0 : Below w1.heap.size w1 (w1.alloc (.cells (Array.replicate 12 (.int .i64 0)) 3)) := (Below.refl _ _).alloc (Nat.le_refl _) _
    obtain ⟨g, hg⟩ : ∃ g, g = w1.heap.size := ⟨_, rfl⟩
    have HG : Hid (w.heap.size ≤ g) := by show _ ≤ _; rw [hg]; exact hb1.size
    have hg1 : g < (w1.alloc (.cells (Array.replicate 12 (.int .i64 0)) 3)).heap.size := by rw [hg]; simp
    rw [← hg] at hW0 ⊢
    generalize w1.alloc (.cells (Array.replicate 12 (.int .i64 0)) 3) = W0 at hW0 hb0 hA0 hg1 ⊢
    clear hg hA0
    refine (order_any l A n cap W0 (by omega) (Rd.below ha hb0)).mono ?_
    rintro e w3 ⟨hb3, ⟨h5, rfl⟩ | ⟨h5, OA, oc, rfl, hownO⟩⟩
    · exact absurd h5 H3.out
    · obtain ⟨hO12, hOl⟩ := order_ord l
      have hlen : (orderF l).length = 12 := by have := hO12.len; have := hOl.resolve_left h5; omega
      have hw3 := bthen hb0 (Nat.le_refl _) hb3
      have hown := hW0.below hb3
      have hp0 : partsTo l top (orderF l) 0 = List.replicate 12 0 := rfl
      have HPF : Hid (partsF l top = partsTo l top (orderF l) 12) := by show _ = _; unfold partsF; rw [hlen]
      obtain ⟨ord, hord⟩ : ∃ ord, ord = orderF l := ⟨_, rfl⟩
      rw [← hord] at hownO hO12 hlen hp0 HPF
      have hON : ∀ q, (Value.slice OA 12 oc).ownBlock = some q → q ≠ g := fun q e => by have := (hownO.block q e).1; omega
      rw [← hp0] at hown
      have HO12 := hide hO12
      have HLEN := hide hlen
      have HON := hide hON
      clear hord h5 hOl hb1 hb0 hb3 hW0 hp0 hO12 hlen hON
      go_wp2_with fail
      go_loopw [26] (fun iv wr => ∃ k : Nat, k ≤ 12 ∧ iv = .int .i64 k ∧ Own wr g 3 1 intEnc2 (.slice (some ⟨g, 0, none⟩) 12 12) (partsTo l top ord k) ∧ Own wr W0.heap.size 3 1 intEnc2 (.slice OA 12 oc) ord ∧ Below w.heap.size w wr) (fun iv _ => 12 - (intOf iv).toNat)
      case atStart => exact ⟨0, by omega, rfl, hown, hownO, hw3⟩
      case round =>
        clear hown hownO hw3
        obtain ⟨k, hk, rfl, hown, hownO, hbr⟩ := hrel
        obtain ⟨wo, hwo⟩ : ∃ wo, wo = wr := ⟨_, rfl⟩
        subst hwo
        have hpl : (partsTo l top ord k).length = 12 := (parts_rng H1.out H2.out top ord k).1
        have hpr := (parts_rng H1.out H2.out top ord k).2
        by_cases hlt : k < 12
        · have hko : k < ord.length := by have := HLEN.out; omega
          have her := HO12.out.rng _ (List.getElem_mem hko)
          obtain ⟨ob, oo, hOA, hcs⟩ := (hownO.rd intEnc2_ok).2 (by omega)
          have q0 := hcs k 0 _ hko rfl
          simp only [Nat.mul_one, Nat.add_zero] at q0
          clear hcs
          have HTOP := hide (fun (h : ord[k] = top) => partsTo_top (l := l) hko h)
          have HSUM := hide (fun (h : ord[k] ≠ top) => partsTo_sum (l := l) hko h)
          obtain ⟨e0, he0⟩ : ∃ e0, e0 = ord[k] := ⟨_, rfl⟩
          rw [← he0] at q0 her HTOP HSUM
          clear he0
          obtain ⟨m, hm⟩ : ∃ m : Nat, e0 = (m : Int) + 1 := ⟨(e0 - 1).toNat, by omega⟩
          subst hm
          have hm12 : m < 12 := by omega
          have m0 : (0 : Int) ≤ (m : Int) := by omega
          have m1 : (m : Int) < 12 := by omega
          have k0 : (0 : Int) ≤ (k : Int) := by omega
          have k1 : (k : Int) < 12 := by omega
          have hmn : ((m : Int) + 1 - 1).toNat = m := by omega
          rw [hmn] at HSUM
          have hml : m < (partsTo l top ord k).length := by omega
          obtain ⟨c0, f0⟩ := hown.cells intEnc2_ok m 0 _ hml rfl
          simp only [Nat.mul_one, Nat.add_zero] at c0 f0
          obtain ⟨cur, hcur⟩ : ∃ cur, cur = partsTo l top ord k := ⟨_, rfl⟩
          have HNEXT : Hid (∀ (W : World) (v : Int) (j : Nat), j = m → Own W g 3 1 intEnc2 (.slice (some ⟨g, 0, none⟩) 12 12) cur → Own W W0.heap.size 3 1 intEnc2 (.slice OA 12 oc) ord → Below w.heap.size w W → partsTo l top ord (k + 1) = cur.set m v →
              Own (W.setCell ⟨g, j, none⟩ (.int .i64 v)) g 3 1 intEnc2 (.slice (some ⟨g, 0, none⟩) 12 12) (partsTo l top ord (k + 1)) ∧ Own (W.setCell ⟨g, j, none⟩ (.int .i64 v)) W0.heap.size 3 1 intEnc2 (.slice OA 12 oc) ord ∧ Below w.heap.size w (W.setCell ⟨g, j, none⟩ (.int .i64 v))) := by
            rintro W v j rfl h1 h2 h3 h4
            rw [h4]
            have hst := Own.store intEnc2_ok h1 j 0 v (.int .i64 v) (by rw [hcur]; exact hml) (by omega) rfl
            simp only [Nat.mul_one, Nat.add_zero] at hst
            exact ⟨hst, h2.grown (only_setCell (only_refl W (some g)) j _) (.inr fun e => HON.out g e rfl), h3.setCell HG.out _⟩
          have hpr0 := hpr
          rw [← hcur] at hown hpl hpr HSUM
          have HCUR := hide hcur
          clear hcur hpr0
          by_cases het : (m : Int) + 1 = top
          · have HT3 := hide (HTOP.out het)
            subst het
            rw [hmn] at HT3
            subst hOA
            go_wp2_with fail
            go_roundw
            case rel =>
              obtain ⟨a1, a2, a3⟩ := HNEXT.out wo 1000 m rfl hown hownO hbr (by rw [HT3.out, ← HCUR.out])
              exact ⟨k + 1, by omega, by go_num, a1, a2, a3⟩
            case measure => simp [intOf]; omega
          · have HS3 := hide (HSUM.out het)
            have hetb : (((m : Int) + 1) == top) = false := by rw [beq_eq_false_iff_ne]; exact het
            clear het
            clear HTOP HSUM
            have h1f := H1.out
            have h2f := H2.out
            have HSB := hide (fun j (hj : j ≤ l.length) => sumP_low h1f h2f hpr ((m : Int) + 1) j hj)
            have HSS := hide (fun j (hj : j < l.length) => sumP_step hj cur ((m : Int) + 1))
            have HPT := hide (fun j (hj : j < l.length) => hold_part h1f hj)
            have HPR := hide hpr
            clear h1f h2f hpr
            obtain ⟨S, hS⟩ : ∃ S : Nat → Int, S = sumP l cur ((m : Int) + 1) := ⟨_, rfl⟩
            have hS0 : S 0 = 0 := by rw [hS]; simp [sumP]
            rw [← hS] at HSB HSS HS3
            clear hS
            subst hOA
            go_wp2_with fail
            clear hmn hml her q0 c0 f0 hko hmk
            go_loopw [10, 39] (fun sv jv wi => ∃ j : Nat, j ≤ n ∧ jv = .int .i64 j ∧ sv = .int .i64 (S j) ∧ Below wo.heap.size wo wi) (fun _ jv _ => n - (intOf jv).toNat)
            case atStart => exact ⟨0, by omega, rfl, by rw [hS0], Below.refl _ _⟩
            case round =>
              clear hS0
              obtain ⟨j, hj, rfl, rfl, hbi⟩ := hrel
              obtain ⟨wj, hwj⟩ : ∃ wj, wj = wr := ⟨_, rfl⟩
              subst hwj
              by_cases hjn : j < n
              · have hjl : j < l.length := by have := Hn.out; omega
                obtain ⟨b, off, rfl, hcs⟩ := (Rd.below (Rd.below ha hbr) hbi).2 (by omega)
                have p0 := hcs j 0 _ hjl rfl
                have p1 := hcs j 1 _ hjl rfl
                have p2 := hcs j 2 _ hjl rfl
                rw [Nat.add_zero] at p0
                clear hcs
                have j0 : (0 : Int) ≤ (j : Int) := by omega
                have j1 : (j : Int) < (n : Int) := by omega
                have hpt := HPT.out j hjl
                have hss := HSS.out j hjl
                obtain ⟨x, hx⟩ : ∃ x, x = l[j] := ⟨_, rfl⟩
                rw [← hx] at p0 p1 p2 hpt hss
                clear hx
                obtain ⟨xe, xw, xp⟩ := x
                simp only at hpt hss
                obtain ⟨i, hi⟩ : ∃ i : Nat, xe = (i : Int) + 1 := ⟨(xe - 1).toNat, by omega⟩
                subst hi
                have hi12 : i < 12 := by omega
                have i0 : (0 : Int) ≤ (i : Int) := by omega
                have i1 : (i : Int) < 12 := by omega
                have hp1 : 1 ≤ xp := hpt.2.2.1
                have hp2 : xp ≤ 1000 := hpt.2.2.2
                clear hpt
                rw [show ((i : Int) + 1 - 1).toNat = i by omega] at hss
                have hcv := HPR.out i
                have hil : i < cur.length := by omega
                obtain ⟨v0, _⟩ := (hown.below hbi).cells intEnc2_ok i 0 _ hil rfl
                simp only [Nat.mul_one, Nat.add_zero] at v0
                have hgd : cur.getD i 0 = cur[i] := by rw [List.getD_eq_getElem?_getD, List.getElem?_eq_getElem hil]; rfl
                rw [hgd] at hcv hss
                obtain ⟨cv, hcvE⟩ : ∃ cv, cv = cur[i] := ⟨_, rfl⟩
                rw [← hcvE] at v0 hcv hss
                clear hcvE hgd
                obtain ⟨P, hP⟩ : ∃ P, P = cv * xp := ⟨_, rfl⟩
                have hPb : 0 ≤ P ∧ P ≤ 1000000 := by
                  rw [hP]
                  have q1 := Int.mul_nonneg hcv.1 (show 0 ≤ xp by omega)
                  have q2 : cv * xp ≤ 1000 * 1000 := Int.mul_le_mul hcv.2 hp2 (by omega) (by omega)
                  omega
                rw [← hP] at hss
                have hsb := HSB.out j (by omega)
                obtain ⟨sv, hsv⟩ : ∃ sv, sv = S j := ⟨_, rfl⟩
                rw [← hsv] at hsb hss
                have hbx : Below wj.heap.size wj (wj.alloc (.cells #[.int .i64 ((i : Int) + 1), .int .i64 xw, .int .i64 xp] 31)) := (Below.refl _ _).alloc (Nat.le_refl _) _
                have hX := HoldAt.new wj ⟨(i : Int) + 1, xw, xp⟩
                have hB := bthen hbi (Nat.le_refl _) hbx
                have v1 := below_cell hbx (World.block_lt_of_cell? _ _ v0) v0
                go_upto_region 16 with fail
                rw [← hsv]
                obtain ⟨gx, hgx⟩ : ∃ gx, gx = wj.heap.size := ⟨_, rfl⟩
                generalize wj.alloc (.cells #[.int .i64 ((i : Int) + 1), .int .i64 xw, .int .i64 xp] 31) = W1 at hX hB v1 ⊢
                rw [← hgx] at hX ⊢
                clear hgx p0 p1 p2 hbx hbi v0
                obtain ⟨d0, d1, d2⟩ := hX
                simp only at d0 d1 d2
                have HSV := hide hsv
                have HSSh := hide hss
                clear hsv hss
                cases hwe : (xw == (m : Int) + 1) with
                | false =>
                  have HNX : Hid (S (j + 1) = sv) := by show _ = _; rw [HSSh.out, if_neg (by simpa using hwe), Int.add_zero]
                  go_wp2_with fail
                  go_roundw
                  case rel => exact ⟨j + 1, by omega, by go_num, by rw [HNX.out], hB⟩
                  case measure => simp [intOf]; omega
                | true =>
                  have HNX : Hid (S (j + 1) = sv + P) := by show _ = _; rw [HSSh.out, if_pos (by simpa using hwe)]
                  have HPE := hide hP
                  have hs0 : 0 ≤ sv := hsb.1
                  have hs1 : sv ≤ 1000000 := hsb.2
                  clear hsb
                  go_wp2_with fail
                  go_quiet (fail)
                  go_wp2_with fail
                  go_roundw
                  case rel => exact ⟨j + 1, by omega, by go_num, by rw [HNX.out, HPE.out], bdrewN hB nq⟩
                  case measure => simp [intOf]; omega
              · have hje : j = l.length := by have := Hn.out; omega
                have hmlc : m < cur.length := by omega
                have hown2 := hown.below hbi
                obtain ⟨c0, f0⟩ := hown2.cells intEnc2_ok m 0 _ hmlc rfl
                simp only [Nat.mul_one, Nat.add_zero] at c0 f0
                have hsb := HSB.out j (by omega)
                have HSE : Hid (S j = S l.length) := by show _ = _; rw [hje]
                clear hje
                generalize cur[m] = cm at c0
                clear hmlc
                obtain ⟨sv, hsv⟩ : ∃ sv, sv = S j := ⟨_, rfl⟩
                rw [← hsv] at hsb HSE ⊢
                have hs0 : 0 ≤ sv := hsb.1
                have hs1 : sv ≤ 1000000 := hsb.2
                clear hsv hsb
                go_wp2_with fail
                go_roundw
                case rel =>
                  obtain ⟨a1, a2, a3⟩ := HNEXT.out wj (sv / 1000) m rfl hown2 (hownO.below hbi) (bthen hbr (Nat.le_refl _) hbi) (by rw [HS3.out, ← HSE.out, Int.tdiv_eq_ediv_of_nonneg hs0])
                  exact ⟨k + 1, by omega, by go_num, a1, a2, a3⟩
                case measure => simp [intOf]; omega
        · have hk12 : k = 12 := by omega
          subst hk12
          go_wp2_with fail
          go_ret2
          exact ⟨hbr, .inl ⟨HE.out, HT2.out, g, rfl, by rw [HPF.out]; exact Own.wider hown HG.out⟩⟩
end Go.Proofs.YtggmbjdonlbfkaaGreatDoorBesafter
