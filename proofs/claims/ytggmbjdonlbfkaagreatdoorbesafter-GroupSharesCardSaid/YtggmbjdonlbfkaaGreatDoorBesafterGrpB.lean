/- group.Check: what it returns. -/
import Derived.Test.YtggmbjdonlbfkaaGreatDoorBesafterGrpY
import Derived.BigRegion
import Derived.Deep.CutRange
namespace Go.Proofs.YtggmbjdonlbfkaaGreatDoorBesafter
open Go Go.RowKit
set_option linter.unusedVariables false

/-- a holding in a box -/
structure HoldAt (W : World) (g : Nat) (x : Hold) : Prop where
  c0 : W.cell? ⟨g, 0, none⟩ = some (.int .i64 x.ent)
  c1 : W.cell? ⟨g, 1, none⟩ = some (.int .i64 x.wh)
  c2 : W.cell? ⟨g, 2, none⟩ = some (.int .i64 x.part)
theorem HoldAt.new (W : World) (x : Hold) : HoldAt (W.alloc (.cells #[.int .i64 x.ent, .int .i64 x.wh, .int .i64 x.part] 31)) W.heap.size x := ⟨by simp, by simp, by simp⟩

section
variable {l : List Hold} {k : Nat}
theorem holdsE_full (h : 20 < l.length) : holdsE l = 4 := if_pos h
theorem holdsE_1 (h : ¬ 20 < l.length) (hto : firstE (holdE l) k = 0) (hk : k < l.length) {e : Int} (he : holdE l k = e) (h0 : e ≠ 0) : holdsE l = e := by
  have h1 := firstE_hit hto hk (by rw [he]; exact h0)
  rw [holdsE, if_neg h, if_pos (by rw [h1, he]; exact h0), h1, he]
theorem holdsE_2 (h : ¬ 20 < l.length) (h1 : firstE (holdE l) l.length = 0) (hto : firstE (sumHE l) k = 0) (hk : k < l.length) (he : sumHE l k = 11) : holdsE l = 11 := by
  have h2 := firstE_hit hto hk (by rw [he]; decide)
  rw [holdsE, if_neg h, if_neg (by simpa using h1), if_pos (by rw [h2, he]; decide), h2, he]
theorem holdsE_3 (h : ¬ 20 < l.length) (h1 : firstE (holdE l) l.length = 0) (h2 : firstE (sumHE l) l.length = 0) (h3 : orderF l = []) : holdsE l = 5 := by
  rw [holdsE, if_neg h, if_neg (by simpa using h1), if_neg (by simpa using h2), if_pos h3]
theorem holdsE_4 (h : ¬ 20 < l.length) (h1 : firstE (holdE l) l.length = 0) (h2 : firstE (sumHE l) l.length = 0) (h3 : orderF l ≠ []) : holdsE l = 0 := by
  rw [holdsE, if_neg h, if_neg (by simpa using h1), if_neg (by simpa using h2), if_neg h3]
theorem holdE_bad (hk : k < l.length) (h : inB 1 12 l[k].ent = false ∨ inB 1 12 l[k].wh = false ∨ l[k].part < 1 ∨ 1000 < l[k].part) : holdE l k = 1 := by
  unfold holdE
  rw [List.getElem?_eq_getElem hk]
  exact if_pos h
theorem holdE_two (hk : k < l.length) (h : ¬ (inB 1 12 l[k].ent = false ∨ inB 1 12 l[k].wh = false ∨ l[k].part < 1 ∨ 1000 < l[k].part)) (h2 : l[k].ent = l[k].wh ∨ (l.take k).any (sameH l[k]) = true) : holdE l k = 8 := by
  unfold holdE
  rw [List.getElem?_eq_getElem hk]
  show (if _ then _ else _) = _
  rw [if_neg h, if_pos h2]
theorem holdE_ok (hk : k < l.length) (h : ¬ (inB 1 12 l[k].ent = false ∨ inB 1 12 l[k].wh = false ∨ l[k].part < 1 ∨ 1000 < l[k].part)) (h2 : ¬ (l[k].ent = l[k].wh ∨ (l.take k).any (sameH l[k]) = true)) : holdE l k = 0 := by
  unfold holdE
  rw [List.getElem?_eq_getElem hk]
  show (if _ then _ else _) = _
  rw [if_neg h, if_neg h2]
theorem sumHE_at (hk : k < l.length) : sumHE l k = if 1000 < hadTo l l[k].wh k + l[k].part then 11 else 0 := by
  unfold sumHE
  rw [List.getElem?_eq_getElem hk]
  show (if 1000 < hadTo l l[k].wh (k + 1) then (11 : Int) else 0) = _
  rw [had_step hk, if_pos rfl]
theorem had_low (h1 : firstE (holdE l) l.length = 0) (e : Int) : ∀ k, k ≤ l.length → 0 ≤ hadTo l e k ∧ hadTo l e k ≤ 1000 * (k : Int)
  | 0, _ => by simp [hadTo]
  | k + 1, hk => by
    have ih := had_low h1 e k (by omega)
    have hp := hold_part h1 (k := k) (by omega)
    rw [had_step (by omega)]
    split <;> omega
end

set_option maxHeartbeats 4000000 in
set_option maxRecDepth 100000 in
theorem gcheck_any (l : List Hold) (A : Option Addr) (n cap : Nat) (w : World) (hl : n ≤ cap) (hcap : cap ≤ maxLen) (ha : Rd w 3 Hold.enc A n l) :
    Calls Tryz.prog 8 #[.slice A n cap] w fun e w' => e = .returned (errV (holdsE l)) ∧ Below w.heap.size w w' := by
  unfold maxLen at hcap
  have hn := ha.1
  have Hn := hide hn
  by_cases h20 : 20 < n
  · have h20i : (20 : Int) < (n : Int) := by omega
    have HF := hide (holdsE_full (l := l) (by rw [Hn.out]; exact h20))
    clear h20
    go_enter Tryz.func8, Tryz.ntmps8
    go_wp2_with fail
    go_ret
    exact ⟨by rw [HF.out]; rfl, Below.refl _ _⟩
  · have h20i : ¬ (20 : Int) < (n : Int) := by omega
    have hn20 : n ≤ 20 := by omega
    have H20 : Hid (¬ 20 < l.length) := by show ¬ _; rw [Hn.out]; exact h20
    clear h20 hn
    go_enter Tryz.func8, Tryz.ntmps8
    go_wp2_with fail
    go_loopw [14] (fun iv wr => ∃ k : Nat, k ≤ n ∧ iv = .int .i64 k ∧ Hid (firstE (holdE l) k = 0) ∧ Below w.heap.size w wr) (fun iv _ => n - (intOf iv).toNat)
    case atStart => exact ⟨0, by omega, rfl, rfl, Below.refl _ _⟩
    case round =>
      obtain ⟨k, hk, rfl, HTo, hbr⟩ := hrel
      obtain ⟨wo, hwo⟩ : ∃ wo, wo = wr := ⟨_, rfl⟩
      subst hwo
      by_cases hlt : k < n
      · have hkl : k < l.length := by have := Hn.out; omega
        have hrd := Rd.below ha hbr
        obtain ⟨b, off, rfl, hcs⟩ := hrd.2 (by omega)
        have q0 := hcs k 0 _ hkl rfl
        have q1 := hcs k 1 _ hkl rfl
        have q2 := hcs k 2 _ hkl rfl
        rw [Nat.add_zero] at q0
        clear hcs
        have k0 : (0 : Int) ≤ (k : Int) := by omega
        have k1 : (k : Int) < (n : Int) := by omega
        have k2 : (k : Int) ≤ (cap : Int) := by omega
        have hsz := hbr.size
        obtain ⟨x, hx⟩ : ∃ x, x = l[k] := ⟨_, rfl⟩
        rw [← hx] at q0 q1 q2
        have HX := hide hx
        clear hx
        have hbx : Below wo.heap.size wo (wo.alloc (.cells #[.int .i64 x.ent, .int .i64 x.wh, .int .i64 x.part] 31)) := (Below.refl _ _).alloc (Nat.le_refl _) _
        have hX := HoldAt.new wo x
        have hB := bthen hbr (Nat.le_refl _) hbx
        have hT := (hrd.take (k := k) (by omega)).below hbx
        have hTl : k ≤ 9223372036854775807 := by omega
        go_upto_region 6 with fail
        generalize wo.alloc (.cells #[.int .i64 x.ent, .int .i64 x.wh, .int .i64 x.part] 31) = W1 at hX hB hT ⊢
        obtain ⟨d0, d1, d2⟩ := hX
        clear q0 q1 q2 hbx hrd hbr hsz
        have HBAD : Hid (inB 1 12 x.ent = false ∨ inB 1 12 x.wh = false ∨ x.part < 1 ∨ 1000 < x.part → holdsE l = 1) := by
          show _ → _
          rw [HX.out]
          intro h
          exact holdsE_1 H20.out HTo.out hkl (holdE_bad hkl h) (by decide)
        cases a1 : inB 1 12 x.ent with
        | false =>
          have HA := hide a1
          have HF := hide (HBAD.out (.inl a1))
          clear a1
          go_wp2_with fail
          refine (entity_any x.ent _).mono ?_
          rintro e w2 ⟨rfl, rfl⟩
          rw [HA.out]
          go_wp2_with fail
          go_ret
          exact ⟨by rw [HF.out]; rfl, hB⟩
        | true =>
          have HA := hide a1
          clear a1
          cases a2 : inB 1 12 x.wh with
          | false =>
            have HA2 := hide a2
            have HF := hide (HBAD.out (.inr (.inl a2)))
            clear a2
            go_wp2_with fail
            refine (entity_any x.ent _).mono ?_
            rintro e w2 ⟨rfl, rfl⟩
            rw [HA.out]
            go_wp2_with fail
            refine (entity_any x.wh _).mono ?_
            rintro e w2 ⟨rfl, rfl⟩
            rw [HA2.out]
            go_wp2_with fail
            go_ret
            exact ⟨by rw [HF.out]; rfl, hB⟩
          | true =>
            have HA2 := hide a2
            clear a2
            by_cases p1 : x.part < 1
            · have HF := hide (HBAD.out (.inr (.inr (.inl p1))))
              go_wp2_with fail
              refine (entity_any x.ent _).mono ?_
              rintro e w2 ⟨rfl, rfl⟩
              rw [HA.out]
              go_wp2_with fail
              refine (entity_any x.wh _).mono ?_
              rintro e w2 ⟨rfl, rfl⟩
              rw [HA2.out]
              go_wp2_with fail
              go_ret
              exact ⟨by rw [HF.out]; rfl, hB⟩
            · by_cases p2 : 1000 < x.part
              · have HF := hide (HBAD.out (.inr (.inr (.inr p2))))
                go_wp2_with fail
                refine (entity_any x.ent _).mono ?_
                rintro e w2 ⟨rfl, rfl⟩
                rw [HA.out]
                go_wp2_with fail
                refine (entity_any x.wh _).mono ?_
                rintro e w2 ⟨rfl, rfl⟩
                rw [HA2.out]
                go_wp2_with fail
                go_ret
                exact ⟨by rw [HF.out]; rfl, hB⟩
              · have HGOOD : Hid (¬ (inB 1 12 l[k].ent = false ∨ inB 1 12 l[k].wh = false ∨ l[k].part < 1 ∨ 1000 < l[k].part)) := by
                  show ¬ _
                  rw [← HX.out, HA.out, HA2.out]
                  rintro (h | h | h | h)
                  · cases h
                  · cases h
                  · exact p1 h
                  · exact p2 h
                cases e1 : (x.ent == x.wh) with
                | true =>
                  have HF : Hid (holdsE l = 8) := holdsE_1 H20.out HTo.out hkl (holdE_two hkl HGOOD.out (.inl (by rw [← HX.out]; simpa using e1))) (by decide)
                  go_wp2_with fail
                  refine (entity_any x.ent _).mono ?_
                  rintro e w2 ⟨rfl, rfl⟩
                  rw [HA.out]
                  go_wp2_with fail
                  refine (entity_any x.wh _).mono ?_
                  rintro e w2 ⟨rfl, rfl⟩
                  rw [HA2.out]
                  go_wp2_with fail
                  go_ret
                  exact ⟨by rw [HF.out]; rfl, hB⟩
                | false =>
                  have HE1 : Hid (¬ l[k].ent = l[k].wh) := by show ¬ _; rw [← HX.out]; simpa using e1
                  have HC := hide (contains_same (l.take k) x wo.heap.size (some ⟨b, off, none⟩) k cap W1 hTl hT d0 d1)
                  cases hs : (l.take k).any (sameH x) with
                  | true =>
                    have HF : Hid (holdsE l = 8) := holdsE_1 H20.out HTo.out hkl (holdE_two hkl HGOOD.out (.inr (by rw [← HX.out]; exact hs))) (by decide)
                    have HS := hide hs
                    clear hs
                    go_wp2_with fail
                    refine (entity_any x.ent _).mono ?_
                    rintro e w2 ⟨rfl, rfl⟩
                    rw [HA.out]
                    go_wp2_with fail
                    refine (entity_any x.wh _).mono ?_
                    rintro e w2 ⟨rfl, rfl⟩
                    rw [HA2.out]
                    go_wp2_with fail
                    refine HC.out.mono ?_
                    rintro e w2 ⟨rfl, hb2⟩
                    rw [HS.out]
                    go_wp2_with fail
                    go_ret
                    exact ⟨by rw [HF.out]; rfl, bthen hB (Nat.le_refl _) hb2⟩
                  | false =>
                    have HF : Hid (holdE l k = 0) := holdE_ok hkl HGOOD.out (by
                      rintro (h | h)
                      · exact HE1.out h
                      · rw [← HX.out, hs] at h; cases h)
                    have HS := hide hs
                    clear hs
                    go_wp2_with fail
                    refine (entity_any x.ent _).mono ?_
                    rintro e w2 ⟨rfl, rfl⟩
                    rw [HA.out]
                    go_wp2_with fail
                    refine (entity_any x.wh _).mono ?_
                    rintro e w2 ⟨rfl, rfl⟩
                    rw [HA2.out]
                    go_wp2_with fail
                    refine HC.out.mono ?_
                    rintro e w2 ⟨rfl, hb2⟩
                    rw [HS.out]
                    go_wp2_with fail
                    go_roundw
                    case rel => exact ⟨k + 1, by omega, by go_num, by show _ = _; rw [firstE_succ HTo.out]; exact HF.out, bthen hB (Nat.le_refl _) hb2⟩
                    case measure => simp [intOf]; omega
      · have hkn : k = n := by omega
        have H1 : Hid (firstE (holdE l) l.length = 0) := by show _ = _; rw [Hn.out, ← hkn]; exact HTo.out
        clear hkn HTo
        have hsw := hbr.size
        have hV0 : VRow (wo.alloc (.cells (Array.replicate 13 (.int .i64 0)) 56)) wo.heap.size 56 13 (fun j => .int .i64 (hadTo l (j : Int) 0)) := (VRow.made wo 56 13 (.int .i64 0)).congr (fun j _ => by simp [hadTo])
        have hB0 : Below w.heap.size w (wo.alloc (.cells (Array.replicate 13 (.int .i64 0)) 56)) := bthen hbr (Nat.le_refl _) ((Below.refl _ _).alloc (Nat.le_refl _) _)
        obtain ⟨gh, hgh⟩ : ∃ gh, gh = wo.heap.size := ⟨_, rfl⟩
        have HGH : Hid (w.heap.size ≤ gh) := by show _ ≤ _; omega
        have hrep : Array.replicate 13 (Value.int .i64 0) = #[.int .i64 0, .int .i64 0, .int .i64 0, .int .i64 0, .int .i64 0, .int .i64 0, .int .i64 0, .int .i64 0, .int .i64 0, .int .i64 0, .int .i64 0, .int .i64 0, .int .i64 0] := rfl
        rw [hrep] at hV0 hB0
        rw [← hgh] at hV0
        go_wp2_with fail
        rw [← hgh]
        generalize wo.alloc (.cells #[.int .i64 0, .int .i64 0, .int .i64 0, .int .i64 0, .int .i64 0, .int .i64 0, .int .i64 0, .int .i64 0, .int .i64 0, .int .i64 0, .int .i64 0, .int .i64 0, .int .i64 0] 56) = W0 at hV0 hB0 ⊢
        clear hgh hbr hsw hlt hrep
        go_loopw [58] (fun iv wr => ∃ k : Nat, k ≤ n ∧ iv = .int .i64 k ∧ Hid (firstE (sumHE l) k = 0) ∧ VRow wr gh 56 13 (fun j => .int .i64 (hadTo l (j : Int) k)) ∧ Below w.heap.size w wr) (fun iv _ => n - (intOf iv).toNat)
        case atStart => exact ⟨0, by omega, rfl, rfl, hV0, hB0⟩
        case round =>
          clear hV0 hB0
          obtain ⟨k, hk, rfl, HTo, hV, hbr⟩ := hrel
          obtain ⟨wo, hwo⟩ : ∃ wo, wo = wr := ⟨_, rfl⟩
          subst hwo
          by_cases hlt : k < n
          · have hkl : k < l.length := by have := Hn.out; omega
            have hrd := Rd.below ha hbr
            obtain ⟨b, off, rfl, hcs⟩ := hrd.2 (by omega)
            have q0 := hcs k 0 _ hkl rfl
            have q1 := hcs k 1 _ hkl rfl
            have q2 := hcs k 2 _ hkl rfl
            rw [Nat.add_zero] at q0
            clear hcs hrd
            have k0 : (0 : Int) ≤ (k : Int) := by omega
            have k1 : (k : Int) < (n : Int) := by omega
            have hpt := hold_part H1.out hkl
            have hhl := had_low H1.out l[k].wh k (by omega)
            have HS := hide (sumHE_at hkl)
            have HST := hide (fun e => had_step hkl e)
            obtain ⟨x, hx⟩ : ∃ x, x = l[k] := ⟨_, rfl⟩
            rw [← hx] at q0 q1 q2 hpt hhl HS
            have HX := hide hx
            clear hx
            obtain ⟨xe, xw, xp⟩ := x
            obtain ⟨j, hj⟩ : ∃ j : Nat, xw = (j : Int) := ⟨xw.toNat, by have := hpt.2.1; simp only at this; omega⟩
            subst hj
            obtain ⟨hv, hhv⟩ : ∃ hv, hv = hadTo l (j : Int) k := ⟨_, rfl⟩
            have hj13 : j < 13 := by have := hpt.2.1; simp only at this; omega
            have hj1 : (j : Int) < 13 := by omega
            have hj0 : (0 : Int) ≤ (j : Int) := by omega
            have hp1 : 1 ≤ xp := hpt.2.2.1
            have hp2 : xp ≤ 1000 := hpt.2.2.2
            have hv0 : 0 ≤ hv := by rw [hhv]; have := hhl.1; simp only at this; exact this
            have hv1 : hv ≤ 20000 := by rw [hhv]; have := hhl.2; simp only at this; omega
            clear hpt hhl
            have hbx : Below wo.heap.size wo (wo.alloc (.cells #[.int .i64 xe, .int .i64 (j : Int), .int .i64 xp] 31)) := (Below.refl _ _).alloc (Nat.le_refl _) _
            have hX := HoldAt.new wo ⟨xe, (j : Int), xp⟩
            have hB := bthen hbr (Nat.le_refl _) hbx
            have hV1 := hV.below hbx
            have hgl := hV.lt
            have hne : gh ≠ wo.heap.size := by omega
            go_upto_region 15 with fail
            obtain ⟨gx, hgx⟩ : ∃ gx, gx = wo.heap.size := ⟨_, rfl⟩
            generalize wo.alloc (.cells #[.int .i64 xe, .int .i64 (j : Int), .int .i64 xp] 31) = W1 at hX hB hV1 ⊢
            rw [← hgx] at hX hne ⊢
            clear hgx q0 q1 q2 hbx hbr hV hgl
            obtain ⟨d0, d1, d2⟩ := hX
            simp only at d0 d1 d2
            have e1 := hV1.cell j hj13
            simp only [← hhv] at e1
            have HHV := hide hhv
            clear hhv
            have f1 := hV1.frozen j
            go_region
            have hV2 : VRow (W1.setCell ⟨gh, j, none⟩ (.int .i64 (hv + xp))).drew gh 56 13 (fun i => .int .i64 (hadTo l (i : Int) (k + 1))) := by
              refine ((hV1.set_ j (.int .i64 (hv + xp))).congr fun i hi => ?_)
              have hs := HST.out (i : Int)
              rw [← HX.out] at hs
              simp only at hs
              by_cases e : i = j
              · subst e
                rw [if_pos rfl, hs, if_pos rfl, ← HHV.out]
              · rw [if_neg e, hs, if_neg (by omega), Int.add_zero]
            have hB2 : Below w.heap.size w (W1.setCell ⟨gh, j, none⟩ (.int .i64 (hv + xp))).drew := bdrewN (hB.setCell HGH.out _) 1
            have g1 : (W1.setCell ⟨gh, j, none⟩ (.int .i64 (hv + xp))).drew.cell? ⟨gx, 1, none⟩ = some (.int .i64 (j : Int)) := (World.cell?_setCell_other _ _ _ _ (by simp <;> omega)).trans d1
            have g2 : (W1.setCell ⟨gh, j, none⟩ (.int .i64 (hv + xp))).drew.cell? ⟨gh, j, none⟩ = some (.int .i64 (hv + xp)) := World.cell?_setCell_same _ ⟨gh, j, none⟩ _ e1
            generalize (W1.setCell ⟨gh, j, none⟩ (.int .i64 (hv + xp))).drew = W2 at hV2 hB2 g1 g2 ⊢
            clear d0 d1 d2 e1 f1 hV1 hB
            have HSX : Hid (sumHE l k = if 1000 < hv + xp then 11 else 0) := by show _ = _; rw [HS.out, HHV.out]
            by_cases h11 : 1000 < hv + xp
            · have HF : Hid (holdsE l = 11) := holdsE_2 H20.out H1.out HTo.out hkl (by rw [HSX.out, if_pos h11])
              go_wp2_with fail
              go_ret
              exact ⟨by rw [HF.out]; rfl, hB2⟩
            · have HF : Hid (sumHE l k = 0) := by show _ = _; rw [HSX.out, if_neg h11]
              go_wp2_with fail
              go_roundw
              case rel => exact ⟨k + 1, by omega, by go_num, by show _ = _; rw [firstE_succ HTo.out]; exact HF.out, hV2, hB2⟩
              case measure => simp [intOf]; omega
          · have hkn : k = n := by omega
            have H2 : Hid (firstE (sumHE l) l.length = 0) := by show _ = _; rw [Hn.out, ← hkn]; exact HTo.out
            clear hkn HTo
            go_wp2_with fail
            have qn := fun (w : World) (a : Option Addr) (n c n' c' : Nat) => Lib.run_eql_slice_nil (P := Tryz.prog) w 25 _ a n c n' c' Tryz.underlying25
            refine (order_any l A n cap _ (by omega) (Rd.below ha hbr)).mono ?_
            rintro e w3 ⟨hb3, ⟨h5, rfl⟩ | ⟨h5, OA, oc, rfl, hown⟩⟩
            · have HF := hide (holdsE_3 H20.out H1.out H2.out h5)
              clear h5
              go_wp2_with fail
              go_ret
              exact ⟨by rw [HF.out]; rfl, bthen hbr (Nat.le_refl _) hb3⟩
            · have HF := hide (holdsE_4 H20.out H1.out H2.out h5)
              clear h5
              obtain ⟨g, rfl⟩ : ∃ g, OA = some ⟨g, 0, none⟩ := by
                rcases hown.2 with ⟨hv, h0⟩ | ⟨g9, cap9, cur9, hv, _⟩
                · injection hv with _ e2 _; cases e2
                · injection hv with e1; exact ⟨g9, e1⟩
              go_wp2_with fail
              go_ret
              exact ⟨by rw [HF.out]; rfl, bthen hbr (Nat.le_refl _) hb3⟩
end Go.Proofs.YtggmbjdonlbfkaaGreatDoorBesafter
