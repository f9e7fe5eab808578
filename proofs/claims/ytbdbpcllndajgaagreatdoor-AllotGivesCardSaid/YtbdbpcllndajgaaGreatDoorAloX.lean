/- allot.pool, allot.Check: what they return. -/
import Derived.Test.YtbdbpcllndajgaaGreatDoorShrY
import Derived.Test.YtbdbpcllndajgaaGreatDoorChartX
import Derived.Test.YtbdbpcllndajgaaGreatDoorEntX
import Derived.Test.YtbdbpcllndajgaaGreatDoorAcrE
import Derived.Test.YtbdbpcllndajgaaGreatDoorBalX
import Derived.Deep.RegionHeld3
import Derived.BigRegion
import Derived.Deep.CutRange
namespace Go.Proofs.YtbdbpcllndajgaaGreatDoor
open Go Go.RowKit
set_option linter.unusedVariables false

def idxS (l : List ByteArray) (p : ByteArray → Bool) : Int := match l.findIdx? p with | some k => (k : Int) | none => -1
theorem NoTo.hitS {l : List ByteArray} {p : ByteArray → Bool} {k : Nat} (h : NoTo p l k) (hk : k < l.length) (hc : p l[k] = true) : idxS l p = (k : Int) := by
  have : l.findIdx? p = some k := by
    rw [List.findIdx?_eq_some_iff_getElem]
    exact ⟨hk, hc, fun j hj => by rw [h j (by omega) hj]; decide⟩
  simp [idxS, this]
theorem NoTo.missS {l : List ByteArray} {p : ByteArray → Bool} {k : Nat} (h : NoTo p l k) (hk : l.length ≤ k) : idxS l p = -1 := by
  have : l.findIdx? p = none := by
    rw [List.findIdx?_eq_none_iff]
    intro x hx
    obtain ⟨j, hj, rfl⟩ := List.getElem_of_mem hx
    exact h j hj (by omega)
  simp [idxS, this]
theorem idxS_any (l : List ByteArray) (p : ByteArray → Bool) : decide (0 ≤ idxS l p) = l.any p := by
  unfold idxS
  cases h : l.findIdx? p with
  | none =>
    rw [List.findIdx?_eq_none_iff] at h
    have : l.any p = false := by rw [List.any_eq_false]; intro x hx; rw [h x hx]; decide
    rw [this]; rfl
  | some k =>
    obtain ⟨hk, hc, _⟩ := List.findIdx?_eq_some_iff_getElem.1 h
    have : l.any p = true := List.any_eq_true.2 ⟨_, List.getElem_mem hk, hc⟩
    rw [this]; simp
set_option maxRecDepth 100000 in
theorem index_str (l : List ByteArray) (t : ByteArray) (A : Option Addr) (n cap : Nat) (w : World) (hl : n ≤ 9223372036854775807) (ha : Rd w 1 strEnc A n l) :
    Calls Tryz.prog 74 #[.slice A n cap, .string t] w fun e w' => e = .returned (.int .i64 (idxS l (fun s => t.toList == s.toList))) ∧ w' = w := by
  have Hn := hide ha.1
  go_enter Tryz.func74, Tryz.ntmps74
  go_wp2_with fail
  go_loopw [8] (fun i wr => ∃ k : Nat, k ≤ n ∧ i = .int .i64 k ∧ NoTo (fun s => t.toList == s.toList) l k ∧ w = wr) (fun i _ => n - (intOf i).toNat)
  case atStart => exact ⟨0, by omega, rfl, NoTo.zero _ _, rfl⟩
  case round =>
    obtain ⟨k, hk, rfl, hno, rfl⟩ := hrel
    have HNo := hide hno
    clear hno
    by_cases hlt : k < n
    · obtain ⟨b, off, rfl, hcs⟩ := ha.2 (by omega)
      have hkl : k < l.length := by have := Hn.out; omega
      have h0 := hcs k 0 _ hkl rfl
      simp only [Nat.mul_one, Nat.add_zero] at h0
      clear hcs
      have k0 : (0 : Int) ≤ (k : Int) := by omega
      have k1 : (k : Int) < (n : Int) := by omega
      obtain ⟨s, hs⟩ : ∃ s, s = l[k] := ⟨_, rfl⟩
      rw [← hs] at h0
      have HS := hide hs
      clear hs
      cases hq : (t.toList == s.toList) with
      | true =>
        have HP : Hid ((fun s : ByteArray => t.toList == s.toList) l[k] = true) := by show (t.toList == l[k].toList) = true; rw [← HS.out]; exact hq
        go_wp2_with fail
        go_ret
        exact ⟨ret_int (HNo.out.hitS hkl HP.out).symm, rfl⟩
      | false =>
        have HP : Hid ((fun s : ByteArray => t.toList == s.toList) l[k] = false) := by show (t.toList == l[k].toList) = false; rw [← HS.out]; exact hq
        go_wp2_with fail
        go_roundw
        case rel => exact ⟨k + 1, by omega, by go_num, HNo.out.succ hkl HP.out, by first | rfl | trivial⟩
        case measure => simp [intOf]; omega
    · go_wp2_with fail
      go_ret
      exact ⟨ret_int (HNo.out.missS (by have := Hn.out; omega)).symm, rfl⟩
theorem contains_str (l : List ByteArray) (t : ByteArray) (A : Option Addr) (n cap : Nat) (w : World) (hl : n ≤ 9223372036854775807) (ha : Rd w 1 strEnc A n l) :
    Calls Tryz.prog 33 #[.slice A n cap, .string t] w fun e w' => e = .returned (.bool (l.any (fun s => t.toList == s.toList))) ∧ w' = w := by
  have HA := hide (idxS_any l (fun s => t.toList == s.toList))
  go_enter Tryz.func33, Tryz.ntmps33
  go_wp2_with fail
  refine (index_str l t _ _ _ _ hl ha).mono ?_
  rintro e w1 ⟨rfl, rfl⟩
  go_wp2_with fail
  go_ret
  exact ⟨ret_bool HA.out, rfl⟩

section
variable {c : List Acc} {p : Pol}
theorem poolE_1 (h : leafE c p.acc ≠ 0) : poolE c p = leafE c p.acc := if_pos h
theorem poolE_2 (h : leafE c p.acc = 0) (h2 : curB p.cur = false) : poolE c p = 2 := by rw [poolE, if_neg (by rw [h]; decide), if_pos h2]
theorem poolE_3 (h : leafE c p.acc = 0) (h2 : curB p.cur = true) (h3 : p.to.length = 0 ∨ p.to.length ≠ p.ws.length) : poolE c p = 3 := by rw [poolE, if_neg (by rw [h]; decide), if_neg (by rw [h2]; decide), if_pos h3]
theorem poolE_4 (h : leafE c p.acc = 0) (h2 : curB p.cur = true) (h3 : ¬ (p.to.length = 0 ∨ p.to.length ≠ p.ws.length)) (h4 : 19 < p.to.length) : poolE c p = 4 := by rw [poolE, if_neg (by rw [h]; decide), if_neg (by rw [h2]; decide), if_neg h3, if_pos h4]
theorem poolE_5 (h : leafE c p.acc = 0) (h2 : curB p.cur = true) (h3 : ¬ (p.to.length = 0 ∨ p.to.length ≠ p.ws.length)) (h4 : ¬ 19 < p.to.length) {k : Nat} (h5 : firstE (toAt c p) k = 0) (hk : k < p.to.length) (h6 : toAt c p k ≠ 0) : poolE c p = toAt c p k := by
  have h7 := firstE_hit h5 hk h6
  rw [poolE, if_neg (by rw [h]; decide), if_neg (by rw [h2]; decide), if_neg h3, if_neg h4, if_pos (by rw [h7]; exact h6), h7]
theorem poolE_6 (h : leafE c p.acc = 0) (h2 : curB p.cur = true) (h3 : ¬ (p.to.length = 0 ∨ p.to.length ≠ p.ws.length)) (h4 : ¬ 19 < p.to.length) (h5 : firstE (toAt c p) p.to.length = 0) : poolE c p = shE p.ws := by
  rw [poolE, if_neg (by rw [h]; decide), if_neg (by rw [h2]; decide), if_neg h3, if_neg h4, if_neg (by rw [h5]; decide)]
end
/-- a pool in a box of its own -/
structure PolAt (w : World) (g : Nat) (p : Pol) : Prop where
  c0 : w.cell? ⟨g, 0, none⟩ = some (.string p.acc)
  c1 : w.cell? ⟨g, 1, none⟩ = some (.string p.cur)
  c2 : w.cell? ⟨g, 2, none⟩ = some (.slice p.TA p.tn p.tc)
  c3 : w.cell? ⟨g, 3, none⟩ = some (.slice p.WA p.wn p.wc)
theorem PolAt.below {w w' : World} {g : Nat} {p : Pol} (h : PolAt w g p) (hb : Below w.heap.size w w') : PolAt w' g p :=
  ⟨below_cell hb (World.block_lt_of_cell? _ _ h.c0) h.c0, below_cell hb (World.block_lt_of_cell? _ _ h.c1) h.c1, below_cell hb (World.block_lt_of_cell? _ _ h.c2) h.c2, below_cell hb (World.block_lt_of_cell? _ _ h.c3) h.c3⟩
theorem PolAt.new (w : World) (p : Pol) : PolAt (w.alloc (.cells #[.string p.acc, .string p.cur, .slice p.TA p.tn p.tc, .slice p.WA p.wn p.wc] 43)) w.heap.size p := ⟨by simp, by simp, by simp, by simp⟩
theorem Rd.takeQ {α : Type} {enc : α → List Value} {w : World} {sz n i : Nat} {A : Option Addr} {l : List α} (h : Rd w sz enc A n l) (hi : i ≤ n) : Rd w sz enc A i (l.take i) := by
  have hl := h.1
  refine ⟨by rw [List.length_take]; omega, fun h0 => ?_⟩
  obtain ⟨b, off, e, hc⟩ := h.2 (by omega)
  refine ⟨b, off, e, fun k j u hk hu => hc k j u (by rw [List.length_take] at hk; omega) ?_⟩
  rwa [List.getElem_take] at hu

set_option maxHeartbeats 4000000 in
set_option maxRecDepth 100000 in
theorem pool_any (c : List Acc) (CA : Option Addr) (cn ccap : Nat) (p : Pol) (w : World) (hcl : cn ≤ 9223372036854775807) (hc : Accs w CA cn c) (hf : PolFits w p) :
    Calls Tryz.prog 12 #[.slice CA cn ccap, .agg #[.string p.acc, .string p.cur, .slice p.TA p.tn p.tc, .slice p.WA p.wn p.wc]] w fun e w' => e = .returned (errV (poolE c p)) ∧ Below w.heap.size w w' := by
  obtain ⟨TA, hTA⟩ : ∃ TA, TA = p.TA := ⟨_, rfl⟩
  obtain ⟨tn, htn⟩ : ∃ tn, tn = p.tn := ⟨_, rfl⟩
  obtain ⟨wn, hwn⟩ : ∃ wn, wn = p.wn := ⟨_, rfl⟩
  have hb : Below w.heap.size w (w.alloc (.cells #[.string p.acc, .string p.cur, .slice p.TA p.tn p.tc, .slice p.WA p.wn p.wc] 43)) := (Below.refl _ _).alloc (Nat.le_refl _) _
  have hXn := PolAt.new w p
  have hsz : (w.alloc (.cells #[.string p.acc, .string p.cur, .slice p.TA p.tn p.tc, .slice p.WA p.wn p.wc] 43)).heap.size = w.heap.size + 1 := by simp
  have HF := hide hf
  have hcz := hf.cur
  have HCW : Hid (∀ wi : World, Below w.heap.size w wi → Accs wi CA cn c) := fun wi hbi => hc.below hbi
  have HPW : Hid (∀ wi : World, Below w.heap.size w wi → PolFits wi p) := fun wi hbi => hf.below hbi
  have htl : p.to.length = p.tn := hf.to.1
  have hwl : p.ws.length = p.wn := hf.ws.1
  have htm := hf.tm
  have htc := hf.tc
  have HT := hide (And.intro htl (And.intro hwl (And.intro htm htc)))
  have HC0 := hide hc
  rw [← hTA, ← htn, ← hwn] at hb hsz ⊢
  rw [← htn, ← hwn] at HT
  have hX : PolAt (w.alloc (.cells #[.string p.acc, .string p.cur, .slice TA tn p.tc, .slice p.WA wn p.wc] 43)) w.heap.size p := by rw [hTA, htn, hwn]; exact hXn
  clear hXn
  have HTA := hide hTA
  have HTN := hide htn
  have HWN := hide hwn
  clear hf hc htl hwl htm htc hTA htn hwn
  go_enter Tryz.func12, Tryz.ntmps12
  go_upto_region 1 with fail
  generalize w.alloc (.cells #[.string p.acc, .string p.cur, .slice TA tn p.tc, .slice p.WA wn p.wc] 43) = W1 at hb hX hsz ⊢
  have c0 := hX.c0
  by_cases hle : leafE c p.acc = 0
  case neg =>
    have HL := hide hle
    clear hle
    go_wp2_with fail
    refine (leaf_bad c _ _ _ _ _ hcl (HCW.out _ hb) HL.out).mono ?_
    rintro e w1 ⟨rfl, hb1⟩
    go_wp2_with fail
    go_ret
    exact ⟨by rw [poolE_1 HL.out, errV_n HL.out]; rfl, bthen hb (Nat.le_refl _) hb1⟩
  case pos =>
  have HL := hide hle
  clear hle
  go_wp2_with fail
  refine (leaf_ok c _ _ _ _ _ hcl (HCW.out _ hb) HL.out).mono ?_
  rintro e w1 ⟨rfl, hb1⟩
  have hX1 := hX.below hb1
  have hb1 := bthen hb (Nat.le_refl _) hb1
  have hs1 := hb1.size
  clear hX c0 hb hsz
  have c1 := hX1.c1
  go_wp2_with fail
  refine (cur_any p.cur _ hcz).mono ?_
  rintro e w2 ⟨rfl, hb2⟩
  have hX2 := hX1.below hb2
  have hb2 := bthen hb1 (Nat.le_refl _) hb2
  clear c1 hX1 hb1 hs1
  cases hcu : curB p.cur with
  | false =>
    have HU := hide hcu
    clear hcu
    go_wp2_with fail
    go_ret
    exact ⟨by rw [poolE_2 HL.out HU.out]; rfl, hb2⟩
  | true =>
  have HU := hide hcu
  clear hcu
  have c2 := hX2.c2
  have c3 := hX2.c3
  rw [← HTA.out, ← HTN.out] at c2
  rw [← HWN.out] at c3
  by_cases h3 : p.to.length = 0 ∨ p.to.length ≠ p.ws.length
  · have H3 := hide h3
    have HG : Hid (poolE c p = 3) := poolE_3 HL.out HU.out h3
    by_cases h30 : tn = 0
    · have h30' : ((tn : Int) == 0) = true := by rw [beq_iff_eq]; omega
      clear h3
      go_wp2_with fail
      go_ret
      exact ⟨by rw [HG.out]; rfl, hb2⟩
    · have h30' : ((tn : Int) == 0) = false := by rw [beq_eq_false_iff_ne]; omega
      have h31 : ¬ tn = wn := by have := HT.out; omega
      clear h3
      go_wp2_with fail
      go_ret
      exact ⟨by rw [HG.out]; rfl, hb2⟩
  · have H3 := hide h3
    have h30 : ((tn : Int) == 0) = false := by have := HT.out; rw [beq_eq_false_iff_ne]; omega
    have h30' : ¬ tn = 0 := by have := HT.out; omega
    obtain rfl : tn = wn := by have := HT.out; omega
    clear h3
    by_cases h4 : 19 < p.to.length
    · have HG : Hid (poolE c p = 4) := poolE_4 HL.out HU.out H3.out h4
      have h40 : (19 : Int) < (tn : Int) := by have := HT.out; omega
      clear h4
      go_wp2_with fail
      go_ret
      exact ⟨by rw [HG.out]; rfl, hb2⟩
    · have H4 := hide h4
      have h40 : ¬ (19 : Int) < (tn : Int) := by have := HT.out; omega
      clear h4
      go_wp2_with fail
      go_loopw [48] (fun iv wr => ∃ k : Nat, k ≤ tn ∧ iv = .int .i64 k ∧ Hid (firstE (toAt c p) k = 0) ∧ PolAt wr w.heap.size p ∧ Below w.heap.size w wr) (fun iv _ => tn - (intOf iv).toNat)
      case atStart => exact ⟨0, by omega, rfl, hide rfl, hX2, hb2⟩
      case round =>
        clear c2 c3 hX2 hb2
        obtain ⟨k, hk, rfl, HTO, hX, hb⟩ := hrel
        have hsb := hb.size
        by_cases hlt : k < tn
        · have hkl : k < p.to.length := by have := HT.out; omega
          have hto := (HPW.out _ hb).to
          rw [← HTA.out, ← HTN.out] at hto
          obtain ⟨b, off, rfl, hcs⟩ := hto.2 (by omega)
          clear hto
          have q0 := hcs k 0 _ hkl rfl
          simp only [Nat.mul_one, Nat.add_zero] at q0
          clear hcs
          have k0 : (0 : Int) ≤ (k : Int) := by omega
          have k1 : (k : Int) < (tn : Int) := by omega
          have htS := hide (toAt_some (c := c) (p := p) hkl)
          obtain ⟨t, ht⟩ : ∃ t, t = p.to[k] := ⟨_, rfl⟩
          rw [← ht] at q0 htS
          have HTT := hide ht
          clear ht
          by_cases hle : leafE c t = 0
          · have HLT := hide hle
            clear hle
            go_wp2_with fail
            refine (leaf_ok c t _ _ _ _ hcl (HCW.out _ hb) HLT.out).mono ?_
            rintro e w3 ⟨rfl, hb3⟩
            have hX3 := hX.below hb3
            have hb3 := bthen hb (Nat.le_refl _) hb3
            have c0 := hX3.c0
            have c2 := hX3.c2
            rw [← HTA.out, ← HTN.out] at c2
            clear hX hb q0
            cases hq : (t.toList == p.acc.toList) with
            | true =>
              have HG : Hid (poolE c p = 8) := by
                show _ = _
                have h1 : toAt c p k = 8 := by rw [htS.out, if_neg (by rw [HLT.out]; decide), if_pos (.inl (by simpa using hq))]
                rw [poolE_5 HL.out HU.out H3.out H4.out HTO.out hkl (by rw [h1]; decide), h1]
              go_wp2_with fail
              go_ret
              exact ⟨by rw [HG.out]; rfl, hb3⟩
            | false =>
              have hct := hide (contains_str (p.to.take k) t (some ⟨b, off, none⟩) k p.tc w3 (by have := HT.out; omega) (by rw [HTA.out]; exact (HPW.out _ hb3).to.take (by have := HT.out; have := HTN.out; omega)))
              have k2 : (k : Int) ≤ (p.tc : Int) := by have := HT.out; omega
              cases ha : (p.to.take k).any (fun s => t.toList == s.toList) with
              | true =>
                have HG : Hid (poolE c p = 8) := by
                  show _ = _
                  have h1 : toAt c p k = 8 := by rw [htS.out, if_neg (by rw [HLT.out]; decide), if_pos (.inr ha)]
                  rw [poolE_5 HL.out HU.out H3.out H4.out HTO.out hkl (by rw [h1]; decide), h1]
                rw [ha] at hct
                clear ha
                go_wp2_with fail
                refine hct.out.mono ?_
                rintro e w4 ⟨rfl, rfl⟩
                go_wp2_with fail
                go_ret
                exact ⟨by rw [HG.out]; rfl, hb3⟩
              | false =>
                have HG : Hid (toAt c p k = 0) := by
                  show _ = _
                  rw [htS.out, if_neg (by rw [HLT.out]; decide), if_neg]
                  rintro (h | h)
                  · rw [beq_eq_false_iff_ne] at hq; exact hq h
                  · rw [ha] at h; cases h
                rw [ha] at hct
                clear ha
                go_wp2_with fail
                refine hct.out.mono ?_
                rintro e w4 ⟨rfl, rfl⟩
                go_wp2_with fail
                go_roundw
                case rel => exact ⟨k + 1, by omega, by go_num, hide (by rw [firstE_succ HTO.out]; exact HG.out), hX3, hb3⟩
                case measure => simp [intOf]; omega
          · have HLT := hide hle
            have HG : Hid (poolE c p = leafE c t) := by
              show _ = _
              have h1 : toAt c p k = leafE c t := by rw [htS.out, if_pos hle]
              rw [poolE_5 HL.out HU.out H3.out H4.out HTO.out hkl (by rw [h1]; exact hle), h1]
            clear hle
            go_wp2_with fail
            refine (leaf_bad c t _ _ _ _ hcl (HCW.out _ hb) HLT.out).mono ?_
            rintro e w3 ⟨rfl, hb3⟩
            go_wp2_with fail
            go_ret
            exact ⟨by rw [HG.out, errV_n HLT.out]; rfl, bthen hb (Nat.le_refl _) hb3⟩
        · have hkn : k = tn := by omega
          have HG : Hid (poolE c p = shE p.ws) := poolE_6 HL.out HU.out H3.out H4.out (by have := HT.out; rw [show p.to.length = k by omega]; exact HTO.out)
          have c3 := hX.c3
          rw [← HWN.out] at c3
          have hsh := hide (shares_any 0 p.ws p.WA tn p.wc wr (by omega) (by omega) (by have := HT.out; have := H4.out; omega) (by rw [HWN.out]; exact (HPW.out _ hb).ws))
          clear hkn
          go_wp2_with fail
          refine hsh.out.mono ?_
          rintro e w3 ⟨h1, h2, hb3⟩
          have hb3 := bthen hb (Nat.le_refl _) hb3
          by_cases h0 : shE p.ws = 0
          · obtain ⟨v, out, rfl, _, _⟩ := h1 h0
            have H0 := hide h0
            clear h1 h2 h0
            go_wp2_with fail
            go_ret
            exact ⟨by rw [HG.out, H0.out]; rfl, hb3⟩
          · obtain rfl := h2 h0
            have H0 := hide h0
            clear h1 h2 h0
            go_wp2_with fail
            go_ret
            exact ⟨by rw [HG.out]; rfl, hb3⟩

section
variable {c : List Acc} {l : List Pol} {k : Nat}
theorem poolsE_1 (h : chartE c ≠ 0) : poolsE c l = chartE c := if_pos h
theorem poolsE_2 (h : chartE c = 0) (h2 : 20 < l.length) : poolsE c l = 4 := by rw [poolsE, if_neg (by simpa using h), if_pos h2]
theorem poolsE_3 (h : chartE c = 0) (h2 : ¬ 20 < l.length) : poolsE c l = firstE (poolAt c l) l.length := by rw [poolsE, if_neg (by simpa using h), if_neg h2]
theorem pools_hit {e : Int} (hc : chartE c = 0) (h20 : ¬ 20 < l.length) (hto : firstE (poolAt c l) k = 0) (hk : k < l.length) (he : poolAt c l k = e) (h0 : e ≠ 0) : poolsE c l = e := by
  rw [poolsE_3 hc h20, firstE_hit hto hk (by rw [he]; exact h0), he]
end
set_option maxHeartbeats 2000000 in
set_option maxRecDepth 100000 in
theorem poolsCheck_any (c : List Acc) (CA : Option Addr) (cn ccap : Nat) (l : List Pol) (A : Option Addr) (n cap : Nat) (w : World)
    (hcl : cn ≤ 9223372036854775807) (hcc : cn ≤ ccap) (hc : Accs w CA cn c) (hcok : AccOk c) (hl : n ≤ cap) (hcap : cap ≤ maxLen) (ha : Rd w 4 Pol.enc A n l) (hok : ∀ p ∈ l, PolFits w p) :
    Calls Tryz.prog 5 #[.slice CA cn ccap, .slice A n cap] w fun e w' => e = .returned (errV (poolsE c l)) ∧ Below w.heap.size w w' := by
  have hn := ha.1
  have Hn := hide hn
  unfold maxLen at hcap
  by_cases he : chartE c = 0
  · have HC := hide he
    clear he
    by_cases h20 : 20 < n
    · have h20i : (20 : Int) < (n : Int) := by omega
      have HF := hide (poolsE_2 (l := l) HC.out (by rw [Hn.out]; exact h20))
      clear h20
      go_enter Tryz.func5, Tryz.ntmps5
      go_wp2_with fail
      refine (check_ok c _ _ _ _ hcl hcc hc hcok HC.out).mono ?_
      rintro e w1 ⟨rfl, hb1⟩
      go_wp2_with fail
      go_ret
      exact ⟨by rw [HF.out]; rfl, hb1⟩
    · have h20i : ¬ (20 : Int) < (n : Int) := by omega
      have hn20 : n ≤ 20 := by omega
      have H20 : Hid (¬ 20 < l.length) := by show ¬ _; rw [Hn.out]; exact h20
      clear h20 hn
      go_enter Tryz.func5, Tryz.ntmps5
      go_wp2_with fail
      refine (check_ok c _ _ _ _ hcl hcc hc hcok HC.out).mono ?_
      rintro e w1 ⟨rfl, hb1⟩
      go_wp2_with fail
      go_loopw [20] (fun iv wr => ∃ k : Nat, k ≤ n ∧ iv = .int .i64 k ∧ firstE (poolAt c l) k = 0 ∧ Below w.heap.size w wr) (fun iv _ => n - (intOf iv).toNat)
      case atStart => exact ⟨0, by omega, rfl, rfl, hb1⟩
      case round =>
        obtain ⟨k, hk, rfl, hto, hbr⟩ := hrel
        obtain ⟨wo, hwo⟩ : ∃ wo, wo = wr := ⟨_, rfl⟩
        subst hwo
        have HTo := hide hto
        clear hto
        by_cases hlt : k < n
        · have hkl : k < l.length := by have := Hn.out; omega
          obtain ⟨b, off, rfl, hcs⟩ := (Rd.below ha hbr).2 (by omega)
          have q0 := hcs k 0 _ hkl rfl
          have q1 := hcs k 1 _ hkl rfl
          have q2 := hcs k 2 _ hkl rfl
          have q3 := hcs k 3 _ hkl rfl
          rw [Nat.add_zero] at q0
          clear hcs
          have k0 : (0 : Int) ≤ (k : Int) := by omega
          have k1 : (k : Int) < (n : Int) := by omega
          have hsz := hbr.size
          obtain ⟨x, hx⟩ : ∃ x, x = l[k] := ⟨_, rfl⟩
          have hfx : Hid (∀ W : World, Below w.heap.size w W → PolFits W x) := fun W hW => by rw [hx]; exact (hok _ (List.getElem_mem hkl)).below hW
          have hEA : Hid (poolAt c l k = poolE c x) := by show _ = _; rw [hx]; exact poolAt_some hkl
          rw [← hx] at q0 q1 q2 q3
          clear hx
          have hbx : Below wo.heap.size wo (wo.alloc (.cells #[.string x.acc, .string x.cur, .slice x.TA x.tn x.tc, .slice x.WA x.wn x.wc] 43)) := (Below.refl _ _).alloc (Nat.le_refl _) _
          have hX := PolAt.new wo x
          have hB := bthen hbr (Nat.le_refl _) hbx
          go_upto_region 9 with fail
          generalize wo.alloc (.cells #[.string x.acc, .string x.cur, .slice x.TA x.tn x.tc, .slice x.WA x.wn x.wc] 43) = W1 at hX hB ⊢
          obtain ⟨d0, d1, d2, d3⟩ := hX
          clear q0 q1 q2 q3 hbx
          go_wp2_with fail
          refine (pool_any c CA cn ccap x _ hcl (hc.below hB) (hfx.out _ hB)).mono ?_
          rintro e w2 ⟨rfl, hb2⟩
          have hb2 := bthen hB (Nat.le_refl _) hb2
          clear d0 d1 d2 d3 hB
          by_cases h5 : poolE c x = 0
          · have H5 := hide h5
            rw [errV_0 h5]
            clear h5
            go_wp2_with fail
            go_roundw
            case rel => exact ⟨k + 1, by omega, by go_num, by rw [firstE_succ HTo.out, hEA.out]; exact H5.out, hb2⟩
            case measure => simp [intOf]; omega
          · have HF := hide (pools_hit HC.out H20.out HTo.out hkl hEA.out h5)
            rw [errV_n h5]
            have H5 := hide h5
            clear h5
            go_wp2_with fail
            go_ret
            exact ⟨by rw [HF.out, errV_n H5.out]; rfl, hb2⟩
        · have hkn : k = n := by omega
          have HF : Hid (poolsE c l = 0) := by
            show _ = _
            rw [poolsE_3 HC.out H20.out, Hn.out, ← hkn]
            exact HTo.out
          clear hkn
          go_wp2_with fail
          go_ret
          exact ⟨by rw [HF.out]; rfl, hbr⟩
  · have HC := hide he
    have HF := hide (poolsE_1 (l := l) he)
    clear he
    go_enter Tryz.func5, Tryz.ntmps5
    go_wp2_with fail
    refine (check_bad c _ _ _ _ hcl hcc hc hcok HC.out).mono ?_
    rintro e w1 ⟨rfl, hb1⟩
    go_wp2_with fail
    go_ret
    exact ⟨by rw [HF.out, errV_n HC.out]; rfl, hb1⟩
end Go.Proofs.YtbdbpcllndajgaaGreatDoor

namespace Go.Proofs.YtbdbpcllndajgaaGreatDoor
open Go Go.RowKit
set_option linter.unusedVariables false

def atEL (ent per : Int) : Int := if inB 1 12 ent = true ∧ inB 1 120 per = true then 0 else 1
theorem atL_any (ent per : Int) (w : World) : Calls Tryz.prog 23 #[.int .i64 ent, .int .i64 per] w fun e w' => e = .returned (errV (atEL ent per)) ∧ w = w' := by
  by_cases h1 : ent < 1
  · have hf : atEL ent per = 1 := if_neg (by simp [inB]; omega)
    rw [hf]; clear hf
    go_enter Tryz.func23, Tryz.ntmps23
    go_wp2_with fail
    go_ret
    exact ⟨rfl, rfl⟩
  · by_cases h2 : 12 < ent
    · have hf : atEL ent per = 1 := if_neg (by simp [inB]; omega)
      rw [hf]; clear hf
      have h1' : 1 ≤ ent := by omega
      clear h1
      go_enter Tryz.func23, Tryz.ntmps23
      go_wp2_with fail
      go_ret
      exact ⟨rfl, rfl⟩
    · have h1' : 1 ≤ ent := by omega
      have h2' : ent ≤ 12 := by omega
      have hi : inB 1 12 ent = true := by unfold inB; simp; omega
      cases h3 : inB 1 120 per with
      | true =>
        have hf : atEL ent per = 0 := if_pos ⟨hi, h3⟩
        rw [hf]; clear hf hi h1 h2
        have H3 := hide h3
        clear h3
        go_enter Tryz.func23, Tryz.ntmps23
        go_wp2_with fail
        refine (period_any _ _).mono ?_
        rintro e w1 ⟨rfl, rfl⟩
        rw [H3.out]
        go_wp2_with fail
        go_ret
        exact ⟨rfl, rfl⟩
      | false =>
        have hf : atEL ent per = 1 := if_neg (by rw [h3]; simp)
        rw [hf]; clear hf hi h1 h2
        have H3 := hide h3
        clear h3
        go_enter Tryz.func23, Tryz.ntmps23
        go_wp2_with fail
        refine (period_any _ _).mono ?_
        rintro e w1 ⟨rfl, rfl⟩
        rw [H3.out]
        go_wp2_with fail
        go_ret
        exact ⟨rfl, rfl⟩
theorem atEL_range (ent per : Int) : 0 ≤ atEL ent per ∧ atEL ent per ≤ 12 := by unfold atEL; split <;> omega

theorem poolsE_0 {c : List Acc} {l : List Pol} (h : poolsE c l = 0) : chartE c = 0 ∧ l.length ≤ 20 ∧ ∀ (k : Nat) (hk : k < l.length), poolE c l[k] = 0 := by
  by_cases h1 : chartE c = 0
  · by_cases h2 : 20 < l.length
    · rw [poolsE_2 h1 h2] at h; cases h
    · rw [poolsE_3 h1 h2] at h
      exact ⟨h1, by omega, fun k hk => by rw [← poolAt_some hk]; exact firstE_0 h k hk⟩
  · rw [poolsE_1 h1] at h; exact absurd h h1
theorem poolE_0 {c : List Acc} {p : Pol} (h : poolE c p = 0) : leafE c p.acc = 0 ∧ curB p.cur = true ∧ 0 < p.to.length ∧ p.to.length = p.ws.length ∧ p.to.length ≤ 19 ∧ firstE (toAt c p) p.to.length = 0 ∧ shE p.ws = 0 := by
  unfold poolE at h
  split at h
  · rename_i h1; exact absurd h h1
  · rename_i h1
    split at h
    · cases h
    · rename_i h2
      split at h
      · cases h
      · rename_i h3
        split at h
        · cases h
        · rename_i h4
          split at h
          · rename_i h5; exact absurd h h5
          · rename_i h5
            exact ⟨by simpa using h1, by simpa using h2, by omega, by omega, by omega, by simpa using h5, h⟩
/-- what is wrong with what a pool has -/
def haveE (l : List Pol) (b : List Bal) (ent : Int) (k : Nat) : Int := match l[k]? with | none => 0 | some p => if getB b ent p.acc p.cur ≠ 0 ∧ inB (-1000000000000000) 1000000000000000 (getB b ent p.acc p.cur) = false then 1 else 0
def allotE (c : List Acc) (l : List Pol) (b : List Bal) (ent per : Int) : Int := if poolsE c l ≠ 0 then poolsE c l else if balsE b ≠ 0 then balsE b else if atEL ent per ≠ 0 then atEL ent per else firstE (haveE l b ent) l.length
/-- the entry of a pool -/
def giveCore (ent per : Int) (ref : ByteArray) (p : Pol) (n : Int) (out : List Int) : Core := (ref, ent, per, ⟨p.acc, p.cur, -n⟩ :: giveTo p out p.to.length)
def refL : ByteArray := ⟨#[97, 108, 108, 111, 116, 45]⟩
/-- what the first pools have given -/
inductive GaveTo (l : List Pol) (b : List Bal) (ent per : Int) (dg : Nat → ByteArray) : Nat → List Core → Prop
  | zero : GaveTo l b ent per dg 0 []
  | skip {k : Nat} {cs : List Core} (h : GaveTo l b ent per dg k cs) (hk : k < l.length) (h0 : getB b ent l[k].acc l[k].cur = 0) : GaveTo l b ent per dg (k + 1) cs
  | give {k : Nat} {cs : List Core} (h : GaveTo l b ent per dg k cs) (hk : k < l.length) (h0 : getB b ent l[k].acc l[k].cur ≠ 0) (h1 : inB (-1000000000000000) 1000000000000000 (getB b ent l[k].acc l[k].cur) = true) {out : List Int} (hs : Shared (getB b ent l[k].acc l[k].cur) l[k].ws out) : GaveTo l b ent per dg (k + 1) (cs ++ [giveCore ent per (refL ++ dg k) l[k] (getB b ent l[k].acc l[k].cur) out])
theorem GaveTo.len {l : List Pol} {b : List Bal} {ent per : Int} {dg : Nat → ByteArray} {k : Nat} {cs : List Core} (h : GaveTo l b ent per dg k cs) : cs.length ≤ k := by
  induction h with
  | zero => simp
  | skip _ _ _ ih => omega
  | give _ _ _ _ _ ih => rw [List.length_append]; simp; omega
section
variable {c : List Acc} {l : List Pol} {b : List Bal} {ent per : Int} {k : Nat}
theorem have_0 (hk : k < l.length) (h : getB b ent l[k].acc l[k].cur = 0) : haveE l b ent k = 0 := by
  unfold haveE; rw [List.getElem?_eq_getElem hk]; exact if_neg (by rw [h]; simp)
theorem have_in (hk : k < l.length) (h : inB (-1000000000000000) 1000000000000000 (getB b ent l[k].acc l[k].cur) = true) : haveE l b ent k = 0 := by
  unfold haveE; rw [List.getElem?_eq_getElem hk]; exact if_neg (by rw [h]; simp)
theorem have_1 (hk : k < l.length) (h0 : getB b ent l[k].acc l[k].cur ≠ 0) (h : inB (-1000000000000000) 1000000000000000 (getB b ent l[k].acc l[k].cur) = false) : haveE l b ent k = 1 := by
  unfold haveE; rw [List.getElem?_eq_getElem hk]; exact if_pos ⟨h0, h⟩
theorem haveE_range (l : List Pol) (b : List Bal) (ent : Int) (k : Nat) : 0 ≤ haveE l b ent k ∧ haveE l b ent k ≤ 12 := by
  unfold haveE
  split
  · omega
  · split <;> omega
theorem allotE_range (c : List Acc) (l : List Pol) (b : List Bal) (ent per : Int) : 0 ≤ allotE c l b ent per ∧ allotE c l b ent per ≤ 12 := by
  unfold allotE
  split
  · exact poolsE_range c l
  · split
    · exact balsE_range b
    · split
      · exact atEL_range ent per
      · exact firstE_range (haveE_range l b ent) _
theorem allotE_1 (h : poolsE c l ≠ 0) : allotE c l b ent per = poolsE c l := if_pos h
theorem allotE_2 (h : poolsE c l = 0) (h2 : balsE b ≠ 0) : allotE c l b ent per = balsE b := by rw [allotE, if_neg (by simpa using h), if_pos h2]
theorem allotE_3 (h : poolsE c l = 0) (h2 : balsE b = 0) (h3 : atEL ent per ≠ 0) : allotE c l b ent per = atEL ent per := by rw [allotE, if_neg (by simpa using h), if_neg (by simpa using h2), if_pos h3]
theorem allotE_4 (h : poolsE c l = 0) (h2 : balsE b = 0) (h3 : atEL ent per = 0) : allotE c l b ent per = firstE (haveE l b ent) l.length := by rw [allotE, if_neg (by simpa using h), if_neg (by simpa using h2), if_neg (by simpa using h3)]
theorem allotE_hit (h : poolsE c l = 0) (h2 : balsE b = 0) (h3 : atEL ent per = 0) (hk : k < l.length) (hto : firstE (haveE l b ent) k = 0) (he : haveE l b ent k = 1) : allotE c l b ent per = 1 := by
  rw [allotE_4 h h2 h3, firstE_hit hto hk (by rw [he]; decide), he]
end

theorem Own.lit1 {α : Type} {enc : α → List Value} {sz : Nat} (he : Enc sz enc) (w : World) (B : Nat) (e : TypeId) (x : α) (cs : Array Value) (hcs : cs.toList = enc x) (hB : B ≤ w.heap.size) : Own (w.alloc (.cells cs e)) B e sz enc (.slice (some ⟨w.heap.size, 0, none⟩) 1 1) [x] := by
  have hl := he.len x
  rw [← hcs] at hl
  refine ⟨by rw [flatMap_len he], .inr ⟨w.heap.size, 1, cs, rfl, hB, by rw [heap_alloc_new], by simp, by unfold maxLen; simp, by simpa using hl, ?_⟩⟩
  rw [hcs] at hl
  rw [hcs, List.flatMap_cons, List.flatMap_nil, List.append_nil, List.take_of_length_le (by rw [hl]; simp)]
/-- an entry that is being built, in block g; its lines lie apart; so do the shares -/
structure Bld (W0 W : World) (g : Nat) (ref : ByteArray) (ent per : Int) (v : Value) (ls : List Line) (SA : Option Addr) (out : List Int) : Prop where
  bl : Below W0.heap.size W0 W
  c0 : W.cell? ⟨g, 0, none⟩ = some (.string ref)
  c1 : W.cell? ⟨g, 1, none⟩ = some (.int .i64 ent)
  c2 : W.cell? ⟨g, 2, none⟩ = some (.int .i64 per)
  c3 : W.cell? ⟨g, 3, none⟩ = some v
  fz : W.frozen? ⟨g, 3, none⟩ = false
  ow : Own W W0.heap.size 59 3 lineEnc v ls
  gB : W0.heap.size ≤ g
  vg : v.ownBlock ≠ some g
  rS : Rd W 1 intEnc2 SA out.length out
  sb : ∀ q off s, SA = some ⟨q, off, s⟩ → q < W.heap.size ∧ q ≠ g ∧ v.ownBlock ≠ some q
theorem Bld.below {W0 W W' : World} {g : Nat} {ref : ByteArray} {ent per : Int} {v : Value} {ls : List Line} {SA : Option Addr} {out : List Int} (h : Bld W0 W g ref ent per v ls SA out) (hb : Below W.heap.size W W') : Bld W0 W' g ref ent per v ls SA out := by
  have hg := World.block_lt_of_cell? _ _ h.c0
  exact ⟨h.bl.trans (hb.mono h.bl.size), below_cell hb hg h.c0, below_cell hb hg h.c1, below_cell hb hg h.c2, below_cell hb hg h.c3, (hb.frozen (p := ⟨g, 3, none⟩) hg).trans h.fz, h.ow.below hb, h.gB, h.vg, h.rS.below hb, fun q off s e => ⟨Nat.lt_of_lt_of_le (h.sb q off s e).1 hb.size, (h.sb q off s e).2⟩⟩
theorem Bld.make {W0 Wa W1 : World} (ref : ByteArray) (ent per : Int) (y : Line) (h0 : Below W0.heap.size W0 Wa) (h1 : Below (Wa.alloc (.cells #[.string y.acc, .string y.cur, .int .i64 y.amt] 59)).heap.size (Wa.alloc (.cells #[.string y.acc, .string y.cur, .int .i64 y.amt] 59)) W1) :
    Bld W0 (W1.alloc (.cells #[.string ref, .int .i64 ent, .int .i64 per, .slice (some ⟨Wa.heap.size, 0, none⟩) 1 1] 57)) W1.heap.size ref ent per (.slice (some ⟨Wa.heap.size, 0, none⟩) 1 1) [y] none [] := by
  have hA : Below Wa.heap.size Wa (Wa.alloc (.cells #[.string y.acc, .string y.cur, .int .i64 y.amt] 59)) := (Below.refl _ _).alloc (Nat.le_refl _) _
  have hs : (Wa.alloc (.cells #[.string y.acc, .string y.cur, .int .i64 y.amt] 59)).heap.size = Wa.heap.size + 1 := by simp
  have hO := Own.lit1 lineEnc_ok Wa W0.heap.size 59 y #[.string y.acc, .string y.cur, .int .i64 y.amt] rfl h0.size
  have h2 : Below W1.heap.size W1 (W1.alloc (.cells #[.string ref, .int .i64 ent, .int .i64 per, .slice (some ⟨Wa.heap.size, 0, none⟩) 1 1] 57)) := (Below.refl _ _).alloc (Nat.le_refl _) _
  have h3 := h1.size
  have h4 := h0.size
  refine ⟨((h0.trans (hA.mono h4)).trans (h1.mono (by omega))).trans (h2.mono (by omega)), by simp, by simp, by simp, by simp, by simp, (hO.below h1).below h2, by omega, fun e => ?_, ⟨rfl, fun h => absurd h (by simp)⟩, fun q off s e => by cases e⟩
  have e : some Wa.heap.size = some W1.heap.size := e
  injection e with e
  omega
theorem heap_of_cellsL {w : World} {g : Nat} {cs : Array Value} {e : TypeId} (h : w.heap[g]? = some (.cells cs e (0, 0))) (k : Nat) : w.cell? ⟨g, k, none⟩ = cs[k]? := cell_of_row w g k cs e (0, 0) h
theorem heap_ltL {w : World} {g : Nat} {o : Obj} (h : w.heap[g]? = some o) : g < w.heap.size := by
  rcases Nat.lt_or_ge g w.heap.size with hlt | hge
  · exact hlt
  · rw [Array.getElem?_eq_none hge] at h; cases h
theorem heap_keepL {w : World} {g : Nat} {o o' : Obj} (h : w.heap[g]? = some o) : (w.alloc o').heap[g]? = some o := (((Below.refl w.heap.size w).alloc (Nat.le_refl _) o').block g (heap_ltL h)).trans h
/-- from the two blocks -/
theorem Bld.of {W0 W : World} {g lb : Nat} {ref : ByteArray} {ent per : Int} {y : Line} (hb : Below W0.heap.size W0 W) (hg : W.heap[g]? = some (.cells #[.string ref, .int .i64 ent, .int .i64 per, .slice (some ⟨lb, 0, none⟩) 1 1] 57)) (hl : W.heap[lb]? = some (.cells #[.string y.acc, .string y.cur, .int .i64 y.amt] 59)) (h0 : W0.heap.size ≤ g) (h1 : W0.heap.size ≤ lb) (hne : lb ≠ g) :
    Bld W0 W g ref ent per (.slice (some ⟨lb, 0, none⟩) 1 1) [y] none [] := by
  refine ⟨hb, heap_of_cellsL hg 0, heap_of_cellsL hg 1, heap_of_cellsL hg 2, heap_of_cellsL hg 3, frozen_of_row W g 3 _ _ hg, ⟨rfl, .inr ⟨lb, 1, #[.string y.acc, .string y.cur, .int .i64 y.amt], rfl, h1, hl, by simp, by unfold maxLen; simp, rfl, rfl⟩⟩, h0, fun e => hne (Option.some.inj e), ⟨rfl, fun h => absurd h (by simp)⟩, fun q off s e => by cases e⟩
theorem put4L {W : World} {g : Nat} {a b c d : Value} (h : W.heap[g]? = some (.cells #[.string ⟨#[]⟩, .int .i64 0, .int .i64 0, .slice none 0 0] 57)) : ((((W.setCell ⟨g, 0, none⟩ a).setCell ⟨g, 1, none⟩ b).setCell ⟨g, 2, none⟩ c).setCell ⟨g, 3, none⟩ d).heap[g]? = some (.cells #[a, b, c, d] 57) :=
  heap_setCell_same _ g _ _ _ _ (heap_setCell_same _ g _ _ _ _ (heap_setCell_same _ g _ _ _ _ (heap_setCell_same _ g _ _ _ _ h)))
theorem other4L {W : World} {g q : Nat} {a b c d : Value} {o : Obj} (h : W.heap[q]? = some o) (hne : q ≠ g) : ((((W.setCell ⟨g, 0, none⟩ a).setCell ⟨g, 1, none⟩ b).setCell ⟨g, 2, none⟩ c).setCell ⟨g, 3, none⟩ d).heap[q]? = some o :=
  (Below.heap_setCell _ ⟨g, 3, none⟩ _ q hne).trans ((Below.heap_setCell _ ⟨g, 2, none⟩ _ q hne).trans ((Below.heap_setCell _ ⟨g, 1, none⟩ _ q hne).trans ((Below.heap_setCell _ ⟨g, 0, none⟩ _ q hne).trans h)))
theorem below4L {W0 W : World} {B g : Nat} {a b c d : Value} (h : Below B W0 W) (hg : B ≤ g) : Below B W0 ((((W.setCell ⟨g, 0, none⟩ a).setCell ⟨g, 1, none⟩ b).setCell ⟨g, 2, none⟩ c).setCell ⟨g, 3, none⟩ d) := (((h.setCell hg _).setCell hg _).setCell hg _).setCell hg _
section
variable {W0 w3 : World} {ref : ByteArray} {ent per : Int} {y : Line}
theorem al1L (w : World) (o : Obj) : Below w.heap.size w (w.alloc o) := (Below.refl _ _).alloc (Nat.le_refl _) _
theorem asL (w : World) (o : Obj) : (w.alloc o).heap.size = w.heap.size + 1 := by simp
theorem zfL {w : World} {g : Nat} (h : w.heap[g]? = some (.cells #[.string ⟨#[]⟩, .int .i64 0, .int .i64 0, .slice none 0 0] 57)) : w.cell? ⟨g, 0, none⟩ = some (.string ⟨#[]⟩) ∧ w.cell? ⟨g, 1, none⟩ = some (.int .i64 0) ∧ w.cell? ⟨g, 2, none⟩ = some (.int .i64 0) ∧ w.cell? ⟨g, 3, none⟩ = some (.slice none 0 0) ∧ w.frozen? ⟨g, 0, none⟩ = false ∧ w.frozen? ⟨g, 1, none⟩ = false ∧ w.frozen? ⟨g, 2, none⟩ = false ∧ w.frozen? ⟨g, 3, none⟩ = false :=
  ⟨heap_of_cellsL h 0, heap_of_cellsL h 1, heap_of_cellsL h 2, heap_of_cellsL h 3, frozen_of_row w g 0 _ _ h, frozen_of_row w g 1 _ _ h, frozen_of_row w g 2 _ _ h, frozen_of_row w g 3 _ _ h⟩
theorem zb2L {W0 w3 : World} (h : Below (W0.alloc (.cells #[.string ⟨#[]⟩, .int .i64 0, .int .i64 0, .slice none 0 0] 57)).heap.size (W0.alloc (.cells #[.string ⟨#[]⟩, .int .i64 0, .int .i64 0, .slice none 0 0] 57)) w3) : w3.heap[W0.heap.size]? = some (.cells #[.string ⟨#[]⟩, .int .i64 0, .int .i64 0, .slice none 0 0] 57) := by
  have e := heap_alloc_new W0 (.cells #[.string ⟨#[]⟩, .int .i64 0, .int .i64 0, .slice none 0 0] 57)
  exact (h.block _ (heap_ltL e)).trans e
theorem zb3L {W0 w3 : World} {o : Obj} (h : Below ((W0.alloc o).alloc (.cells #[.string ⟨#[]⟩, .int .i64 0, .int .i64 0, .slice none 0 0] 57)).heap.size ((W0.alloc o).alloc (.cells #[.string ⟨#[]⟩, .int .i64 0, .int .i64 0, .slice none 0 0] 57)) w3) : w3.heap[W0.heap.size + 1]? = some (.cells #[.string ⟨#[]⟩, .int .i64 0, .int .i64 0, .slice none 0 0] 57) := by
  have e := heap_alloc_new (W0.alloc o) (.cells #[.string ⟨#[]⟩, .int .i64 0, .int .i64 0, .slice none 0 0] 57)
  rw [asL] at e
  exact (h.block _ (heap_ltL e)).trans e
theorem zb4L {W0 w3 : World} {o : Obj} (h : Below ((W0.alloc (.cells #[.string ⟨#[]⟩, .int .i64 0, .int .i64 0, .slice none 0 0] 57)).alloc o).heap.size ((W0.alloc (.cells #[.string ⟨#[]⟩, .int .i64 0, .int .i64 0, .slice none 0 0] 57)).alloc o) w3) : w3.heap[W0.heap.size]? = some (.cells #[.string ⟨#[]⟩, .int .i64 0, .int .i64 0, .slice none 0 0] 57) := by
  have e := heap_keepL (o' := o) (heap_alloc_new W0 (.cells #[.string ⟨#[]⟩, .int .i64 0, .int .i64 0, .slice none 0 0] 57))
  exact (h.block _ (heap_ltL e)).trans e
theorem Bld.o3 (h : Below W0.heap.size W0 w3) : Bld W0 ((((((w3.alloc (.cells #[.string ⟨#[]⟩, .int .i64 0, .int .i64 0, .slice none 0 0] 57)).alloc (.cells #[.string y.acc, .string y.cur, .int .i64 y.amt] 59)).setCell ⟨w3.heap.size, 0, none⟩ (.string ref)).setCell ⟨w3.heap.size, 1, none⟩ (.int .i64 ent)).setCell ⟨w3.heap.size, 2, none⟩ (.int .i64 per)).setCell ⟨w3.heap.size, 3, none⟩ (.slice (some ⟨w3.heap.size + 1, 0, none⟩) 1 1)) w3.heap.size ref ent per (.slice (some ⟨w3.heap.size + 1, 0, none⟩) 1 1) [y] none [] := by
  have s := h.size
  have e1 := heap_keepL (o' := (.cells #[.string y.acc, .string y.cur, .int .i64 y.amt] 59)) (heap_alloc_new w3 (.cells #[.string ⟨#[]⟩, .int .i64 0, .int .i64 0, .slice none 0 0] 57))
  have e2 := heap_alloc_new (w3.alloc (.cells #[.string ⟨#[]⟩, .int .i64 0, .int .i64 0, .slice none 0 0] 57)) (.cells #[.string y.acc, .string y.cur, .int .i64 y.amt] 59)
  rw [asL] at e2
  exact Bld.of (below4L (h.trans (((al1L w3 (.cells #[.string ⟨#[]⟩, .int .i64 0, .int .i64 0, .slice none 0 0] 57)).trans ((al1L _ (.cells #[.string y.acc, .string y.cur, .int .i64 y.amt] 59)).mono (by simp))).mono s)) s) (put4L e1) (other4L e2 (by omega)) s (by omega) (by omega)
theorem Bld.o4 (h : Below ((W0.alloc (.cells #[.string y.acc, .string y.cur, .int .i64 y.amt] 59)).alloc (.cells #[.string ⟨#[]⟩, .int .i64 0, .int .i64 0, .slice none 0 0] 57)).heap.size ((W0.alloc (.cells #[.string y.acc, .string y.cur, .int .i64 y.amt] 59)).alloc (.cells #[.string ⟨#[]⟩, .int .i64 0, .int .i64 0, .slice none 0 0] 57)) w3) : Bld W0 ((((w3.setCell ⟨W0.heap.size + 1, 0, none⟩ (.string ref)).setCell ⟨W0.heap.size + 1, 1, none⟩ (.int .i64 ent)).setCell ⟨W0.heap.size + 1, 2, none⟩ (.int .i64 per)).setCell ⟨W0.heap.size + 1, 3, none⟩ (.slice (some ⟨W0.heap.size, 0, none⟩) 1 1)) (W0.heap.size + 1) ref ent per (.slice (some ⟨W0.heap.size, 0, none⟩) 1 1) [y] none [] := by
  have e1 := heap_alloc_new (W0.alloc (.cells #[.string y.acc, .string y.cur, .int .i64 y.amt] 59)) (.cells #[.string ⟨#[]⟩, .int .i64 0, .int .i64 0, .slice none 0 0] 57)
  have e2 := heap_keepL (o' := (.cells #[.string ⟨#[]⟩, .int .i64 0, .int .i64 0, .slice none 0 0] 57)) (heap_alloc_new W0 (.cells #[.string y.acc, .string y.cur, .int .i64 y.amt] 59))
  rw [asL] at e1
  have e1 := (h.block _ (heap_ltL e1)).trans e1
  have e2 := (h.block _ (heap_ltL e2)).trans e2
  exact Bld.of (below4L (((al1L W0 (.cells #[.string y.acc, .string y.cur, .int .i64 y.amt] 59)).trans ((al1L _ (.cells #[.string ⟨#[]⟩, .int .i64 0, .int .i64 0, .slice none 0 0] 57)).mono (by simp))).trans (h.mono (by simp; omega))) (by omega)) (put4L e1) (other4L e2 (by omega)) (by omega) (by omega) (by omega)
theorem Bld.o5 (h : Below ((W0.alloc (.cells #[.string ⟨#[]⟩, .int .i64 0, .int .i64 0, .slice none 0 0] 57)).alloc (.cells #[.string y.acc, .string y.cur, .int .i64 y.amt] 59)).heap.size ((W0.alloc (.cells #[.string ⟨#[]⟩, .int .i64 0, .int .i64 0, .slice none 0 0] 57)).alloc (.cells #[.string y.acc, .string y.cur, .int .i64 y.amt] 59)) w3) : Bld W0 ((((w3.setCell ⟨W0.heap.size, 0, none⟩ (.string ref)).setCell ⟨W0.heap.size, 1, none⟩ (.int .i64 ent)).setCell ⟨W0.heap.size, 2, none⟩ (.int .i64 per)).setCell ⟨W0.heap.size, 3, none⟩ (.slice (some ⟨W0.heap.size + 1, 0, none⟩) 1 1)) W0.heap.size ref ent per (.slice (some ⟨W0.heap.size + 1, 0, none⟩) 1 1) [y] none [] := by
  have e1 := heap_keepL (o' := (.cells #[.string y.acc, .string y.cur, .int .i64 y.amt] 59)) (heap_alloc_new W0 (.cells #[.string ⟨#[]⟩, .int .i64 0, .int .i64 0, .slice none 0 0] 57))
  have e2 := heap_alloc_new (W0.alloc (.cells #[.string ⟨#[]⟩, .int .i64 0, .int .i64 0, .slice none 0 0] 57)) (.cells #[.string y.acc, .string y.cur, .int .i64 y.amt] 59)
  rw [asL] at e2
  have e1 := (h.block _ (heap_ltL e1)).trans e1
  have e2 := (h.block _ (heap_ltL e2)).trans e2
  exact Bld.of (below4L (((al1L W0 (.cells #[.string ⟨#[]⟩, .int .i64 0, .int .i64 0, .slice none 0 0] 57)).trans ((al1L _ (.cells #[.string y.acc, .string y.cur, .int .i64 y.amt] 59)).mono (by simp))).trans (h.mono (by simp; omega))) (by omega)) (put4L e1) (other4L e2 (by omega)) (by omega) (by omega) (by omega)
theorem Bld.o6 (h : Below (W0.alloc (.cells #[.string ⟨#[]⟩, .int .i64 0, .int .i64 0, .slice none 0 0] 57)).heap.size (W0.alloc (.cells #[.string ⟨#[]⟩, .int .i64 0, .int .i64 0, .slice none 0 0] 57)) w3) : Bld W0 (((((w3.alloc (.cells #[.string y.acc, .string y.cur, .int .i64 y.amt] 59)).setCell ⟨W0.heap.size, 0, none⟩ (.string ref)).setCell ⟨W0.heap.size, 1, none⟩ (.int .i64 ent)).setCell ⟨W0.heap.size, 2, none⟩ (.int .i64 per)).setCell ⟨W0.heap.size, 3, none⟩ (.slice (some ⟨w3.heap.size, 0, none⟩) 1 1)) W0.heap.size ref ent per (.slice (some ⟨w3.heap.size, 0, none⟩) 1 1) [y] none [] := by
  have s := h.size
  rw [asL] at s
  have e1 := heap_alloc_new W0 (.cells #[.string ⟨#[]⟩, .int .i64 0, .int .i64 0, .slice none 0 0] 57)
  have e1 := (h.block _ (heap_ltL e1)).trans e1
  have e1 := heap_keepL (o' := (.cells #[.string y.acc, .string y.cur, .int .i64 y.amt] 59)) e1
  have e2 := heap_alloc_new w3 (.cells #[.string y.acc, .string y.cur, .int .i64 y.amt] 59)
  exact Bld.of (below4L (((al1L W0 (.cells #[.string ⟨#[]⟩, .int .i64 0, .int .i64 0, .slice none 0 0] 57)).trans (h.mono (by simp))).trans ((al1L w3 (.cells #[.string y.acc, .string y.cur, .int .i64 y.amt] 59)).mono (by omega))) (by omega)) (put4L e1) (other4L e2 (by omega)) (by omega) (by omega) (by omega)
theorem Bld.o7 (h : Below W0.heap.size W0 w3) : Bld W0 ((w3.alloc (.cells #[.string ref, .int .i64 ent, .int .i64 per, .slice (some ⟨w3.heap.size + 1, 0, none⟩) 1 1] 57)).alloc (.cells #[.string y.acc, .string y.cur, .int .i64 y.amt] 59)) w3.heap.size ref ent per (.slice (some ⟨w3.heap.size + 1, 0, none⟩) 1 1) [y] none [] := by
  have s := h.size
  have e1 := heap_keepL (o' := (.cells #[.string y.acc, .string y.cur, .int .i64 y.amt] 59)) (heap_alloc_new w3 (.cells #[.string ref, .int .i64 ent, .int .i64 per, .slice (some ⟨w3.heap.size + 1, 0, none⟩) 1 1] 57))
  have e2 := heap_alloc_new (w3.alloc (.cells #[.string ref, .int .i64 ent, .int .i64 per, .slice (some ⟨w3.heap.size + 1, 0, none⟩) 1 1] 57)) (.cells #[.string y.acc, .string y.cur, .int .i64 y.amt] 59)
  rw [asL] at e2
  exact Bld.of (h.trans (((al1L w3 _).trans ((al1L _ (.cells #[.string y.acc, .string y.cur, .int .i64 y.amt] 59)).mono (by simp))).mono s)) e1 e2 s (by omega) (by omega)
theorem Bld.makeM {W0 Wa W1 : World} (m : Nat) (hm : m = Wa.heap.size) (ref : ByteArray) (ent per : Int) (y : Line) (h0 : Below W0.heap.size W0 Wa) (h1 : Below (Wa.alloc (.cells #[.string y.acc, .string y.cur, .int .i64 y.amt] 59)).heap.size (Wa.alloc (.cells #[.string y.acc, .string y.cur, .int .i64 y.amt] 59)) W1) :
    Bld W0 (W1.alloc (.cells #[.string ref, .int .i64 ent, .int .i64 per, .slice (some ⟨m, 0, none⟩) 1 1] 57)) W1.heap.size ref ent per (.slice (some ⟨m, 0, none⟩) 1 1) [y] none [] := by
  subst hm; exact Bld.make ref ent per y h0 h1
theorem Bld.o4M (m : Nat) (hm : m = W0.heap.size) (h : Below ((W0.alloc (.cells #[.string y.acc, .string y.cur, .int .i64 y.amt] 59)).alloc (.cells #[.string ⟨#[]⟩, .int .i64 0, .int .i64 0, .slice none 0 0] 57)).heap.size ((W0.alloc (.cells #[.string y.acc, .string y.cur, .int .i64 y.amt] 59)).alloc (.cells #[.string ⟨#[]⟩, .int .i64 0, .int .i64 0, .slice none 0 0] 57)) w3) : Bld W0 ((((w3.setCell ⟨m + 1, 0, none⟩ (.string ref)).setCell ⟨m + 1, 1, none⟩ (.int .i64 ent)).setCell ⟨m + 1, 2, none⟩ (.int .i64 per)).setCell ⟨m + 1, 3, none⟩ (.slice (some ⟨m, 0, none⟩) 1 1)) (m + 1) ref ent per (.slice (some ⟨m, 0, none⟩) 1 1) [y] none [] := by
  subst hm; exact Bld.o4 h
theorem Bld.o5M (m : Nat) (hm : m = W0.heap.size) (h : Below ((W0.alloc (.cells #[.string ⟨#[]⟩, .int .i64 0, .int .i64 0, .slice none 0 0] 57)).alloc (.cells #[.string y.acc, .string y.cur, .int .i64 y.amt] 59)).heap.size ((W0.alloc (.cells #[.string ⟨#[]⟩, .int .i64 0, .int .i64 0, .slice none 0 0] 57)).alloc (.cells #[.string y.acc, .string y.cur, .int .i64 y.amt] 59)) w3) : Bld W0 ((((w3.setCell ⟨m, 0, none⟩ (.string ref)).setCell ⟨m, 1, none⟩ (.int .i64 ent)).setCell ⟨m, 2, none⟩ (.int .i64 per)).setCell ⟨m, 3, none⟩ (.slice (some ⟨m + 1, 0, none⟩) 1 1)) m ref ent per (.slice (some ⟨m + 1, 0, none⟩) 1 1) [y] none [] := by
  subst hm; exact Bld.o5 h
theorem Bld.o6M (m : Nat) (hm : m = W0.heap.size) (h : Below (W0.alloc (.cells #[.string ⟨#[]⟩, .int .i64 0, .int .i64 0, .slice none 0 0] 57)).heap.size (W0.alloc (.cells #[.string ⟨#[]⟩, .int .i64 0, .int .i64 0, .slice none 0 0] 57)) w3) : Bld W0 (((((w3.alloc (.cells #[.string y.acc, .string y.cur, .int .i64 y.amt] 59)).setCell ⟨m, 0, none⟩ (.string ref)).setCell ⟨m, 1, none⟩ (.int .i64 ent)).setCell ⟨m, 2, none⟩ (.int .i64 per)).setCell ⟨m, 3, none⟩ (.slice (some ⟨w3.heap.size, 0, none⟩) 1 1)) m ref ent per (.slice (some ⟨w3.heap.size, 0, none⟩) 1 1) [y] none [] := by
  subst hm; exact Bld.o6 h
end
theorem Bld.shares {W0 W W' : World} {g : Nat} {ref : ByteArray} {ent per : Int} {v : Value} {ls : List Line} {A : Option Addr} {n c : Nat} {out : List Int} (h : Bld W0 W g ref ent per v ls none []) (hb : Below W.heap.size W W') (hO : Own W' W.heap.size 3 1 intEnc2 (.slice A n c) out) : Bld W0 W' g ref ent per v ls A out := by
  have h2 := h.below hb
  have hg : g < W.heap.size := World.block_lt_of_cell? _ _ h.c0
  have hr := hO.rd intEnc2_ok
  obtain rfl := hr.1
  refine ⟨h2.bl, h2.c0, h2.c1, h2.c2, h2.c3, h2.fz, h2.ow, h2.gB, h2.vg, hr, fun q off s e => ?_⟩
  have hq : off = 0 ∧ s = none := by
    rcases hO.2 with ⟨hv, h0⟩ | ⟨g9, cap9, cur9, hv, _⟩
    · injection hv with e1; rw [e1] at e; cases e
    · injection hv with e1; rw [e1] at e; injection e with e; injection e with _ e3 e4; exact ⟨e3.symm, e4.symm⟩
  obtain ⟨rfl, rfl⟩ := hq
  subst e
  have h5 := hO.block q rfl
  refine ⟨h5.2, by omega, fun e => ?_⟩
  have := (h.ow.block q e).2
  omega
theorem Bld.step {W0 W w8 : World} {g : Nat} {ref : ByteArray} {ent per : Int} {v v' : Value} {ls : List Line} {SA : Option Addr} {out : List Int} (y : Line) (h : Bld W0 W g ref ent per v ls SA out) (o : Obj)
    (hO : Own w8 W0.heap.size 59 3 lineEnc v' (ls ++ [y])) (hg8 : (W.alloc o).drew.grownBy w8 v.ownBlock) (hat : v'.ownBlock = v.ownBlock ∨ v'.ownBlock = some (W.alloc o).drew.heap.size) :
    Bld W0 (w8.setCell ⟨g, 3, none⟩ v') g ref ent per v' (ls ++ [y]) SA out := by
  have hb : Below W.heap.size W (W.alloc o).drew := ((Below.refl _ _).alloc (Nat.le_refl _) _).drew
  have h1 := h.below hb
  have hgl : g < (W.alloc o).drew.heap.size := World.block_lt_of_cell? _ _ h1.c0
  have k3 := hg8.cell h1.c3 (fun e => h1.vg e.symm)
  have hvg : v'.ownBlock ≠ some g := by
    rcases hat with e | e
    · rw [e]; exact h1.vg
    · rw [e]; intro e2; have e2 := Option.some.inj e2; omega
  have hset : w8.grownBy (w8.setCell ⟨g, 3, none⟩ v') (some g) := only_setCell (only_refl _ _) _ _
  have hB8 : Below W0.heap.size W0 w8 := h1.bl.grown hg8 h1.bl.size (fun q e => (h1.ow.block q e).1)
  refine ⟨hB8.setCell h1.gB _, (World.cell?_setCell_other _ _ _ _ (by simp)).trans (hg8.cell h1.c0 (fun e => h1.vg e.symm)), (World.cell?_setCell_other _ _ _ _ (by simp)).trans (hg8.cell h1.c1 (fun e => h1.vg e.symm)), (World.cell?_setCell_other _ _ _ _ (by simp)).trans (hg8.cell h1.c2 (fun e => h1.vg e.symm)), World.cell?_setCell_same _ _ _ k3, ?_, hO.grown hset (.inr hvg), h1.gB, hvg, ?_, ?_⟩
  · have f3 := frozen_grown2 h1.fz hgl hg8 h1.vg
    simp [f3]
  · exact (h1.rS.grownX hg8 (fun q off s e => fun e2 => (h1.sb q off s e).2.2 e2.symm)).grownX hset (fun q off s e => fun e2 => (h1.sb q off s e).2.1 (by injection e2))
  · intro q off s e
    obtain ⟨s1, s2, s3⟩ := h1.sb q off s e
    refine ⟨Nat.lt_of_lt_of_le s1 (Nat.le_trans hg8.size hset.size), s2, ?_⟩
    rcases hat with e2 | e2
    · rw [e2]; exact s3
    · rw [e2]; intro e3; have e3 := Option.some.inj e3; omega

/-- behind the append, ahead of the store -/
theorem Bld.push {W0 W w8 : World} {g : Nat} {ref : ByteArray} {ent per : Int} {v : Value} {ls : List Line} {SA : Option Addr} {out : List Int} (h : Bld W0 W g ref ent per v ls SA out) (o : Obj) (hg8 : (W.alloc o).drew.grownBy w8 v.ownBlock) :
    w8.cell? ⟨g, 3, none⟩ = some v ∧ w8.frozen? ⟨g, 3, none⟩ = false := by
  have hb : Below W.heap.size W (W.alloc o).drew := ((Below.refl _ _).alloc (Nat.le_refl _) _).drew
  have h1 := h.below hb
  have hgl : g < (W.alloc o).drew.heap.size := World.block_lt_of_cell? _ _ h1.c0
  exact ⟨hg8.cell h1.c3 (fun e => h1.vg e.symm), frozen_grown2 h1.fz hgl hg8 h1.vg⟩

theorem giveTo_no {p : Pol} {s : List Int} {k : Nat} (h1 : k < p.to.length) (h2 : k < s.length) (h : s[k] = 0) : giveTo p s (k + 1) = giveTo p s k := by rw [giveTo_succ h1 h2, if_neg (by simpa using h), List.append_nil]
theorem giveTo_yes {p : Pol} {s : List Int} {k : Nat} (h1 : k < p.to.length) (h2 : k < s.length) (h : s[k] ≠ 0) : giveTo p s (k + 1) = giveTo p s k ++ [⟨p.to[k], p.cur, s[k]⟩] := by rw [giveTo_succ h1 h2, if_pos h]
theorem shared_len {T : Int} {ws out : List Int} (h : Shared T ws out) : out.length = ws.length := by
  obtain ⟨ord, _, _, rfl⟩ := h
  rw [bump_len, List.length_map]

theorem keepL {w : World} {g : Nat} {a c : ByteArray} (o' : Obj) (h : w.cell? ⟨g, 0, none⟩ = some (.string a) ∧ w.cell? ⟨g, 1, none⟩ = some (.string c)) : (w.alloc o').cell? ⟨g, 0, none⟩ = some (.string a) ∧ (w.alloc o').cell? ⟨g, 1, none⟩ = some (.string c) :=
  have k : ∀ {b o : Nat} {u : Value}, w.cell? ⟨b, o, none⟩ = some u → (w.alloc o').cell? ⟨b, o, none⟩ = some u := fun hc => below_cell ((Below.refl w.heap.size w).alloc (Nat.le_refl _) _) (World.block_lt_of_cell? _ _ hc) hc
  ⟨k h.1, k h.2⟩
end Go.Proofs.YtbdbpcllndajgaaGreatDoor

namespace Go.Proofs.YtbdbpcllndajgaaGreatDoor
open Go Go.RowKit
set_option linter.unusedVariables false

/-- what comes of weights: all together is the whole, each on the whole's side -/
theorem shared_law {T : Int} {ws out : List Int} (hw : shE ws = 0) (h : Shared T ws out) : out.length = ws.length ∧ out.sum = T ∧ (0 ≤ T → ∀ x ∈ out, 0 ≤ x) ∧ (T ≤ 0 → ∀ x ∈ out, x ≤ 0) := by
  obtain ⟨ord, hp, _, ho⟩ := h
  obtain ⟨_, h2, h3⟩ := shE_good hw
  exact shares_law h3 (fun x hx => (h2 x hx).1) rfl hp ho
theorem shared_bnd {T : Int} {ws out : List Int} (hw : shE ws = 0) (h : Shared T ws out) (h1 : -1000000000000000 ≤ T) (h2 : T ≤ 1000000000000000) : ∀ x ∈ out, -1000000000000000 ≤ x ∧ x ≤ 1000000000000000 := by
  obtain ⟨_, hs, hp, hn⟩ := shared_law hw h
  intro x hx
  by_cases h0 : 0 ≤ T
  · have a := hp h0
    have b := (sum_nonneg out a).2 x hx
    have c := a x hx
    omega
  · have a := hn (by omega)
    have b := (sum_nonpos out a).2 x hx
    have c := a x hx
    omega
section
variable {c : List Acc} {l : List Pol} {b : List Bal} {ent per : Int} {dg : Nat → ByteArray} {p : Pol} {ref : ByteArray} {n : Int} {out : List Int}
theorem pool_apart (hp : poolE c p = 0) : p.acc ∉ p.to := by
  obtain ⟨_, _, _, _, _, hto, _⟩ := poolE_0 hp
  intro h
  obtain ⟨i, hi, e⟩ := List.getElem_of_mem h
  have h1 := firstE_0 hto i hi
  rw [toAt_some hi] at h1
  split at h1
  · rename_i h2; exact h2 h1
  · rw [if_pos (.inl (by rw [e]))] at h1
    cases h1
/-- of one pool -/
theorem gave_one {cs : List Core} (h : GaveTo l b ent per dg 1 cs) (hl : 0 < l.length) : (cs = [] ∧ getB b ent l[0].acc l[0].cur = 0) ∨
    (getB b ent l[0].acc l[0].cur ≠ 0 ∧ inB (-1000000000000000) 1000000000000000 (getB b ent l[0].acc l[0].cur) = true ∧ ∃ out, Shared (getB b ent l[0].acc l[0].cur) l[0].ws out ∧ cs = [giveCore ent per (refL ++ dg 0) l[0] (getB b ent l[0].acc l[0].cur) out]) := by
  have hz : ∀ k cs, GaveTo l b ent per dg k cs → k = 0 → cs = [] := by
    intro k cs h hk
    cases h with
    | zero => rfl
    | skip => omega
    | give => omega
  cases h with
  | skip h' _ h0 => exact .inl ⟨hz _ _ h' rfl, h0⟩
  | give h' _ h0 h1 hs => exact .inr ⟨h0, h1, _, hs, by rw [hz _ _ h' rfl]; rfl⟩
/-- a pool that has nothing gives nothing -/
theorem again_none {cs : List Core} (hl : 0 < l.length) (h0 : getB b ent l[0].acc l[0].cur = 0) (h : GaveTo l b ent per dg 1 cs) : cs = [] := by
  rcases gave_one h hl with ⟨h1, _⟩ | ⟨h1, _⟩
  · exact h1
  · exact absurd h0 h1
theorem again_ok (hl : l.length = 1) (h1 : poolsE c l = 0) (h2 : balsE b = 0) (h3 : atEL ent per = 0) (h0 : getB b ent (l[0]'(by omega)).acc (l[0]'(by omega)).cur = 0) : allotE c l b ent per = 0 := by
  rw [allotE_4 h1 h2 h3, hl]
  have hk : 0 < l.length := by omega
  have h := have_0 hk h0
  rw [firstE_succ rfl]
  exact h
theorem allotE_0 (h : allotE c l b ent per = 0) : poolsE c l = 0 ∧ balsE b = 0 ∧ atEL ent per = 0 := by
  by_cases h1 : poolsE c l = 0
  · by_cases h2 : balsE b = 0
    · by_cases h3 : atEL ent per = 0
      · exact ⟨h1, h2, h3⟩
      · rw [allotE_3 h1 h2 h3] at h; exact absurd h h3
    · rw [allotE_2 h1 h2] at h; exact absurd h h2
  · rw [allotE_1 h1] at h; exact absurd h h1
end
end Go.Proofs.YtbdbpcllndajgaaGreatDoor
