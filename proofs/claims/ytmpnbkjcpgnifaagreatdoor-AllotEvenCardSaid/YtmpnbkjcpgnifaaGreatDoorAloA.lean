/- allot.pool, allot.Check: what they return. -/
import Derived.Test.YtmpnbkjcpgnifaaGreatDoorShrY
import Derived.Test.YtmpnbkjcpgnifaaGreatDoorChartX
import Derived.Test.YtmpnbkjcpgnifaaGreatDoorEntX
namespace Go.Proofs.YtmpnbkjcpgnifaaGreatDoor
open Go Go.RowKit
set_option linter.unusedVariables false

def idxS (l : List ByteArray) (p : ByteArray → Bool) : Int := match l.findIdx? p with | some k => (k : Int) | none => -1
theorem NoTo.hitS {l : List ByteArray} {p : ByteArray → Bool} {k : Nat} (h : NoTo p l k) (hk : k < l.length) (hc : p l[k] = true) : idxS l p = (k : Int) := by
  have : l.findIdx? p = some k := by
    rw [List.findIdx?_eq_some_iff_getElem]
    exact ⟨hk, hc, fun j hj => by rw [h j (by omega) hj]; decide⟩
  simp [idxS, this]
theorem NoTo.missS {l : List ByteArray} {p : ByteArray → Bool} {k : Nat} (h : NoTo p l k) (hk : l.length ≤ k) : idxS l p = -1 := by
  have : l.findIdx? p = none := by
    rw [List.findIdx?_eq_none_iff]
    intro x hx
    obtain ⟨j, hj, rfl⟩ := List.getElem_of_mem hx
    exact h j hj (by omega)
  simp [idxS, this]
theorem idxS_any (l : List ByteArray) (p : ByteArray → Bool) : decide (0 ≤ idxS l p) = l.any p := by
  unfold idxS
  cases h : l.findIdx? p with
  | none =>
    rw [List.findIdx?_eq_none_iff] at h
    have : l.any p = false := by rw [List.any_eq_false]; intro x hx; rw [h x hx]; decide
    rw [this]; rfl
  | some k =>
    obtain ⟨hk, hc, _⟩ := List.findIdx?_eq_some_iff_getElem.1 h
    have : l.any p = true := List.any_eq_true.2 ⟨_, List.getElem_mem hk, hc⟩
    rw [this]; simp
set_option maxRecDepth 100000 in
theorem index_str (l : List ByteArray) (t : ByteArray) (A : Option Addr) (n cap : Nat) (w : World) (hl : n ≤ 9223372036854775807) (ha : Rd w 1 strEnc A n l) :
    Calls Tryz.prog 81 #[.slice A n cap, .string t] w fun e w' => e = .returned (.int .i64 (idxS l (fun s => t.toList == s.toList))) ∧ w' = w := by
  have Hn := hide ha.1
  go_enter Tryz.func81, Tryz.ntmps81
  go_wp2_with fail
  go_loopw [8] (fun i wr => ∃ k : Nat, k ≤ n ∧ i = .int .i64 k ∧ NoTo (fun s => t.toList == s.toList) l k ∧ w = wr) (fun i _ => n - (intOf i).toNat)
  case atStart => exact ⟨0, by omega, rfl, NoTo.zero _ _, rfl⟩
  case round =>
    obtain ⟨k, hk, rfl, hno, rfl⟩ := hrel
    have HNo := hide hno
    clear hno
    by_cases hlt : k < n
    · obtain ⟨b, off, rfl, hcs⟩ := ha.2 (by omega)
      have hkl : k < l.length := by have := Hn.out; omega
      have h0 := hcs k 0 _ hkl rfl
      simp only [Nat.mul_one, Nat.add_zero] at h0
      clear hcs
      have k0 : (0 : Int) ≤ (k : Int) := by omega
      have k1 : (k : Int) < (n : Int) := by omega
      obtain ⟨s, hs⟩ : ∃ s, s = l[k] := ⟨_, rfl⟩
      rw [← hs] at h0
      have HS := hide hs
      clear hs
      cases hq : (t.toList == s.toList) with
      | true =>
        have HP : Hid ((fun s : ByteArray => t.toList == s.toList) l[k] = true) := by show (t.toList == l[k].toList) = true; rw [← HS.out]; exact hq
        go_wp2_with fail
        go_ret
        exact ⟨ret_int (HNo.out.hitS hkl HP.out).symm, rfl⟩
      | false =>
        have HP : Hid ((fun s : ByteArray => t.toList == s.toList) l[k] = false) := by show (t.toList == l[k].toList) = false; rw [← HS.out]; exact hq
        go_wp2_with fail
        go_roundw
        case rel => exact ⟨k + 1, by omega, by go_num, HNo.out.succ hkl HP.out, by first | rfl | trivial⟩
        case measure => simp [intOf]; omega
    · go_wp2_with fail
      go_ret
      exact ⟨ret_int (HNo.out.missS (by have := Hn.out; omega)).symm, rfl⟩
theorem contains_str (l : List ByteArray) (t : ByteArray) (A : Option Addr) (n cap : Nat) (w : World) (hl : n ≤ 9223372036854775807) (ha : Rd w 1 strEnc A n l) :
    Calls Tryz.prog 56 #[.slice A n cap, .string t] w fun e w' => e = .returned (.bool (l.any (fun s => t.toList == s.toList))) ∧ w' = w := by
  have HA := hide (idxS_any l (fun s => t.toList == s.toList))
  go_enter Tryz.func56, Tryz.ntmps56
  go_wp2_with fail
  refine (index_str l t _ _ _ _ hl ha).mono ?_
  rintro e w1 ⟨rfl, rfl⟩
  go_wp2_with fail
  go_ret
  exact ⟨ret_bool HA.out, rfl⟩

section
variable {c : List Acc} {p : Pol}
theorem poolE_1 (h : leafE c p.acc ≠ 0) : poolE c p = leafE c p.acc := if_pos h
theorem poolE_2 (h : leafE c p.acc = 0) (h2 : curB p.cur = false) : poolE c p = 2 := by rw [poolE, if_neg (by rw [h]; decide), if_pos h2]
theorem poolE_3 (h : leafE c p.acc = 0) (h2 : curB p.cur = true) (h3 : p.to.length = 0 ∨ p.to.length ≠ p.ws.length) : poolE c p = 3 := by rw [poolE, if_neg (by rw [h]; decide), if_neg (by rw [h2]; decide), if_pos h3]
theorem poolE_4 (h : leafE c p.acc = 0) (h2 : curB p.cur = true) (h3 : ¬ (p.to.length = 0 ∨ p.to.length ≠ p.ws.length)) (h4 : 19 < p.to.length) : poolE c p = 4 := by rw [poolE, if_neg (by rw [h]; decide), if_neg (by rw [h2]; decide), if_neg h3, if_pos h4]
theorem poolE_5 (h : leafE c p.acc = 0) (h2 : curB p.cur = true) (h3 : ¬ (p.to.length = 0 ∨ p.to.length ≠ p.ws.length)) (h4 : ¬ 19 < p.to.length) {k : Nat} (h5 : firstE (toAt c p) k = 0) (hk : k < p.to.length) (h6 : toAt c p k ≠ 0) : poolE c p = toAt c p k := by
  have h7 := firstE_hit h5 hk h6
  rw [poolE, if_neg (by rw [h]; decide), if_neg (by rw [h2]; decide), if_neg h3, if_neg h4, if_pos (by rw [h7]; exact h6), h7]
theorem poolE_6 (h : leafE c p.acc = 0) (h2 : curB p.cur = true) (h3 : ¬ (p.to.length = 0 ∨ p.to.length ≠ p.ws.length)) (h4 : ¬ 19 < p.to.length) (h5 : firstE (toAt c p) p.to.length = 0) : poolE c p = shE p.ws := by
  rw [poolE, if_neg (by rw [h]; decide), if_neg (by rw [h2]; decide), if_neg h3, if_neg h4, if_neg (by rw [h5]; decide)]
end
/-- a pool in a box of its own -/
structure PolAt (w : World) (g : Nat) (p : Pol) : Prop where
  c0 : w.cell? ⟨g, 0, none⟩ = some (.string p.acc)
  c1 : w.cell? ⟨g, 1, none⟩ = some (.string p.cur)
  c2 : w.cell? ⟨g, 2, none⟩ = some (.slice p.TA p.tn p.tc)
  c3 : w.cell? ⟨g, 3, none⟩ = some (.slice p.WA p.wn p.wc)
theorem PolAt.below {w w' : World} {g : Nat} {p : Pol} (h : PolAt w g p) (hb : Below w.heap.size w w') : PolAt w' g p :=
  ⟨below_cell hb (World.block_lt_of_cell? _ _ h.c0) h.c0, below_cell hb (World.block_lt_of_cell? _ _ h.c1) h.c1, below_cell hb (World.block_lt_of_cell? _ _ h.c2) h.c2, below_cell hb (World.block_lt_of_cell? _ _ h.c3) h.c3⟩
theorem PolAt.new (w : World) (p : Pol) : PolAt (w.alloc (.cells #[.string p.acc, .string p.cur, .slice p.TA p.tn p.tc, .slice p.WA p.wn p.wc] 29)) w.heap.size p := ⟨by simp, by simp, by simp, by simp⟩
theorem Rd.takeQ {α : Type} {enc : α → List Value} {w : World} {sz n i : Nat} {A : Option Addr} {l : List α} (h : Rd w sz enc A n l) (hi : i ≤ n) : Rd w sz enc A i (l.take i) := by
  have hl := h.1
  refine ⟨by rw [List.length_take]; omega, fun h0 => ?_⟩
  obtain ⟨b, off, e, hc⟩ := h.2 (by omega)
  refine ⟨b, off, e, fun k j u hk hu => hc k j u (by rw [List.length_take] at hk; omega) ?_⟩
  rwa [List.getElem_take] at hu

set_option maxHeartbeats 4000000 in
set_option maxRecDepth 100000 in
theorem pool_any (c : List Acc) (CA : Option Addr) (cn ccap : Nat) (p : Pol) (w : World) (hcl : cn ≤ 9223372036854775807) (hc : Accs w CA cn c) (hf : PolFits w p) :
    Calls Tryz.prog 25 #[.slice CA cn ccap, .agg #[.string p.acc, .string p.cur, .slice p.TA p.tn p.tc, .slice p.WA p.wn p.wc]] w fun e w' => e = .returned (errV (poolE c p)) ∧ Below w.heap.size w w' := by
  obtain ⟨TA, hTA⟩ : ∃ TA, TA = p.TA := ⟨_, rfl⟩
  obtain ⟨tn, htn⟩ : ∃ tn, tn = p.tn := ⟨_, rfl⟩
  obtain ⟨wn, hwn⟩ : ∃ wn, wn = p.wn := ⟨_, rfl⟩
  have hb : Below w.heap.size w (w.alloc (.cells #[.string p.acc, .string p.cur, .slice p.TA p.tn p.tc, .slice p.WA p.wn p.wc] 29)) := (Below.refl _ _).alloc (Nat.le_refl _) _
  have hXn := PolAt.new w p
  have hsz : (w.alloc (.cells #[.string p.acc, .string p.cur, .slice p.TA p.tn p.tc, .slice p.WA p.wn p.wc] 29)).heap.size = w.heap.size + 1 := by simp
  have HF := hide hf
  have hcz := hf.cur
  have HCW : Hid (∀ wi : World, Below w.heap.size w wi → Accs wi CA cn c) := fun wi hbi => hc.below hbi
  have HPW : Hid (∀ wi : World, Below w.heap.size w wi → PolFits wi p) := fun wi hbi => hf.below hbi
  have htl : p.to.length = p.tn := hf.to.1
  have hwl : p.ws.length = p.wn := hf.ws.1
  have htm := hf.tm
  have htc := hf.tc
  have HT := hide (And.intro htl (And.intro hwl (And.intro htm htc)))
  have HC0 := hide hc
  rw [← hTA, ← htn, ← hwn] at hb hsz ⊢
  rw [← htn, ← hwn] at HT
  have hX : PolAt (w.alloc (.cells #[.string p.acc, .string p.cur, .slice TA tn p.tc, .slice p.WA wn p.wc] 29)) w.heap.size p := by rw [hTA, htn, hwn]; exact hXn
  clear hXn
  have HTA := hide hTA
  have HTN := hide htn
  have HWN := hide hwn
  clear hf hc htl hwl htm htc hTA htn hwn
  go_enter Tryz.func25, Tryz.ntmps25
  go_upto_region 1 with fail
  generalize w.alloc (.cells #[.string p.acc, .string p.cur, .slice TA tn p.tc, .slice p.WA wn p.wc] 29) = W1 at hb hX hsz ⊢
  have c0 := hX.c0
  by_cases hle : leafE c p.acc = 0
  case neg =>
    have HL := hide hle
    clear hle
    go_wp2_with fail
    refine (leaf_bad c _ _ _ _ _ hcl (HCW.out _ hb) HL.out).mono ?_
    rintro e w1 ⟨rfl, hb1⟩
    go_wp2_with fail
    go_ret
    exact ⟨by rw [poolE_1 HL.out, errV_n HL.out]; rfl, bthen hb (Nat.le_refl _) hb1⟩
  case pos =>
  have HL := hide hle
  clear hle
  go_wp2_with fail
  refine (leaf_ok c _ _ _ _ _ hcl (HCW.out _ hb) HL.out).mono ?_
  rintro e w1 ⟨rfl, hb1⟩
  have hX1 := hX.below hb1
  have hb1 := bthen hb (Nat.le_refl _) hb1
  have hs1 := hb1.size
  clear hX c0 hb hsz
  have c1 := hX1.c1
  go_wp2_with fail
  refine (cur_any p.cur _ hcz).mono ?_
  rintro e w2 ⟨rfl, hb2⟩
  have hX2 := hX1.below hb2
  have hb2 := bthen hb1 (Nat.le_refl _) hb2
  clear c1 hX1 hb1 hs1
  cases hcu : curB p.cur with
  | false =>
    have HU := hide hcu
    clear hcu
    go_wp2_with fail
    go_ret
    exact ⟨by rw [poolE_2 HL.out HU.out]; rfl, hb2⟩
  | true =>
  have HU := hide hcu
  clear hcu
  have c2 := hX2.c2
  have c3 := hX2.c3
  rw [← HTA.out, ← HTN.out] at c2
  rw [← HWN.out] at c3
  by_cases h3 : p.to.length = 0 ∨ p.to.length ≠ p.ws.length
  · have H3 := hide h3
    have HG : Hid (poolE c p = 3) := poolE_3 HL.out HU.out h3
    by_cases h30 : tn = 0
    · have h30' : ((tn : Int) == 0) = true := by rw [beq_iff_eq]; omega
      clear h3
      go_wp2_with fail
      go_ret
      exact ⟨by rw [HG.out]; rfl, hb2⟩
    · have h30' : ((tn : Int) == 0) = false := by rw [beq_eq_false_iff_ne]; omega
      have h31 : ¬ tn = wn := by have := HT.out; omega
      clear h3
      go_wp2_with fail
      go_ret
      exact ⟨by rw [HG.out]; rfl, hb2⟩
  · have H3 := hide h3
    have h30 : ((tn : Int) == 0) = false := by have := HT.out; rw [beq_eq_false_iff_ne]; omega
    have h30' : ¬ tn = 0 := by have := HT.out; omega
    obtain rfl : tn = wn := by have := HT.out; omega
    clear h3
    by_cases h4 : 19 < p.to.length
    · have HG : Hid (poolE c p = 4) := poolE_4 HL.out HU.out H3.out h4
      have h40 : (19 : Int) < (tn : Int) := by have := HT.out; omega
      clear h4
      go_wp2_with fail
      go_ret
      exact ⟨by rw [HG.out]; rfl, hb2⟩
    · have H4 := hide h4
      have h40 : ¬ (19 : Int) < (tn : Int) := by have := HT.out; omega
      clear h4
      go_wp2_with fail
      go_loopw [48] (fun iv wr => ∃ k : Nat, k ≤ tn ∧ iv = .int .i64 k ∧ Hid (firstE (toAt c p) k = 0) ∧ PolAt wr w.heap.size p ∧ Below w.heap.size w wr) (fun iv _ => tn - (intOf iv).toNat)
      case atStart => exact ⟨0, by omega, rfl, hide rfl, hX2, hb2⟩
      case round =>
        clear c2 c3 hX2 hb2
        obtain ⟨k, hk, rfl, HTO, hX, hb⟩ := hrel
        have hsb := hb.size
        by_cases hlt : k < tn
        · have hkl : k < p.to.length := by have := HT.out; omega
          have hto := (HPW.out _ hb).to
          rw [← HTA.out, ← HTN.out] at hto
          obtain ⟨b, off, rfl, hcs⟩ := hto.2 (by omega)
          clear hto
          have q0 := hcs k 0 _ hkl rfl
          simp only [Nat.mul_one, Nat.add_zero] at q0
          clear hcs
          have k0 : (0 : Int) ≤ (k : Int) := by omega
          have k1 : (k : Int) < (tn : Int) := by omega
          have htS := hide (toAt_some (c := c) (p := p) hkl)
          obtain ⟨t, ht⟩ : ∃ t, t = p.to[k] := ⟨_, rfl⟩
          rw [← ht] at q0 htS
          have HTT := hide ht
          clear ht
          by_cases hle : leafE c t = 0
          · have HLT := hide hle
            clear hle
            go_wp2_with fail
            refine (leaf_ok c t _ _ _ _ hcl (HCW.out _ hb) HLT.out).mono ?_
            rintro e w3 ⟨rfl, hb3⟩
            have hX3 := hX.below hb3
            have hb3 := bthen hb (Nat.le_refl _) hb3
            have c0 := hX3.c0
            have c2 := hX3.c2
            rw [← HTA.out, ← HTN.out] at c2
            clear hX hb q0
            cases hq : (t.toList == p.acc.toList) with
            | true =>
              have HG : Hid (poolE c p = 8) := by
                show _ = _
                have h1 : toAt c p k = 8 := by rw [htS.out, if_neg (by rw [HLT.out]; decide), if_pos (.inl (by simpa using hq))]
                rw [poolE_5 HL.out HU.out H3.out H4.out HTO.out hkl (by rw [h1]; decide), h1]
              go_wp2_with fail
              go_ret
              exact ⟨by rw [HG.out]; rfl, hb3⟩
            | false =>
              have hct := hide (contains_str (p.to.take k) t (some ⟨b, off, none⟩) k p.tc w3 (by have := HT.out; omega) (by rw [HTA.out]; exact (HPW.out _ hb3).to.take (by have := HT.out; have := HTN.out; omega)))
              have k2 : (k : Int) ≤ (p.tc : Int) := by have := HT.out; omega
              cases ha : (p.to.take k).any (fun s => t.toList == s.toList) with
              | true =>
                have HG : Hid (poolE c p = 8) := by
                  show _ = _
                  have h1 : toAt c p k = 8 := by rw [htS.out, if_neg (by rw [HLT.out]; decide), if_pos (.inr ha)]
                  rw [poolE_5 HL.out HU.out H3.out H4.out HTO.out hkl (by rw [h1]; decide), h1]
                rw [ha] at hct
                clear ha
                go_wp2_with fail
                refine hct.out.mono ?_
                rintro e w4 ⟨rfl, rfl⟩
                go_wp2_with fail
                go_ret
                exact ⟨by rw [HG.out]; rfl, hb3⟩
              | false =>
                have HG : Hid (toAt c p k = 0) := by
                  show _ = _
                  rw [htS.out, if_neg (by rw [HLT.out]; decide), if_neg]
                  rintro (h | h)
                  · rw [beq_eq_false_iff_ne] at hq; exact hq h
                  · rw [ha] at h; cases h
                rw [ha] at hct
                clear ha
                go_wp2_with fail
                refine hct.out.mono ?_
                rintro e w4 ⟨rfl, rfl⟩
                go_wp2_with fail
                go_roundw
                case rel => exact ⟨k + 1, by omega, by go_num, hide (by rw [firstE_succ HTO.out]; exact HG.out), hX3, hb3⟩
                case measure => simp [intOf]; omega
          · have HLT := hide hle
            have HG : Hid (poolE c p = leafE c t) := by
              show _ = _
              have h1 : toAt c p k = leafE c t := by rw [htS.out, if_pos hle]
              rw [poolE_5 HL.out HU.out H3.out H4.out HTO.out hkl (by rw [h1]; exact hle), h1]
            clear hle
            go_wp2_with fail
            refine (leaf_bad c t _ _ _ _ hcl (HCW.out _ hb) HLT.out).mono ?_
            rintro e w3 ⟨rfl, hb3⟩
            go_wp2_with fail
            go_ret
            exact ⟨by rw [HG.out, errV_n HLT.out]; rfl, bthen hb (Nat.le_refl _) hb3⟩
        · have hkn : k = tn := by omega
          have HG : Hid (poolE c p = shE p.ws) := poolE_6 HL.out HU.out H3.out H4.out (by have := HT.out; rw [show p.to.length = k by omega]; exact HTO.out)
          have c3 := hX.c3
          rw [← HWN.out] at c3
          have hsh := hide (shares_any 0 p.ws p.WA tn p.wc wr (by omega) (by omega) (by have := HT.out; have := H4.out; omega) (by rw [HWN.out]; exact (HPW.out _ hb).ws))
          clear hkn
          go_wp2_with fail
          refine hsh.out.mono ?_
          rintro e w3 ⟨h1, h2, hb3⟩
          have hb3 := bthen hb (Nat.le_refl _) hb3
          by_cases h0 : shE p.ws = 0
          · obtain ⟨v, out, rfl, _, _⟩ := h1 h0
            have H0 := hide h0
            clear h1 h2 h0
            go_wp2_with fail
            go_ret
            exact ⟨by rw [HG.out, H0.out]; rfl, hb3⟩
          · obtain rfl := h2 h0
            have H0 := hide h0
            clear h1 h2 h0
            go_wp2_with fail
            go_ret
            exact ⟨by rw [HG.out]; rfl, hb3⟩

section
variable {c : List Acc} {l : List Pol} {k : Nat}
theorem poolsE_1 (h : chartE c ≠ 0) : poolsE c l = chartE c := if_pos h
theorem poolsE_2 (h : chartE c = 0) (h2 : 20 < l.length) : poolsE c l = 4 := by rw [poolsE, if_neg (by simpa using h), if_pos h2]
theorem poolsE_3 (h : chartE c = 0) (h2 : ¬ 20 < l.length) : poolsE c l = firstE (poolAt c l) l.length := by rw [poolsE, if_neg (by simpa using h), if_neg h2]
theorem pools_hit {e : Int} (hc : chartE c = 0) (h20 : ¬ 20 < l.length) (hto : firstE (poolAt c l) k = 0) (hk : k < l.length) (he : poolAt c l k = e) (h0 : e ≠ 0) : poolsE c l = e := by
  rw [poolsE_3 hc h20, firstE_hit hto hk (by rw [he]; exact h0), he]
end
set_option maxHeartbeats 2000000 in
set_option maxRecDepth 100000 in
theorem poolsCheck_any (c : List Acc) (CA : Option Addr) (cn ccap : Nat) (l : List Pol) (A : Option Addr) (n cap : Nat) (w : World)
    (hcl : cn ≤ 9223372036854775807) (hcc : cn ≤ ccap) (hc : Accs w CA cn c) (hcok : AccOk c) (hl : n ≤ cap) (hcap : cap ≤ maxLen) (ha : Rd w 4 Pol.enc A n l) (hok : ∀ p ∈ l, PolFits w p) :
    Calls Tryz.prog 10 #[.slice CA cn ccap, .slice A n cap] w fun e w' => e = .returned (errV (poolsE c l)) ∧ Below w.heap.size w w' := by
  have hn := ha.1
  have Hn := hide hn
  unfold maxLen at hcap
  by_cases he : chartE c = 0
  · have HC := hide he
    clear he
    by_cases h20 : 20 < n
    · have h20i : (20 : Int) < (n : Int) := by omega
      have HF := hide (poolsE_2 (l := l) HC.out (by rw [Hn.out]; exact h20))
      clear h20
      go_enter Tryz.func10, Tryz.ntmps10
      go_wp2_with fail
      refine (check_ok c _ _ _ _ hcl hcc hc hcok HC.out).mono ?_
      rintro e w1 ⟨rfl, hb1⟩
      go_wp2_with fail
      go_ret
      exact ⟨by rw [HF.out]; rfl, hb1⟩
    · have h20i : ¬ (20 : Int) < (n : Int) := by omega
      have hn20 : n ≤ 20 := by omega
      have H20 : Hid (¬ 20 < l.length) := by show ¬ _; rw [Hn.out]; exact h20
      clear h20 hn
      go_enter Tryz.func10, Tryz.ntmps10
      go_wp2_with fail
      refine (check_ok c _ _ _ _ hcl hcc hc hcok HC.out).mono ?_
      rintro e w1 ⟨rfl, hb1⟩
      go_wp2_with fail
      go_loopw [20] (fun iv wr => ∃ k : Nat, k ≤ n ∧ iv = .int .i64 k ∧ firstE (poolAt c l) k = 0 ∧ Below w.heap.size w wr) (fun iv _ => n - (intOf iv).toNat)
      case atStart => exact ⟨0, by omega, rfl, rfl, hb1⟩
      case round =>
        obtain ⟨k, hk, rfl, hto, hbr⟩ := hrel
        obtain ⟨wo, hwo⟩ : ∃ wo, wo = wr := ⟨_, rfl⟩
        subst hwo
        have HTo := hide hto
        clear hto
        by_cases hlt : k < n
        · have hkl : k < l.length := by have := Hn.out; omega
          obtain ⟨b, off, rfl, hcs⟩ := (Rd.below ha hbr).2 (by omega)
          have q0 := hcs k 0 _ hkl rfl
          have q1 := hcs k 1 _ hkl rfl
          have q2 := hcs k 2 _ hkl rfl
          have q3 := hcs k 3 _ hkl rfl
          rw [Nat.add_zero] at q0
          clear hcs
          have k0 : (0 : Int) ≤ (k : Int) := by omega
          have k1 : (k : Int) < (n : Int) := by omega
          have hsz := hbr.size
          obtain ⟨x, hx⟩ : ∃ x, x = l[k] := ⟨_, rfl⟩
          have hfx : Hid (∀ W : World, Below w.heap.size w W → PolFits W x) := fun W hW => by rw [hx]; exact (hok _ (List.getElem_mem hkl)).below hW
          have hEA : Hid (poolAt c l k = poolE c x) := by show _ = _; rw [hx]; exact poolAt_some hkl
          rw [← hx] at q0 q1 q2 q3
          clear hx
          have hbx : Below wo.heap.size wo (wo.alloc (.cells #[.string x.acc, .string x.cur, .slice x.TA x.tn x.tc, .slice x.WA x.wn x.wc] 29)) := (Below.refl _ _).alloc (Nat.le_refl _) _
          have hX := PolAt.new wo x
          have hB := bthen hbr (Nat.le_refl _) hbx
          go_upto_region 9 with fail
          generalize wo.alloc (.cells #[.string x.acc, .string x.cur, .slice x.TA x.tn x.tc, .slice x.WA x.wn x.wc] 29) = W1 at hX hB ⊢
          obtain ⟨d0, d1, d2, d3⟩ := hX
          clear q0 q1 q2 q3 hbx
          go_wp2_with fail
          refine (pool_any c CA cn ccap x _ hcl (hc.below hB) (hfx.out _ hB)).mono ?_
          rintro e w2 ⟨rfl, hb2⟩
          have hb2 := bthen hB (Nat.le_refl _) hb2
          clear d0 d1 d2 d3 hB
          by_cases h5 : poolE c x = 0
          · have H5 := hide h5
            rw [errV_0 h5]
            clear h5
            go_wp2_with fail
            go_roundw
            case rel => exact ⟨k + 1, by omega, by go_num, by rw [firstE_succ HTo.out, hEA.out]; exact H5.out, hb2⟩
            case measure => simp [intOf]; omega
          · have HF := hide (pools_hit HC.out H20.out HTo.out hkl hEA.out h5)
            rw [errV_n h5]
            have H5 := hide h5
            clear h5
            go_wp2_with fail
            go_ret
            exact ⟨by rw [HF.out, errV_n H5.out]; rfl, hb2⟩
        · have hkn : k = n := by omega
          have HF : Hid (poolsE c l = 0) := by
            show _ = _
            rw [poolsE_3 HC.out H20.out, Hn.out, ← hkn]
            exact HTo.out
          clear hkn
          go_wp2_with fail
          go_ret
          exact ⟨by rw [HF.out]; rfl, hbr⟩
  · have HC := hide he
    have HF := hide (poolsE_1 (l := l) he)
    clear he
    go_enter Tryz.func10, Tryz.ntmps10
    go_wp2_with fail
    refine (check_bad c _ _ _ _ hcl hcc hc hcok HC.out).mono ?_
    rintro e w1 ⟨rfl, hb1⟩
    go_wp2_with fail
    go_ret
    exact ⟨by rw [HF.out, errV_n HC.out]; rfl, hb1⟩
end Go.Proofs.YtmpnbkjcpgnifaaGreatDoor
