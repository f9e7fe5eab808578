/- accrue.plan, Check: what they return. -/
import Derived.Test.YtkeapacfmeblgaaGreatDoorAcrF
import Derived.Test.YtkeapacfmeblgaaGreatDoorChartX
namespace Go.Proofs.YtkeapacfmeblgaaGreatDoor
open Go Go.RowKit
set_option linter.unusedVariables false

/-- the closure of accrue.plan: has another one its Ref? -/
theorem planClo (y x : Pln) (g : Nat) (w : World) (hp : w.cell? ⟨g, 0, none⟩ = some (.string x.ref)) :
    Calls Tryz.prog 27 #[.agg #[.string y.ref, .int .i64 y.ent, .string y.fr, .string y.to, .string y.cur, .int .i64 y.amt, .int .i64 y.first, .int .i64 y.per], .pointer (some ⟨g, 0, none⟩)] w fun e w' => e = .returned (.bool (sameRef x y)) ∧ Below w.heap.size w w' := by
  have hb : Below w.heap.size w (w.alloc (.cells #[.string y.ref, .int .i64 y.ent, .string y.fr, .string y.to, .string y.cur, .int .i64 y.amt, .int .i64 y.first, .int .i64 y.per] 23)) := (Below.refl _ _).alloc (Nat.le_refl _) _
  have hY := PlnAt.new w y
  have hp1 := below_cell hb (World.block_lt_of_cell? _ _ hp) hp
  go_enter Tryz.func27, Tryz.ntmps27
  go_upto_region 1 with fail
  generalize w.alloc (.cells #[.string y.ref, .int .i64 y.ent, .string y.fr, .string y.to, .string y.cur, .int .i64 y.amt, .int .i64 y.first, .int .i64 y.per] 23) = W1 at hb hY hp1 ⊢
  have c0 := hY.c0
  clear hY hp
  go_wp2_with fail
  go_ret
  exact ⟨rfl, hb⟩
def idxPl (l : List Pln) (p : Pln → Bool) : Int := match l.findIdx? p with | some k => (k : Int) | none => -1
theorem NoTo.hitP {l : List Pln} {p : Pln → Bool} {k : Nat} (h : NoTo p l k) (hk : k < l.length) (hc : p l[k] = true) : idxPl l p = (k : Int) := by
  have : l.findIdx? p = some k := by
    rw [List.findIdx?_eq_some_iff_getElem]
    exact ⟨hk, hc, fun j hj => by rw [h j (by omega) hj]; decide⟩
  simp [idxPl, this]
theorem NoTo.missP {l : List Pln} {p : Pln → Bool} {k : Nat} (h : NoTo p l k) (hk : l.length ≤ k) : idxPl l p = -1 := by
  have : l.findIdx? p = none := by
    rw [List.findIdx?_eq_none_iff]
    intro x hx
    obtain ⟨j, hj, rfl⟩ := List.getElem_of_mem hx
    exact h j hj (by omega)
  simp [idxPl, this]
theorem idxPl_any (l : List Pln) (p : Pln → Bool) : decide (0 ≤ idxPl l p) = l.any p := by
  unfold idxPl
  cases h : l.findIdx? p with
  | none =>
    rw [List.findIdx?_eq_none_iff] at h
    have : l.any p = false := by rw [List.any_eq_false]; intro x hx; rw [h x hx]; decide
    rw [this]; rfl
  | some k =>
    obtain ⟨hk, hc, _⟩ := List.findIdx?_eq_some_iff_getElem.1 h
    have : l.any p = true := List.any_eq_true.2 ⟨_, List.getElem_mem hk, hc⟩
    rw [this]; simp

set_option maxRecDepth 100000 in
theorem indexFunc_plan (l : List Pln) (x : Pln) (A : Option Addr) (n cap g : Nat) (w : World) (hl : n ≤ 9223372036854775807) (ha : Rd w 8 plnEnc A n l) (hp : w.cell? ⟨g, 0, none⟩ = some (.string x.ref)) :
    Calls Tryz.prog 51 #[.slice A n cap, .func (.func 27) #[] #[.pointer (some ⟨g, 0, none⟩)]] w
      fun e w' => e = .returned (.int .i64 (idxPl l (sameRef x))) ∧ Below w.heap.size w w' := by
  have Hn := hide ha.1
  go_enter Tryz.func51, Tryz.ntmps51
  go_wp2_with fail
  go_loopw [8] (fun i wr => ∃ k : Nat, k ≤ n ∧ i = .int .i64 k ∧ NoTo (sameRef x) l k ∧ Below w.heap.size w wr) (fun i _ => n - (intOf i).toNat)
  case atStart => exact ⟨0, by omega, rfl, NoTo.zero _ _, Below.refl _ _⟩
  case round =>
    obtain ⟨k, hk, rfl, hno, hb⟩ := hrel
    have HNo := hide hno
    clear hno
    by_cases hlt : k < n
    · obtain ⟨b, off, rfl, hcs⟩ := (Rd.below ha hb).2 (by omega)
      have hkl : k < l.length := by have := Hn.out; omega
      have h0 := hcs k 0 _ hkl rfl
      have h1 := hcs k 1 _ hkl rfl
      have h2 := hcs k 2 _ hkl rfl
      have h3 := hcs k 3 _ hkl rfl
      have h4 := hcs k 4 _ hkl rfl
      have h5 := hcs k 5 _ hkl rfl
      have h6 := hcs k 6 _ hkl rfl
      have h7 := hcs k 7 _ hkl rfl
      rw [Nat.add_zero] at h0
      clear hcs
      have hp' := below_cell hb (World.block_lt_of_cell? _ _ hp) hp
      cases hq : sameRef x l[k] with
      | true =>
        have HP := hide hq
        clear hq
        go_wp2_with fail
        refine (planClo l[k] x g _ hp').mono ?_
        rintro e w1 ⟨rfl, hb1⟩
        rw [HP.out]
        go_wp2_with fail
        go_ret
        exact ⟨ret_int (HNo.out.hitP hkl HP.out).symm, bthen hb (Nat.le_refl _) hb1⟩
      | false =>
        have HP := hide hq
        clear hq
        go_wp2_with fail
        refine (planClo l[k] x g _ hp').mono ?_
        rintro e w1 ⟨rfl, hb1⟩
        rw [HP.out]
        go_wp2_with fail
        go_roundw
        case rel => exact ⟨k + 1, by omega, by go_num, HNo.out.succ hkl HP.out, bthen hb (Nat.le_refl _) hb1⟩
        case measure => simp [intOf]; omega
    · go_wp2_with fail
      go_ret
      exact ⟨ret_int (HNo.out.missP (by have := Hn.out; omega)).symm, hb⟩
theorem containsFunc_plan (l : List Pln) (x : Pln) (A : Option Addr) (n cap g : Nat) (w : World) (hl : n ≤ 9223372036854775807) (ha : Rd w 8 plnEnc A n l) (hp : w.cell? ⟨g, 0, none⟩ = some (.string x.ref)) :
    Calls Tryz.prog 26 #[.slice A n cap, .func (.func 27) #[] #[.pointer (some ⟨g, 0, none⟩)]] w
      fun e w' => e = .returned (.bool (l.any (sameRef x))) ∧ Below w.heap.size w w' := by
  have HA := hide (idxPl_any l (sameRef x))
  go_enter Tryz.func26, Tryz.ntmps26
  go_wp2_with fail
  refine (indexFunc_plan l x _ _ _ g _ hl ha hp).mono ?_
  rintro e w1 ⟨rfl, hb1⟩
  go_wp2_with fail
  go_ret
  exact ⟨ret_bool HA.out, hb1⟩

def endS (x : Pln) (i : Nat) : ByteArray := if i = 0 then x.fr else x.to
def EndAt (w : World) (g : Nat) (x : Pln) : Prop := ∀ i, i < 2 → w.cell? ⟨g, i, none⟩ = some (.string (endS x i))
theorem EndAt.below {w w' : World} {g : Nat} {x : Pln} (h : EndAt w g x) (hb : Below w.heap.size w w') : EndAt w' g x :=
  fun i hi => below_cell hb (World.block_lt_of_cell? _ _ (h i hi)) (h i hi)
theorem EndAt.new (w : World) (x : Pln) : EndAt (w.alloc (.cells #[.string x.fr, .string x.to] 9)) w.heap.size x := by
  intro i hi
  have : i = 0 ∨ i = 1 := by omega
  rcases this with rfl | rfl <;> simp [endS]
theorem planE_leaf {c : List Acc} {ahead : List Pln} {x : Pln} {i : Nat} (h : prefB x.ref = true) (h2 : ahead.any (sameRef x) = false) (h3 : inB 1 12 x.ent = true) (h4 : numE x = 0)
    (hto : firstE (fun i => leafE c (endS x i)) i = 0) (hi : i < 2) (hl : leafE c (endS x i) ≠ 0) : planE c ahead x = leafE c (endS x i) := by
  rw [planE_5 h h2 h3 h4]
  have : i = 0 ∨ i = 1 := by omega
  rcases this with rfl | rfl
  · rw [if_pos (show leafE c x.fr ≠ 0 from hl)]; rfl
  · have h0 : leafE c x.fr = 0 := by
      have := firstE_0 hto 0 (by omega)
      exact this
    rw [if_neg (by rw [h0]; decide), if_pos (show leafE c x.to ≠ 0 from hl)]; rfl
theorem planE_both {c : List Acc} {ahead : List Pln} {x : Pln} (h : prefB x.ref = true) (h2 : ahead.any (sameRef x) = false) (h3 : inB 1 12 x.ent = true) (h4 : numE x = 0)
    (hto : firstE (fun i => leafE c (endS x i)) 2 = 0) : planE c ahead x = if x.fr.toList = x.to.toList then 8 else if curB x.cur = false then 2 else 0 := by
  rw [planE_5 h h2 h3 h4]
  have h0 : leafE c x.fr = 0 := firstE_0 hto 0 (by omega)
  have h1 : leafE c x.to = 0 := firstE_0 hto 1 (by omega)
  rw [if_neg (by rw [h0]; decide), if_neg (by rw [h1]; decide)]

set_option maxHeartbeats 4000000 in
set_option maxRecDepth 100000 in
theorem plan_any (c : List Acc) (CA : Option Addr) (cn ccap : Nat) (al : List Pln) (A : Option Addr) (n cap : Nat) (x : Pln) (w : World) (hcl : cn ≤ 9223372036854775807) (hc : Accs w CA cn c) (hl : n ≤ 9223372036854775807) (ha : Rd w 8 plnEnc A n al) (hf : PlnFits x) :
    Calls Tryz.prog 17 #[.slice CA cn ccap, .slice A n cap, .agg #[.string x.ref, .int .i64 x.ent, .string x.fr, .string x.to, .string x.cur, .int .i64 x.amt, .int .i64 x.first, .int .i64 x.per]] w fun e w' => e = .returned (errV (planE c al x)) ∧ Below w.heap.size w w' := by
  have hb : Below w.heap.size w (w.alloc (.cells #[.string x.ref, .int .i64 x.ent, .string x.fr, .string x.to, .string x.cur, .int .i64 x.amt, .int .i64 x.first, .int .i64 x.per] 23)) := (Below.refl _ _).alloc (Nat.le_refl _) _
  have hX := PlnAt.new w x
  have hsz : (w.alloc (.cells #[.string x.ref, .int .i64 x.ent, .string x.fr, .string x.to, .string x.cur, .int .i64 x.amt, .int .i64 x.first, .int .i64 x.per] 23)).heap.size = w.heap.size + 1 := by simp
  have hsr := hf.ref
  have hsc := hf.cur
  clear hf
  go_enter Tryz.func17, Tryz.ntmps17
  go_upto_region 1 with fail
  generalize w.alloc (.cells #[.string x.ref, .int .i64 x.ent, .string x.fr, .string x.to, .string x.cur, .int .i64 x.amt, .int .i64 x.first, .int .i64 x.per] 23) = W1 at hb hX hsz ⊢
  have hX0 := hX
  have c0 := hX.c0
  have ha1 := ha.below hb
  have hc1 := hc.below hb
  have hs1 := hb.size
  have HCW : Hid (∀ wi : World, Below w.heap.size w wi → Accs wi CA cn c) := fun wi hbi => hc.below hbi
  clear hX ha hc
  cases h0 : x.ref.toList.isEmpty with
  | true =>
    have HF := hide (planE_1 (c := c) (ahead := al) (x := x) (by simp [prefB, h0]))
    go_wp2_with fail
    go_ret
    exact ⟨by rw [HF.out]; rfl, hb⟩
  | false =>
    by_cases h1 : (x.ref.size : Int) ≤ 8
    · have h1d : decide ((8 : Int) < (x.ref.size : Int)) = false := by rw [decide_eq_false_iff_not]; omega
      cases h2 : allIn x.ref plnSet with
      | false =>
        have HF := hide (planE_1 (c := c) (ahead := al) (x := x) (by simp [prefB, h2]))
        have H2 := hide h2
        clear h2
        go_wp2_with (go_at_call 25; refine (trim_no x.ref _ _ hsr (by decide) (by decide) H2.out).mono ?_; rintro e w1 ⟨⟨t, rfl, ht⟩, hb1⟩)
        go_ret
        exact ⟨by rw [HF.out]; rfl, bthen hb (Nat.le_refl _) hb1⟩
      | true =>
        have HP : Hid (prefB x.ref = true) := by show _ = _; simp [prefB, h0, h1, h2]
        have H2 := hide h2
        clear h2
        go_wp2_with (go_at_call 25; refine (trim_yes x.ref _ _ hsr (by decide) (by decide) H2.out).mono ?_; rintro e w1 ⟨rfl, hb1⟩)
        have hX1 := hX0.below hb1
        have ha2 := ha1.below hb1
        have hc2 := hc1.below hb1
        have hb2 := bthen hb (Nat.le_refl _) hb1
        have d0 := hX1.c0
        clear c0 ha1 hc1 hb1 h0 h1
        refine (containsFunc_plan al x _ _ _ w.heap.size _ hl ha2 d0).mono ?_
        rintro e w2 ⟨rfl, hb3⟩
        have hX2 := hX1.below hb3
        have hc3 := hc2.below hb3
        have hb3 := bthen hb2 (Nat.le_refl _) hb3
        clear d0 hX1 ha2 hc2 hb2
        cases h3 : al.any (sameRef x) with
        | true =>
          have HF := hide (planE_2 (c := c) HP.out h3)
          go_wp2_with fail
          go_ret
          exact ⟨by rw [HF.out]; rfl, hb3⟩
        | false =>
          have HA := hide h3
          have d1 := hX2.c1
          clear h3
          go_wp2_with fail
          refine (entity_any _ _).mono ?_
          rintro e w3 ⟨rfl, rfl⟩
          clear d1
          cases h4 : inB 1 12 x.ent with
          | false =>
            have HF := hide (planE_3 (c := c) HP.out HA.out h4)
            go_wp2_with fail
            go_ret
            exact ⟨by rw [HF.out]; rfl, hb3⟩
          | true =>
            have HE := hide h4
            obtain ⟨d0, d1, d2, d3, d4, d5, d6, d7⟩ := hX2
            have hX2 : PlnAt w2 w.heap.size x := ⟨d0, d1, d2, d3, d4, d5, d6, d7⟩
            clear h4
            go_wp2_with fail
            refine (numbers_any x _).mono ?_
            rintro e w4 ⟨rfl, hb4⟩
            have hX4 := hX2.below hb4
            have hc4 := hc3.below hb4
            have hb4 := bthen hb3 (Nat.le_refl _) hb4
            clear d0 d1 d2 d3 d4 d5 d6 d7 hX2 hc3 hb3
            by_cases h5 : numE x = 0
            · have HN := hide h5
              rw [errV_0 h5]
              clear h5
              have e2 := hX4.c2
              have e3 := hX4.c3
              go_wp2_with fail
              have hE := EndAt.new w4 x
              have hX5 := hX4.below ((Below.refl _ _).alloc (Nat.le_refl _) (.cells #[.string x.fr, .string x.to] 9))
              have hb5 : Below w.heap.size w (w4.alloc (.cells #[.string x.fr, .string x.to] 9)) := hb4.alloc hb4.size _
              have hs5 := hb4.size
              obtain ⟨gq, hgq⟩ : ∃ gq, gq = w4.heap.size := ⟨_, rfl⟩
              rw [← hgq] at hE ⊢
              clear hgq
              go_loopw [47] (fun iv wi => ∃ i : Nat, i ≤ 2 ∧ iv = .int .i64 i ∧ firstE (fun i => leafE c (endS x i)) i = 0 ∧ PlnAt wi w.heap.size x ∧ EndAt wi gq x ∧ Below w.heap.size w wi) (fun iv _ => 2 - (intOf iv).toNat)
              case atStart => exact ⟨0, by omega, rfl, rfl, hX5, hE, hb5⟩
              case round =>
                clear hX4 hX5 hE hb5 hb4 e2 e3 hc4 hX0
                obtain ⟨i, hi, rfl, hto, hx, he, hbi⟩ := hrel
                have hci : Accs wr CA cn c := HCW.out wr hbi
                by_cases hi2 : i < 2
                · have y0 := he i hi2
                  have i0 : (0 : Int) ≤ (i : Int) := by omega
                  have i1 : (i : Int) < 2 := by omega
                  by_cases hle : leafE c (endS x i) = 0
                  · have HL := hide hle
                    have HT := hide hto
                    clear hle hto
                    go_wp2_with fail
                    refine (leaf_ok c _ _ _ _ _ hcl hci HL.out).mono ?_
                    rintro e w5 ⟨rfl, hb6⟩
                    have hx6 := hx.below hb6
                    have he6 := he.below hb6
                    have hb6 := bthen hbi (Nat.le_refl _) hb6
                    go_wp2_with fail
                    go_roundw
                    case rel => exact ⟨i + 1, by omega, by go_num, by rw [firstE_succ HT.out]; exact HL.out, hx6, he6, hb6⟩
                    case measure => simp [intOf]; omega
                  · have HL := hide hle
                    have HF := hide (planE_leaf HP.out HA.out HE.out HN.out hto hi2 hle)
                    clear hle hto
                    go_wp2_with fail
                    refine (leaf_bad c _ _ _ _ _ hcl hci HL.out).mono ?_
                    rintro e w5 ⟨rfl, hb6⟩
                    have hb6 := bthen hbi (Nat.le_refl _) hb6
                    go_wp2_with fail
                    go_ret
                    exact ⟨by rw [HF.out, errV_n HL.out]; rfl, hb6⟩
                · obtain rfl : i = 2 := by omega
                  have HF := hide (planE_both HP.out HA.out HE.out HN.out hto)
                  have e2 := hx.c2
                  have e3 := hx.c3
                  have e4 := hx.c4
                  clear hto he
                  cases h6 : (x.fr.toList == x.to.toList) with
                  | true =>
                    have HG : Hid (planE c al x = 8) := by show _ = _; rw [HF.out, if_pos (by simpa using h6)]
                    go_wp2_with fail
                    go_ret
                    exact ⟨by rw [HG.out]; rfl, hbi⟩
                  | false =>
                    have hne : ¬ x.fr.toList = x.to.toList := by simpa using h6
                    have HN2 := hide hne
                    clear hne
                    go_wp2_with fail
                    refine (cur_any x.cur _ hsc).mono ?_
                    rintro e w6 ⟨rfl, hb6⟩
                    have hb6 := bthen hbi (Nat.le_refl _) hb6
                    cases h7 : curB x.cur with
                    | true =>
                      have HG : Hid (planE c al x = 0) := by show _ = _; rw [HF.out, if_neg HN2.out, if_neg (by rw [h7]; decide)]
                      go_wp2_with fail
                      go_ret
                      exact ⟨by rw [HG.out]; rfl, hb6⟩
                    | false =>
                      have HG : Hid (planE c al x = 2) := by show _ = _; rw [HF.out, if_neg HN2.out, if_pos h7]
                      go_wp2_with fail
                      go_ret
                      exact ⟨by rw [HG.out]; rfl, hb6⟩
            · have HF := hide (planE_4 (c := c) HP.out HA.out HE.out h5)
              have hev : errV (numE x) = .iface 37 (.int .i64 1) := by
                rcases numE_01 (x := x) with h | h
                · exact absurd h h5
                · rw [h]; rfl
              rw [hev]
              clear h5 hev
              go_wp2_with fail
              go_ret
              exact ⟨by rw [HF.out]; rfl, hb4⟩
    · have HF := hide (planE_1 (c := c) (ahead := al) (x := x) (by simp [prefB, h1]))
      have h1' : (8 : Int) < (x.ref.size : Int) := by omega
      clear h1
      go_wp2_with fail
      go_ret
      exact ⟨by rw [HF.out]; rfl, hb⟩

set_option maxHeartbeats 2000000 in
set_option maxRecDepth 100000 in
theorem aCheck_any (c : List Acc) (CA : Option Addr) (cn ccap : Nat) (l : List Pln) (A : Option Addr) (n cap : Nat) (w : World)
    (hcl : cn ≤ 9223372036854775807) (hcc : cn ≤ ccap) (hc : Accs w CA cn c) (hcok : AccOk c) (hl : n ≤ cap) (hcap : cap ≤ maxLen) (ha : Rd w 8 plnEnc A n l) (hok : PlnsOk l) :
    Calls Tryz.prog 10 #[.slice CA cn ccap, .slice A n cap] w fun e w' => e = .returned (errV (plansE c l)) ∧ Below w.heap.size w w' := by
  have hn := ha.1
  have Hn := hide hn
  by_cases he : chartE c = 0
  · have HC := hide he
    clear he
    by_cases h20 : 20 < n
    · have h20i : (20 : Int) < (n : Int) := by omega
      have HF := hide (plansE_2 (l := l) HC.out (by rw [Hn.out]; exact h20))
      clear h20
      go_enter Tryz.func10, Tryz.ntmps10
      go_wp2_with fail
      refine (check_ok c _ _ _ _ hcl hcc hc hcok HC.out).mono ?_
      rintro e w1 ⟨rfl, hb1⟩
      go_wp2_with fail
      go_ret
      exact ⟨by rw [HF.out]; rfl, hb1⟩
    · have h20i : ¬ (20 : Int) < (n : Int) := by omega
      have hn20 : n ≤ 20 := by omega
      have H20 : Hid (¬ 20 < l.length) := by show ¬ _; rw [Hn.out]; exact h20
      clear h20 hn
      go_enter Tryz.func10, Tryz.ntmps10
      go_wp2_with fail
      refine (check_ok c _ _ _ _ hcl hcc hc hcok HC.out).mono ?_
      rintro e w1 ⟨rfl, hb1⟩
      go_wp2_with fail
      go_loopw [20] (fun iv wr => ∃ k : Nat, k ≤ n ∧ iv = .int .i64 k ∧ firstE (planAt c l) k = 0 ∧ Below w.heap.size w wr) (fun iv _ => n - (intOf iv).toNat)
      case atStart => exact ⟨0, by omega, rfl, rfl, hb1⟩
      case round =>
        obtain ⟨k, hk, rfl, hto, hbr⟩ := hrel
        obtain ⟨wo, hwo⟩ : ∃ wo, wo = wr := ⟨_, rfl⟩
        subst hwo
        have HTo := hide hto
        clear hto
        by_cases hlt : k < n
        · have hkl : k < l.length := by have := Hn.out; omega
          obtain ⟨b, off, rfl, hcs⟩ := (Rd.below ha hbr).2 (by omega)
          have q0 := hcs k 0 _ hkl rfl
          have q1 := hcs k 1 _ hkl rfl
          have q2 := hcs k 2 _ hkl rfl
          have q3 := hcs k 3 _ hkl rfl
          have q4 := hcs k 4 _ hkl rfl
          have q5 := hcs k 5 _ hkl rfl
          have q6 := hcs k 6 _ hkl rfl
          have q7 := hcs k 7 _ hkl rfl
          rw [Nat.add_zero] at q0
          clear hcs
          have k0 : (0 : Int) ≤ (k : Int) := by omega
          have k1 : (k : Int) < (n : Int) := by omega
          have k2 : (k : Int) ≤ (cap : Int) := by omega
          have hsz := hbr.size
          have hbx : Below wo.heap.size wo (wo.alloc (.cells #[.string l[k].ref, .int .i64 l[k].ent, .string l[k].fr, .string l[k].to, .string l[k].cur, .int .i64 l[k].amt, .int .i64 l[k].first, .int .i64 l[k].per] 23)) := (Below.refl _ _).alloc (Nat.le_refl _) _
          have hX := PlnAt.new wo l[k]
          have hB : Below w.heap.size w (wo.alloc (.cells #[.string l[k].ref, .int .i64 l[k].ent, .string l[k].fr, .string l[k].to, .string l[k].cur, .int .i64 l[k].amt, .int .i64 l[k].first, .int .i64 l[k].per] 23)) := hbr.trans (hbx.mono hsz)
          have hEA : planAt c l k = planE c (l.take k) l[k] := planAt_at hkl
          obtain ⟨ev, hev⟩ : ∃ ev, ev = planE c (l.take k) l[k] := ⟨_, rfl⟩
          have HEV := hide hev
          have HEA : Hid (planAt c l k = ev) := hEA.trans hev.symm
          have hfit := hide (hok l[k] (List.getElem_mem hkl))
          have HPC : Hid (∀ W : World, Below w.heap.size w W → Calls Tryz.prog 17 #[.slice CA cn ccap, .slice (some ⟨b, off, none⟩) k cap, .agg #[.string l[k].ref, .int .i64 l[k].ent, .string l[k].fr, .string l[k].to, .string l[k].cur, .int .i64 l[k].amt, .int .i64 l[k].first, .int .i64 l[k].per]] W fun e w' => e = .returned (errV ev) ∧ Below W.heap.size W w') := by
            intro W hW
            rw [hev]
            exact plan_any c CA cn ccap (l.take k) (some ⟨b, off, none⟩) k cap l[k] W hcl (hc.below hW) (by omega) (Rd.take (ha.below hW) (by omega)) hfit.out
          clear hev hEA
          go_upto_region 9 with fail
          generalize wo.alloc (.cells #[.string l[k].ref, .int .i64 l[k].ent, .string l[k].fr, .string l[k].to, .string l[k].cur, .int .i64 l[k].amt, .int .i64 l[k].first, .int .i64 l[k].per] 23) = W1 at hX hB ⊢
          obtain ⟨d0, d1, d2, d3, d4, d5, d6, d7⟩ := hX
          have hBd := bdrewN hB 1
          have HBD := hide hBd
          clear q0 q1 q2 q3 q4 q5 q6 q7 hB hBd hbx
          go_cut [8] from 25 to 30 (fun s8 wx => s8 = errV ev ∧ Below w.heap.size w wx)
          case first =>
            go_region_law (go_simp; go_at_call 17; refine (HPC.out _ HBD.out).mono ?_; rintro e w2 ⟨rfl, hb2⟩; have HB2 := hide hb2; clear hb2)
            all_goals
              go_wp2_with fail
              go_meet
              exact ⟨rfl, bthen HBD.out (Nat.le_refl _) HB2.out⟩
          case rest =>
          obtain ⟨rfl, hb2⟩ := hcut
          by_cases h5 : ev = 0
          · have H5 := hide h5
            rw [errV_0 h5]
            clear h5
            go_wp2_with fail
            go_roundw
            case rel => exact ⟨k + 1, by omega, by go_num, by rw [firstE_succ HTo.out, HEA.out]; exact H5.out, hb2⟩
            case measure => simp [intOf]; omega
          · have HF := hide (plans_hit HC.out H20.out HTo.out hkl HEA.out h5)
            rw [errV_n h5]
            have H5 := hide h5
            clear h5
            go_wp2_with fail
            go_ret
            exact ⟨by rw [HF.out, errV_n H5.out]; rfl, hb2⟩
        · have hkn : k = n := by omega
          have HF : Hid (plansE c l = 0) := by
            show _ = _
            rw [plansE_3 HC.out H20.out, Hn.out, ← hkn]
            exact HTo.out
          go_wp2_with fail
          go_ret
          exact ⟨by rw [HF.out]; rfl, hbr⟩
  · have HF := hide (plansE_1 (l := l) he)
    have HE := hide he
    clear he
    go_enter Tryz.func10, Tryz.ntmps10
    go_wp2_with fail
    refine (check_bad c _ _ _ _ hcl hcc hc hcok HE.out).mono ?_
    rintro e w1 ⟨rfl, hb1⟩
    go_wp2_with fail
    go_ret
    exact ⟨by rw [HF.out, errV_n HE.out]; rfl, hb1⟩
end Go.Proofs.YtkeapacfmeblgaaGreatDoor
