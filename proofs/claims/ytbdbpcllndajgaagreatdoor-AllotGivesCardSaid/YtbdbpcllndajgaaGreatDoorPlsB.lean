/- dayref2.Allot: what it returns. -/
import Derived.Test.YtbdbpcllndajgaaGreatDoorPlsA
import Derived.Test.YtbdbpcllndajgaaGreatDoorAloC
import Derived.Test.YtbdbpcllndajgaaGreatDoorAcrY
import Derived.Test.YtbdbpcllndajgaaGreatDoorBalX
import Derived.Test.YtbdbpcllndajgaaGreatDoorQbY
import Derived.Deep.RegionHeld3
namespace Go.Proofs.YtbdbpcllndajgaaGreatDoor
open Go Go.RowKit
set_option linter.unusedVariables false
set_option linter.unusedSimpArgs false

/-- what the first pools have given, by the reference -/
inductive GaveR (l : List Pol) (b : List Bal) (ent per : Int) (dg : Nat → ByteArray) : Nat → List Core → Prop
  | zero : GaveR l b ent per dg 0 []
  | skip {k : Nat} {cs : List Core} (h : GaveR l b ent per dg k cs) (hk : k < l.length) (h0 : getB b ent l[k].acc l[k].cur = 0) : GaveR l b ent per dg (k + 1) cs
  | give {k : Nat} {cs : List Core} (h : GaveR l b ent per dg k cs) (hk : k < l.length) (h0 : getB b ent l[k].acc l[k].cur ≠ 0) : GaveR l b ent per dg (k + 1) (cs ++ [giveCore ent per (refL ++ dg k) l[k] (getB b ent l[k].acc l[k].cur) (refSh (getB b ent l[k].acc l[k].cur) l[k].ws)])
section
variable {l : List Pol} {b : List Bal} {ent per : Int} {dg : Nat → ByteArray}
theorem GaveR.len {k : Nat} {cs : List Core} (h : GaveR l b ent per dg k cs) : cs.length ≤ k := by
  induction h with
  | zero => simp
  | skip _ _ _ ih => omega
  | give _ _ _ ih => rw [List.length_append]; simp; omega
theorem GaveR.same {k : Nat} {cs : List Core} (h : GaveR l b ent per dg k cs) : ∀ {cs' : List Core}, GaveR l b ent per dg k cs' → cs = cs' := by
  induction h with
  | zero =>
    intro cs' h'
    generalize hz : 0 = z at h'
    cases h' with
    | zero => rfl
    | skip => omega
    | give => omega
  | skip h hk h0 ih =>
    intro cs' h'
    cases h' with
    | skip h2 _ _ => exact ih h2
    | give h2 _ h3 => exact absurd h0 h3
  | give h hk h0 ih =>
    intro cs' h'
    cases h' with
    | skip h2 _ h3 => exact absurd h3 h0
    | give h2 _ _ => rw [ih h2]
theorem GaveTo.ref {c : List Acc} {k : Nat} {cs : List Core} (hp : poolsE c l = 0) (h : GaveTo l b ent per dg k cs) : GaveR l b ent per dg k cs := by
  induction h with
  | zero => exact .zero
  | skip _ hk h0 ih => exact .skip ih hk h0
  | give _ hk h0 h1 hs ih =>
    have hw := (poolE_0 ((poolsE_0 hp).2.2 _ hk)).2.2.2.2.2.2
    have := GaveR.give ih hk h0
    rwa [← shared_is hw hs] at this
end
theorem greedy_len (s : Int) : ∀ (k : Nat) (o m : List Int), (greedy s k o m).length = o.length
  | 0, o, m => rfl
  | k + 1, o, m => by rw [greedy, greedy_len s k, List.length_set]
theorem refSh_len (T : Int) (ws : List Int) : (refSh T ws).length = ws.length := by unfold refSh; rw [greedy_len, List.length_map]
theorem atE_same (ent per : Int) : atEA ent per = atEL ent per := rfl
theorem Own.lower {α : Type} {w : World} {B B' e sz : Nat} {enc : α → List Value} {v : Value} {l : List α} (h : Own w B' e sz enc v l) (hB : B ≤ B') : Own w B e sz enc v l := by
  obtain ⟨h1, h2⟩ := h
  refine ⟨h1, ?_⟩
  rcases h2 with ⟨hv, h0⟩ | ⟨g, cap, cur, hv, hb, hr⟩
  · exact .inl ⟨hv, h0⟩
  · exact .inr ⟨g, cap, cur, hv, Nat.le_trans hB hb, hr⟩
/-- the entry with its first line -/
theorem Bld.start {w5 w6 : World} {ref : ByteArray} {ent per : Int} {v : Value} {y : Line} {o : Obj} (hO : Own w6 (w5.heap.size + 1) 59 3 lineEnc v [y]) (hg : ((w5.alloc (.cells #[.string ref, .int .i64 ent, .int .i64 per, .slice none 0 0] 57)).alloc o).grownBy w6 none) :
    Bld w5 (w6.setCell ⟨w5.heap.size, 3, none⟩ v) w5.heap.size ref ent per v [y] none [] ∧ w6.cell? ⟨w5.heap.size, 3, none⟩ = some (.slice none 0 0) ∧ w6.frozen? ⟨w5.heap.size, 3, none⟩ = false := by
  have hA : Below w5.heap.size w5 ((w5.alloc (.cells #[.string ref, .int .i64 ent, .int .i64 per, .slice none 0 0] 57)).alloc o) := ((Below.refl _ _).alloc (Nat.le_refl _) _).alloc (by simp) _
  have hb6 : Below w5.heap.size w5 w6 := hA.grown hg hA.size (fun q e => by cases e)
  have e1 := heap_keepL (o' := o) (heap_alloc_new w5 (.cells #[.string ref, .int .i64 ent, .int .i64 per, .slice none 0 0] 57))
  have e2 : w6.heap[w5.heap.size]? = some (.cells #[.string ref, .int .i64 ent, .int .i64 per, .slice none 0 0] 57) := (hg.block _ (heap_ltL e1) (by simp)).trans e1
  have e3 := heap_setCell_same w6 w5.heap.size 3 _ 57 v e2
  have hvg : v.ownBlock ≠ some w5.heap.size := fun e => by have := (hO.block _ e).1; omega
  refine ⟨⟨hb6.setCell (Nat.le_refl _) _, heap_of_cellsL e3 0, heap_of_cellsL e3 1, heap_of_cellsL e3 2, heap_of_cellsL e3 3, frozen_of_row _ _ 3 _ _ e3, (hO.lower (by omega)).grown (only_setCell (only_refl _ _) _ _) (.inr hvg), Nat.le_refl _, hvg, ⟨rfl, fun h => absurd h (by simp)⟩, fun q off s e => by cases e⟩, heap_of_cellsL e2 3, frozen_of_row _ _ 3 _ _ e2⟩

set_option maxHeartbeats 4000000 in
set_option maxRecDepth 100000 in
theorem refAllot_any (c : List Acc) (CA : Option Addr) (cn ccap : Nat) (l : List Pol) (A : Option Addr) (n cap : Nat) (b : List Bal) (BA : Option Addr) (bn bcap : Nat) (ent per : Int) (dg : Nat → ByteArray) (w : World)
    (hcl : cn ≤ 9223372036854775807) (hcc : cn ≤ ccap) (hc : Accs w CA cn c) (hcok : AccOk c) (hl : n ≤ 9223372036854775807) (ha : Rd w 4 Pol.enc A n l) (hok : ∀ p ∈ l, PolFits w p) (hbl : bn ≤ 9223372036854775807) (hb : Rd w 4 balEnc BA bn b) (hdg : ∀ k, k < 20 → (dg k).size ≤ 21) (hdd : ∀ k, k < 20 → dg k = ⟨(Lib.decDigits k).toArray⟩) :
    Calls Tryz.prog 7 #[.slice CA cn ccap, .slice A n cap, .slice BA bn bcap, .int .i64 ent, .int .i64 per] w fun e w' =>
      ((allotE c l b ent per ≠ 0 ∧ e = .returned (.tuple #[.slice none 0 0, .int .i64 (allotE c l b ent per)])) ∨
        (allotE c l b ent per = 0 ∧ ∃ v es, e = .returned (.tuple #[v, .int .i64 0]) ∧ Pack w' w.heap.size v es ∧ GaveR l b ent per dg n (es.map Ent.core))) ∧ Below w.heap.size w w' := by
  have hn := ha.1
  have Hn := hide hn
  obtain ⟨i1, hi1, hy0, hy1, hy2⟩ := info_parts ent_infoA
  obtain ⟨j1, hj1, hx0, hx1, hx2⟩ := info_parts line_info
  have hne : ∀ e : Int, e ≠ 0 → (e == 0) = false ∧ (e != 0) = true := fun e h => by
    have h1 : (e == 0) = false := by rw [beq_eq_false_iff_ne]; exact h
    exact ⟨h1, by rw [bne, h1]; rfl⟩
  have HNE := hide hne
  clear hne
  by_cases hp : poolsE c l = 0
  case neg =>
    have HP := hide hp
    obtain ⟨z1, z2⟩ := HNE.out _ hp
    clear hp
    go_enter Tryz.func7, Tryz.ntmps7
    go_wp2_with fail
    refine (refPools_any c _ _ _ l _ _ _ _ hcl hcc hc hcok hl ha hok).mono ?_
    rintro e w1 ⟨rfl, hb1⟩
    go_wp2_with fail
    go_ret2
    exact ⟨.inl ⟨by rw [allotE_1 HP.out]; exact HP.out, by rw [allotE_1 HP.out]; rfl⟩, hb1⟩
  case pos =>
  have HP := hide hp
  obtain ⟨_, h20, hpo⟩ := poolsE_0 hp
  have hn20 : n ≤ 20 := by omega
  have HPO := hide hpo
  clear hp hpo h20 hn
  by_cases hbz : balsE b = 0
  case neg =>
    have HB := hide hbz
    obtain ⟨z1, z2⟩ := HNE.out _ hbz
    clear hbz
    go_enter Tryz.func7, Tryz.ntmps7
    go_wp2_with fail
    refine (refPools_any c _ _ _ l _ _ _ _ hcl hcc hc hcok hl ha hok).mono ?_
    rintro e w1 ⟨rfl, hb1⟩
    rw [HP.out]
    go_wp2_with fail
    refine (refLCheck_any b _ _ _ _ hbl (hb.below hb1)).mono ?_
    rintro e w2 ⟨rfl, hb2⟩
    have hb2 := bthen hb1 (Nat.le_refl _) hb2
    go_wp2_with fail
    go_ret2
    exact ⟨.inl ⟨by rw [allotE_2 HP.out HB.out]; exact HB.out, by rw [allotE_2 HP.out HB.out]; rfl⟩, hb2⟩
  case pos =>
  have HB := hide hbz
  clear hbz
  by_cases hat : atEL ent per = 0
  case neg =>
    have HAT := hide hat
    obtain ⟨z1, z2⟩ := HNE.out _ hat
    have HW := hide (fun W => refWhen_any ent per W)
    rw [atE_same] at HW
    clear hat
    go_enter Tryz.func7, Tryz.ntmps7
    go_wp2_with fail
    refine (refPools_any c _ _ _ l _ _ _ _ hcl hcc hc hcok hl ha hok).mono ?_
    rintro e w1 ⟨rfl, hb1⟩
    rw [HP.out]
    go_wp2_with fail
    refine (refLCheck_any b _ _ _ _ hbl (hb.below hb1)).mono ?_
    rintro e w2 ⟨rfl, hb2⟩
    have hb2 := bthen hb1 (Nat.le_refl _) hb2
    rw [HB.out]
    go_wp2_with fail
    refine (HW.out _).mono ?_
    rintro e w3 ⟨rfl, rfl⟩
    go_wp2_with fail
    go_ret2
    exact ⟨.inl ⟨by rw [allotE_3 HP.out HB.out HAT.out]; exact HAT.out, by rw [allotE_3 HP.out HB.out HAT.out]; rfl⟩, hb2⟩
  case pos =>
  have HAT := hide hat
  have HW := hide (fun W => refWhen_any ent per W)
  rw [atE_same, hat] at HW
  clear hat
  go_enter Tryz.func7, Tryz.ntmps7
  go_wp2_with fail
  refine (refPools_any c _ _ _ l _ _ _ _ hcl hcc hc hcok hl ha hok).mono ?_
  rintro e w1 ⟨rfl, hb1⟩
  rw [HP.out]
  go_wp2_with fail
  refine (refLCheck_any b _ _ _ _ hbl (hb.below hb1)).mono ?_
  rintro e w2 ⟨rfl, hb2⟩
  have hb1 := bthen hb1 (Nat.le_refl _) hb2
  rw [HB.out]
  go_wp2_with fail
  refine (HW.out _).mono ?_
  rintro e w3 ⟨rfl, rfl⟩
  clear hb2 HW
  go_wp2_with fail
  go_loopw [13, 14] (fun ov iv wr => ∃ (k : Nat) (es : List Ent), k ≤ n ∧ iv = .int .i64 k ∧ Hid (firstE (haveE l b ent) k = 0) ∧ Pack wr w.heap.size ov es ∧ Hid (GaveR l b ent per dg k (es.map Ent.core)) ∧ Below w.heap.size w wr) (fun _ iv _ => n - (intOf iv).toNat)
  case atStart => exact ⟨0, [], by omega, rfl, hide rfl, Pack.nil _ _, hide GaveR.zero, hb1⟩
  case round =>
    clear hb1
    obtain ⟨k, es, hk, rfl, HTO, hpk, HES, hbr⟩ := hrel
    obtain ⟨wo, hwo⟩ : ∃ wo, wo = wr := ⟨_, rfl⟩
    subst hwo
    by_cases hlt : k < n
    case neg =>
      have hkn : k = n := by omega
      have HG : Hid (allotE c l b ent per = 0) := by
        show _ = _
        rw [allotE_4 HP.out HB.out HAT.out, Hn.out, ← hkn]
        exact HTO.out
      go_wp2_with fail
      go_ret2
      exact ⟨.inr ⟨HG.out, _, es, rfl, hpk, by rw [← hkn]; exact HES.out⟩, hbr⟩
    case pos =>
    have hkl : k < l.length := by have := Hn.out; omega
    obtain ⟨b0, off, rfl, hcs⟩ := (Rd.below ha hbr).2 (by omega)
    have q0 := hcs k 0 _ hkl rfl
    have q1 := hcs k 1 _ hkl rfl
    have q2 := hcs k 2 _ hkl rfl
    have q3 := hcs k 3 _ hkl rfl
    rw [Nat.add_zero] at q0
    clear hcs
    have k0 : (0 : Int) ≤ (k : Int) := by omega
    have k1 : (k : Int) < (n : Int) := by omega
    have hsz := hbr.size
    obtain ⟨x, hx⟩ : ∃ x, x = l[k] := ⟨_, rfl⟩
    have HX := hide hx
    have hfx : Hid (∀ W : World, Below w.heap.size w W → PolFits W x) := fun W hW => by rw [hx]; exact (hok _ (List.getElem_mem hkl)).below hW
    have hpx : Hid (poolE c x = 0) := by show _ = _; rw [hx]; exact HPO.out k hkl
    rw [← hx] at q0 q1 q2 q3
    clear hx
    have hA : Below wo.heap.size wo (wo.alloc (.cells #[.string x.acc, .string x.cur, .slice x.TA x.tn x.tc, .slice x.WA x.wn x.wc] 43)) := (Below.refl _ _).alloc (Nat.le_refl _) _
    have hX := PolAt.new wo x
    obtain ⟨xa, hxa⟩ : ∃ s, s = x.acc := ⟨_, rfl⟩
    obtain ⟨xc, hxc⟩ : ∃ s, s = x.cur := ⟨_, rfl⟩
    obtain ⟨TA, hTA⟩ : ∃ s, s = x.TA := ⟨_, rfl⟩
    obtain ⟨tn, htn⟩ : ∃ s, s = x.tn := ⟨_, rfl⟩
    obtain ⟨tc, htc⟩ : ∃ s, s = x.tc := ⟨_, rfl⟩
    obtain ⟨WA, hWA⟩ : ∃ s, s = x.WA := ⟨_, rfl⟩
    obtain ⟨wn, hwn⟩ : ∃ s, s = x.wn := ⟨_, rfl⟩
    obtain ⟨wcp, hwc⟩ : ∃ s, s = x.wc := ⟨_, rfl⟩
    rw [← hxa, ← hxc, ← hTA, ← htn, ← htc, ← hWA, ← hwn, ← hwc] at hA hX
    rw [← hxa] at q0
    rw [← hxc] at q1
    rw [← hTA, ← htn, ← htc] at q2
    rw [← hWA, ← hwn, ← hwc] at q3
    have hfw := hfx.out _ hbr
    obtain ⟨_, _, _, hT1, hT2, _, hT3⟩ := poolE_0 hpx.out
    have HTN : Hid (x.to.length = tn ∧ x.ws.length = wn ∧ tn = wn ∧ tn ≤ 19 ∧ tn ≤ tc ∧ tc ≤ maxLen ∧ shE x.ws = 0) := by
      show _ ∧ _
      have e1 := hfw.to.1
      have e2 := hfw.ws.1
      have e3 := hfw.tc
      have e4 := hfw.tm
      rw [htn, hwn, htc]
      exact ⟨e1, e2, by omega, by omega, e3, e4, hT3⟩
    have HXA := hide hxa
    have HXC := hide hxc
    have HTA := hide (And.intro hTA (And.intro htn htc))
    have HWA := hide (And.intro hWA (And.intro hwn hwc))
    have hB := bthen hbr (Nat.le_refl _) hA
    have hpk1 := hpk.below hA
    have hel : es.length ≤ 20 := by have := HES.out.len; rw [List.length_map] at this; omega
    obtain ⟨VA, vc, rfl, hvc, hvm⟩ := hpk.own.form
    obtain ⟨pg, hpg⟩ : ∃ pg, pg = wo.heap.size := ⟨_, rfl⟩
    obtain ⟨nv, hnv⟩ : ∃ nv, nv = getB b ent xa xc := ⟨_, rfl⟩
    have HNV : Hid (nv = getB b ent l[k].acc l[k].cur) := by show _ = _; rw [hnv, hxa, hxc, HX.out]
    have HGET : Hid (∀ W : World, Below w.heap.size w W → Calls Tryz.prog 19 #[.slice BA bn bcap, .int .i64 ent, .string xa, .string xc] W fun e w' => e = .returned (.int .i64 nv) ∧ Below W.heap.size W w') := fun W hW => by rw [hnv]; exact refGet_any b ent xa xc BA bn bcap W hbl (hb.below hW)
    clear hnv hpk hfw hT1 hT2 hT3 hxa hxc hTA htn htc hWA hwn hwc
    go_upto_region 13 with fail
    rw [← hpg] at hX ⊢
    generalize (wo.alloc (.cells #[.string xa, .string xc, .slice TA tn tc, .slice WA wn wcp] 43)) = W1 at hX hB hpk1 hA ⊢
    have c0 := hX.c0
    have c1 := hX.c1
    rw [← HXA.out] at c0
    rw [← HXC.out] at c1
    clear q0 q1 q2 q3 hA hpg
    go_wp2_with fail
    refine (HGET.out _ hB).mono ?_
    rintro e w2 ⟨rfl, hb2⟩
    have hX2 := hX.below hb2
    have hpk2 := hpk1.below hb2
    have hB2 := bthen hB (Nat.le_refl _) hb2
    have hs2 := hB2.size
    clear c0 c1 hX hpk1 hB hb2
    by_cases hz : nv = 0
    · have hz1 : (nv == 0) = true := by simpa using hz
      have HN : Hid (GaveR l b ent per dg (k + 1) (es.map Ent.core)) := GaveR.skip HES.out hkl (by rw [← HNV.out]; exact hz)
      have HT : Hid (firstE (haveE l b ent) (k + 1) = 0) := by show _ = _; rw [firstE_succ HTO.out]; exact have_0 hkl (by rw [← HNV.out]; exact hz)
      clear hz
      go_wp2_with fail
      go_roundw
      case rel => exact ⟨k + 1, es, by omega, by go_num, HT, hpk2, HN, hB2⟩
      case measure => simp [intOf]; omega
    · have hz1 : (nv == 0) = false := by simpa using hz
      cases ham : inB (-1000000000000000) 1000000000000000 nv with
      | false =>
        have HG : Hid (allotE c l b ent per = 1) := allotE_hit HP.out HB.out HAT.out hkl HTO.out (have_1 hkl (by rw [← HNV.out]; exact hz) (by rw [← HNV.out]; exact ham))
        have HAM := hide ham
        clear hz ham
        go_wp2_with fail
        refine (refAmount_any _ _).mono ?_
        rintro e w6 ⟨rfl, rfl⟩
        rw [HAM.out]
        go_wp2_with fail
        go_ret2
        exact ⟨.inl ⟨by rw [HG.out]; decide, by rw [HG.out]; rfl⟩, hB2⟩
      | true =>
        have HT : Hid (firstE (haveE l b ent) (k + 1) = 0) := by show _ = _; rw [firstE_succ HTO.out]; exact have_in hkl (by rw [← HNV.out]; exact ham)
        have HGV : Hid (GaveR l b ent per dg (k + 1) (es.map Ent.core ++ [giveCore ent per (refL ++ dg k) x nv (refSh nv x.ws)])) := by
          show GaveR _ _ _ _ _ _ _
          rw [HNV.out, HX.out]
          exact GaveR.give HES.out hkl (by rw [← HNV.out]; exact hz)
        have HAM := hide ham
        have hnb : -1000000000000000 ≤ nv ∧ nv ≤ 1000000000000000 := by simpa [inB] using ham
        obtain ⟨hn1, hn2⟩ := hnb
        clear hz ham
        have hwn : IntKind.i64.wrap (-nv) = -nv := IntWalk.i64_in _ (by omega)
        have hk20 : k < 20 := by omega
        have hds := hdg k hk20
        have hdk := hdd k hk20
        obtain ⟨D, hD⟩ : ∃ D, D = dg k := ⟨_, rfl⟩
        rw [← hD] at hds hdk
        have HD := hide hD
        have HDI : Hid (∀ W : World, Calls Tryz.prog 21 #[.int .i64 (k : Int)] W fun e w' => e = .returned (.string D) ∧ Below W.heap.size W w') := fun W => by rw [hdk]; exact digits20 k hk20 W
        have hwA : ¬ (9223372036854775807 < (⟨#[97, 108, 108, 111, 116, 45]⟩ : ByteArray).size + D.size) := by
          have : (⟨#[97, 108, 108, 111, 116, 45]⟩ : ByteArray).size = 6 := rfl
          omega
        have hwB : ¬ (9223372036854775807 < 6 + D.size) := by omega
        have hwC : ¬ (9223372036854775807 < (#[97, 108, 108, 111, 116, 45] : Array UInt8).size + D.size) := hwA
        clear hdk hD
        go_wp2_with fail
        refine (refAmount_any _ _).mono ?_
        rintro e w6 ⟨rfl, rfl⟩
        rw [HAM.out]
        go_wp2_with fail
        refine (HDI.out _).mono ?_
        rintro e w5 ⟨rfl, hb5⟩
        have hX5 := hX2.below hb5
        have hpk5 := hpk2.below hb5
        have hB5 := bthen hB2 (Nat.le_refl _) hb5
        have hs5 := hB5.size
        have HXD := hide hX5
        have HPK := hide hpk5
        have HBW := hide hB5
        have hA5 : Below w5.heap.size w5 (w5.alloc (.cells #[.string (⟨#[97, 108, 108, 111, 116, 45]⟩ ++ D), .int .i64 ent, .int .i64 per, .slice none 0 0] 57)) := (Below.refl _ _).alloc (Nat.le_refl _) _
        have hX6 := hX5.below hA5
        have c0 := hX6.c0
        have c1 := hX6.c1
        rw [← HXA.out] at c0
        rw [← HXC.out] at c1
        clear hX2 hpk2 hB2 hb5 hX5 hpk5 hB5 hbr hA5 hX6 HDI
        obtain ⟨E1, hE1⟩ : ∃ E1 : Line, E1 = ⟨xa, xc, -nv⟩ := ⟨_, rfl⟩
        go_upto_region 21 with (first | (at_builtin; go_loud (refine wpList_push _ rfl _ _ 55 rfl (w5.heap.size + 1) 59 j1 zeroLine 3 40 Tryz.underlying55 hj1 hx0 hx1 hx2 rfl (by decide) lineEnc_ok _ ([] : List Line) rfl (Own.nil _ _ _ _ _) _ 1 1 [E1] rfl (Rd.boxedAt _ lineEnc_ok E1 _ _ (by rw [hE1]; rfl) _ (by first | rfl | (simp; done) | omega | (simp; omega))) (by intro h; cases h) (by first | (simp [maxLen]; done) | decide) (by first | omega | decide | (simp; done)) (by first | omega | (simp; done) | (simp; omega)) ?_); intro v1 w7 hown7 hg7 hat7; go_loud (rw [List.nil_append] at hown7); go_loud (obtain ⟨LA1, lc1, rfl, hlc1, hlm1⟩ := hown7.form); have hl1 : [E1].length = 1 := rfl; go_loud (rw [hl1] at hown7 hlc1 hat7 ⊢); go_loud (obtain ⟨hBS, d3, df⟩ := Bld.start (ref := ⟨#[97, 108, 108, 111, 116, 45]⟩ ++ D) (ent := ent) (per := per) hown7 hg7)))
        rw [hE1] at hBS
        obtain ⟨g, hg⟩ : ∃ g, g = w5.heap.size := ⟨_, rfl⟩
        rw [← hg] at hBS ⊢
        generalize (w7.setCell ⟨g, 3, none⟩ (.slice LA1 1 lc1)) = W3 at hBS ⊢
        have HBD := hide hBS
        clear c0 c1 d3 df hown7 hg7 hat7 hBS hwA hwB hwC hg hE1 hlc1 hlm1
        have hbl3 := HBD.out.bl
        have hX3 := HXD.out.below hbl3
        have hB3 : Below w.heap.size w W3 := HBW.out.trans (hbl3.mono HBW.out.size)
        have hR3 : Rd W3 1 intEnc2 WA wn x.ws := by
          have := (hfx.out W3 hB3).ws
          rw [HWA.out.1, HWA.out.2.1]; exact this
        have c3 := hX3.c3
        rw [← HWA.out.1, ← HWA.out.2.1, ← HWA.out.2.2] at c3
        have hwn20 : wn ≤ 20 := by have := HTN.out; omega
        clear hbl3 hX3 hB3
        go_wp2_with fail
        refine (refShares_ok nv x.ws WA wn wcp _ hn1 hn2 hwn20 hR3 HTN.out.2.2.2.2.2.2).mono ?_
        rintro e w4 ⟨vS, rfl, hoS, hb4⟩
        obtain ⟨out, hout⟩ : ∃ out, out = refSh nv x.ws := ⟨_, rfl⟩
        rw [← hout] at hoS
        obtain ⟨SA, sc, rfl, hsc, hsm⟩ := hoS.form
        have hbd4 := hide (HBD.out.shares hb4 hoS)
        have hlo : out.length = tn := by have := refSh_len nv x.ws; have := HTN.out; rw [hout]; omega
        rw [hlo] at hsc ⊢
        have HLO := hide hlo
        have HSH := hide hout
        have htn20 : tn ≤ 19 := by have := HTN.out; omega
        clear c3 hR3 hb4 hoS hout HBD hlo hwn20
        go_wp2_with fail
        go_loopw [22] (fun iv wr' => ∃ (j : Nat) (LV : Value), j ≤ tn ∧ iv = .int .i64 j ∧ Hid (Bld w5 wr' g (⟨#[97, 108, 108, 111, 116, 45]⟩ ++ D) ent per LV (⟨xa, xc, -nv⟩ :: giveTo x out j) SA out)) (fun iv _ => tn - (intOf iv).toNat)
        case atStart => exact ⟨0, _, by omega, rfl, hbd4⟩
        case round =>
          obtain ⟨j, LV, hj, rfl, HB⟩ := hrel
          obtain ⟨ls, hls⟩ : ∃ ls : List Line, ls = ⟨xa, xc, -nv⟩ :: giveTo x out j := ⟨_, rfl⟩
          rw [← hls] at HB
          have HLS := hide hls
          have hll : ls.length ≤ 20 := by rw [hls, List.length_cons]; have := giveTo_len x out j; omega
          clear hls
          obtain ⟨LA, lc, rfl, hlc, hlm⟩ := HB.out.ow.form
          have hblr := HB.out.bl
          have hXr := HXD.out.below hblr
          have hBr : Below w.heap.size w wr := HBW.out.trans (hblr.mono HBW.out.size)
          have hsr := hblr.size
          have hsw := HBW.out.size
          by_cases hlt : j < tn
          case neg =>
            have hjn : j = tn := by omega
            obtain ⟨z2, hz2A⟩ : ∃ z2, LA = some ⟨z2, 0, none⟩ := by
              rcases HB.out.ow.2 with ⟨hv, h0⟩ | ⟨g9, cap9, cur9, hv, _⟩
              · rw [HLS.out] at h0; cases h0
              · injection hv with e1; exact ⟨g9, e1⟩
            subst hz2A
            have hz2B := HB.out.ow.block z2 rfl
            obtain ⟨E, hE⟩ : ∃ E : Ent, E = ⟨(⟨#[97, 108, 108, 111, 116, 45]⟩ ++ D), ent, per, some ⟨z2, 0, none⟩, ls.length, lc, ls⟩ := ⟨_, rfl⟩
            have HCO : Hid (Ent.core E = giveCore ent per (refL ++ dg k) x nv out) := by
              show _ = _
              rw [hE, ← HD.out]
              show ((⟨#[97, 108, 108, 111, 116, 45]⟩ ++ D), ent, per, ls) = (refL ++ D, ent, per, ⟨x.acc, x.cur, -nv⟩ :: giveTo x out x.to.length)
              rw [HLS.out, HXA.out, HXC.out, show x.to.length = j by have := HTN.out; omega]
              rfl
            have hL9 : Rd wr 3 lineEnc E.A E.n E.lines := by rw [hE]; exact HB.out.ow.rd lineEnc_ok
            have HEA : Hid (E.A = some ⟨z2, 0, none⟩) := by show _ = _; rw [hE]
            have HEN : Hid (E.n ≤ 20) := by show _ ≤ _; rw [hE]; exact hll
            have hpk9 := HPK.out.below hblr
            have e0 := HB.out.c0
            have e1 := HB.out.c1
            have e2 := HB.out.c2
            have e3 := HB.out.c3
            have HVQ : Hid (∀ q, Value.ownBlock (.slice VA es.length vc) = some q → q < w5.heap.size) := fun q e => (HPK.out.own.block q e).2
            clear hlt hj hll hlc hlm hXr
            go_wp2_with (first | (at_builtin; go_loud (refine wpList_push _ rfl _ _ 30 rfl w.heap.size 57 i1 zeroEntA 4 56 Tryz.underlying30 hi1 hy0 hy1 hy2 rfl (by decide) entEnc_okA _ es rfl (hpk9.own.alloc _) _ 1 1 [E] rfl (Rd.boxedAt _ entEnc_okA E _ _ (by rw [hE]; rfl) _ (by simp)) (by intro h; cases h) (by simp only [maxLen]; omega) (by omega) (by simp; omega) ?_); intro v9 w10 hown10 hg10 hat10))
            go_roundw
            case rel =>
              exact ⟨k + 1, es ++ [E], by omega, by go_num, HT, (hpk9.below ((Below.refl _ _).alloc (Nat.le_refl _) _)).push hown10 hg10 hat10 (hL9.below ((Below.refl _ _).alloc (Nat.le_refl _) _)) HEN.out HEA.out (by have := hz2B.2; simp; omega) (fun e => by have := HVQ.out _ e; have := hz2B.1; omega), by show GaveR _ _ _ _ _ _ _; rw [List.map_append, List.map_cons, List.map_nil, HCO.out, HSH.out]; exact HGV.out, (hBr.alloc (by omega) _).grown hg10 (by simp; omega) (fun q e => (hpk9.own.block q e).1)⟩
            case measure => simp [intOf]; omega
          case pos =>
            have hjl : j < out.length := by rw [HLO.out]; exact hlt
            have hjt : j < x.to.length := by have := HTN.out; omega
            have hrs := HB.out.rS
            rw [HLO.out] at hrs
            obtain ⟨sb, so, hSA, hcs⟩ := hrs.2 (by omega)
            subst hSA
            have q0 := hcs j 0 _ hjl rfl
            simp only [Nat.mul_one, Nat.add_zero] at q0
            clear hcs hrs
            have jn0 : (0 : Int) ≤ (j : Int) := by omega
            have jn1 : (j : Int) < (tn : Int) := by omega
            obtain ⟨y, hy⟩ : ∃ y, y = out[j] := ⟨_, rfl⟩
            rw [← hy] at q0
            by_cases hz : y = 0
            · have hzb : (y == 0) = true := by simpa using hz
              have HN : Hid (giveTo x out (j + 1) = giveTo x out j) := giveTo_no hjt hjl (by rw [← hy]; exact hz)
              clear hz hy hXr hlc hlm
              go_wp2_with fail
              go_roundw
              case rel => exact ⟨j + 1, _, by omega, by go_num, by rw [HN.out, ← HLS.out]; exact HB⟩
              case measure => simp [intOf]; omega
            · have hzb : (y == 0) = false := by simpa using hz
              have hto := (hfx.out _ hBr).to
              rw [← HTA.out.1, ← HTA.out.2.1] at hto
              obtain ⟨tb, tof, hTAe, htcs⟩ := hto.2 (by omega)
              subst hTAe
              have t0 := htcs j 0 _ hjt rfl
              simp only [Nat.mul_one, Nat.add_zero] at t0
              clear htcs hto
              have HY : Hid (giveTo x out (j + 1) = giveTo x out j ++ [⟨x.to[j], x.cur, y⟩]) := by show _ = _; rw [giveTo_yes hjt hjl (by rw [← hy]; exact hz), hy]
              obtain ⟨t, ht⟩ : ∃ t, t = x.to[j] := ⟨_, rfl⟩
              rw [← ht] at t0 HY
              have c1 := hXr.c1
              have c2 := hXr.c2
              rw [← HXC.out] at c1 HY
              rw [← HTA.out.1, ← HTA.out.2.1, ← HTA.out.2.2] at c2
              have d3 := HB.out.c3
              have hAL : Below wr.heap.size wr (wr.alloc (.cells #[.string t, .string xc, .int .i64 y] 59)).drew := ((Below.refl _ _).alloc (Nat.le_refl _) _).drew
              have d3a := below_cell hAL (World.block_lt_of_cell? _ _ d3) d3
              have c1a := below_cell hAL (World.block_lt_of_cell? _ _ c1) c1
              have c2a := below_cell hAL (World.block_lt_of_cell? _ _ c2) c2
              have t0a := below_cell hAL (World.block_lt_of_cell? _ _ t0) t0
              have hO8 : Own (wr.alloc (.cells #[.string t, .string xc, .int .i64 y] 59)).drew w5.heap.size 59 3 lineEnc (.slice LA ls.length lc) ls := HB.out.ow.alloc _
              have hR8 : Rd (wr.alloc (.cells #[.string t, .string xc, .int .i64 y] 59)).drew 3 lineEnc (some ⟨wr.heap.size, 0, none⟩) 1 [⟨t, xc, y⟩] := Rd.boxed wr lineEnc_ok ⟨t, xc, y⟩ _ _ rfl
              have hs8 : w5.heap.size ≤ (wr.alloc (.cells #[.string t, .string xc, .int .i64 y] 59)).drew.heap.size := Nat.le_trans hsr hAL.size
              have HO8 := hide hO8
              have HR8 := hide hR8
              have hpg5 : pg < w5.heap.size := World.block_lt_of_cell? _ _ HXD.out.c0
              have htb5 : tb < w5.heap.size := by
                have h1 := (hfx.out _ HBW.out).to
                rw [← HTA.out.1, ← HTA.out.2.1] at h1
                obtain ⟨b2, o2, e2, h2⟩ := h1.2 (by omega)
                injection e2 with e2
                injection e2 with e2 e3
                have h3 := World.block_lt_of_cell? _ _ (h2 j 0 _ hjt rfl)
                rw [e2]; exact h3
              have hAL2 := hAL
              clear hO8 hR8 hAL hy ht hz hXr hjl hjt
              have q0a := below_cell hAL2 (World.block_lt_of_cell? _ _ q0) q0
              have hS0 : wr.drew.cell? ⟨pg, 1, none⟩ = some (.string xc) ∧ wr.drew.cell? ⟨pg, 2, none⟩ = some (.slice (some ⟨tb, tof, none⟩) tn tc) ∧ wr.drew.cell? ⟨tb, tof + j, none⟩ = some (.string t) ∧ wr.drew.cell? ⟨sb, so + j, none⟩ = some (.int .i64 y) := ⟨c1, c2, t0, q0⟩
              have hS1 : (wr.alloc (.cells #[.string t, .string xc, .int .i64 y] 59)).drew.cell? ⟨pg, 1, none⟩ = some (.string xc) ∧ (wr.alloc (.cells #[.string t, .string xc, .int .i64 y] 59)).drew.cell? ⟨pg, 2, none⟩ = some (.slice (some ⟨tb, tof, none⟩) tn tc) ∧ (wr.alloc (.cells #[.string t, .string xc, .int .i64 y] 59)).drew.cell? ⟨tb, tof + j, none⟩ = some (.string t) ∧ (wr.alloc (.cells #[.string t, .string xc, .int .i64 y] 59)).drew.cell? ⟨sb, so + j, none⟩ = some (.int .i64 y) := ⟨c1a, c2a, t0a, q0a⟩
              have hS2 : (wr.drew.alloc (.cells #[.string t, .string xc, .int .i64 y] 59)).cell? ⟨pg, 1, none⟩ = some (.string xc) ∧ (wr.drew.alloc (.cells #[.string t, .string xc, .int .i64 y] 59)).cell? ⟨pg, 2, none⟩ = some (.slice (some ⟨tb, tof, none⟩) tn tc) ∧ (wr.drew.alloc (.cells #[.string t, .string xc, .int .i64 y] 59)).cell? ⟨tb, tof + j, none⟩ = some (.string t) ∧ (wr.drew.alloc (.cells #[.string t, .string xc, .int .i64 y] 59)).cell? ⟨sb, so + j, none⟩ = some (.int .i64 y) := ⟨c1a, c2a, t0a, q0a⟩
              have HKS : Hid (∀ w8 : World, (wr.alloc (.cells #[.string t, .string xc, .int .i64 y] 59)).drew.grownBy w8 (Value.ownBlock (.slice LA ls.length lc)) → (w8.cell? ⟨pg, 1, none⟩ = some (.string xc) ∧ w8.cell? ⟨pg, 2, none⟩ = some (.slice (some ⟨tb, tof, none⟩) tn tc) ∧ w8.cell? ⟨tb, tof + j, none⟩ = some (.string t) ∧ w8.cell? ⟨sb, so + j, none⟩ = some (.int .i64 y)) ∧ ∀ u, (w8.setCell ⟨g, 3, none⟩ u).cell? ⟨pg, 1, none⟩ = some (.string xc) ∧ (w8.setCell ⟨g, 3, none⟩ u).cell? ⟨pg, 2, none⟩ = some (.slice (some ⟨tb, tof, none⟩) tn tc) ∧ (w8.setCell ⟨g, 3, none⟩ u).cell? ⟨tb, tof + j, none⟩ = some (.string t) ∧ (w8.setCell ⟨g, 3, none⟩ u).cell? ⟨sb, so + j, none⟩ = some (.int .i64 y)) := by
                intro w8 hg8
                have n1 : some pg ≠ Value.ownBlock (.slice LA ls.length lc) := fun e => by have := (HB.out.ow.block _ e.symm).1; omega
                have n2 : some tb ≠ Value.ownBlock (.slice LA ls.length lc) := fun e => by have := (HB.out.ow.block _ e.symm).1; omega
                have n3 : some sb ≠ Value.ownBlock (.slice LA ls.length lc) := fun e => (HB.out.sb sb so none rfl).2.2 e.symm
                have hgg := HB.out.gB
                have n4 := (HB.out.sb sb so none rfl).2.1
                have m1 := hg8.cell c1a n1
                have m2 := hg8.cell c2a n1
                have m3 := hg8.cell t0a n2
                have m4 := hg8.cell q0a n3
                have kk : ∀ (b o : Nat) (v u : Value), b ≠ g → w8.cell? ⟨b, o, none⟩ = some v → (w8.setCell ⟨g, 3, none⟩ u).cell? ⟨b, o, none⟩ = some v := fun b o v u hne h => (World.cell?_setCell_other _ _ _ _ (by first | (simp; done) | (simp; intro e; exact absurd e hne) | (simp; exact fun e => absurd e.symm hne))).trans h
                exact ⟨⟨m1, m2, m3, m4⟩, fun u => ⟨kk _ _ _ u (by omega) m1, kk _ _ _ u (by omega) m2, kk _ _ _ u (by omega) m3, kk _ _ _ u n4 m4⟩⟩
              clear hAL2
              go_upto_region 26 with fail
              refine wp_region_held_drew (S := fun w' => w'.cell? ⟨pg, 1, none⟩ = some (.string xc) ∧ w'.cell? ⟨pg, 2, none⟩ = some (.slice (some ⟨tb, tof, none⟩) tn tc) ∧ w'.cell? ⟨tb, tof + j, none⟩ = some (.string t) ∧ w'.cell? ⟨sb, so + j, none⟩ = some (.int .i64 y)) (by kernel_rfl) ?_ (fun hHeld => ?_)
              · exact hS0
              refine wpAnyH_take (i := 0) (v := ?_) rfl (by kernel_rfl) (by kernel_rfl) (by kernel_rfl) (fun _ _ _ h => h) (Or.inl ⟨by rfl, ?_⟩) (by assumption) ?_
              rotate_left
              · (intro w' hSw; (try dsimp only at hSw); go_simp; all_goals (try (with_reducible rfl)))
              (try simp only [Act.put, List.setIfInBounds_toArray, List.set_cons_zero, List.set_cons_succ])
              refine wpAnyH_take (i := 2) (v := ?_) rfl (by kernel_rfl) (by kernel_rfl) (by kernel_rfl) (fun _ _ _ h => h) (Or.inl ⟨by rfl, ?_⟩) (by assumption) ?_
              rotate_left
              · (intro w' hSw; (try dsimp only at hSw); go_simp; all_goals (try (with_reducible rfl)))
              (try simp only [Act.put, List.setIfInBounds_toArray, List.set_cons_zero, List.set_cons_succ])
              refine wpAnyH_take (i := 3) (v := ?_) rfl (by kernel_rfl) (by kernel_rfl) (by kernel_rfl) (fun _ _ _ h => h) (Or.inl ⟨by rfl, ?_⟩) (by assumption) ?_
              rotate_left
              · (intro w' hSw; (try dsimp only at hSw); go_simp; all_goals (try (with_reducible rfl)))
              (try simp only [Act.put, List.setIfInBounds_toArray, List.set_cons_zero, List.set_cons_succ])
              refine wpAnyH_take (i := 4) (v := ?_) rfl (by kernel_rfl) (by kernel_rfl) (by kernel_rfl) (fun _ _ _ h => h) (Or.inl ⟨by rfl, ?_⟩) (by assumption) ?_
              rotate_left
              · (intro w' hSw; (try dsimp only at hSw); go_simp; all_goals (try (with_reducible rfl)))
              (try simp only [Act.put, List.setIfInBounds_toArray, List.set_cons_zero, List.set_cons_succ])
              refine wpAnyH_take (i := 5) (v := ?_) rfl (by kernel_rfl) (by kernel_rfl) (by kernel_rfl) (fun _ _ _ h => h) (Or.inl ⟨by rfl, ?_⟩) (by assumption) ?_
              rotate_left
              · (intro w' hSw; (try dsimp only at hSw); go_simp; all_goals (try (with_reducible rfl)))
              (try simp only [Act.put, List.setIfInBounds_toArray, List.set_cons_zero, List.set_cons_succ])
              refine wpAnyH_take (i := 6) (v := ?_) rfl (by kernel_rfl) (by kernel_rfl) (by kernel_rfl) (fun _ _ _ h => h) (Or.inl ⟨by rfl, ?_⟩) (by assumption) ?_
              rotate_left
              · (intro w' hSw; (try dsimp only at hSw); go_simp; all_goals (try (with_reducible rfl)))
              (try simp only [Act.put, List.setIfInBounds_toArray, List.set_cons_zero, List.set_cons_succ])
              refine wpAnyH_take (i := 7) (v := ?_) rfl (by kernel_rfl) (by kernel_rfl) (by kernel_rfl) (fun _ _ _ h => h) (Or.inl ⟨by rfl, ?_⟩) (by assumption) ?_
              rotate_left
              · (intro w' hSw; (try dsimp only at hSw); go_simp; all_goals (try (with_reducible rfl)))
              (try simp only [Act.put, List.setIfInBounds_toArray, List.set_cons_zero, List.set_cons_succ])
              refine wpAnyH_take (i := 8) (v := ?_) rfl (by kernel_rfl) (by kernel_rfl) (by kernel_rfl) (fun _ _ _ h => h) (Or.inl ⟨by rfl, ?_⟩) (by assumption) ?_
              rotate_left
              · (intro w' hSw; (try dsimp only at hSw); go_simp; all_goals (try (with_reducible rfl)))
              (try simp only [Act.put, List.setIfInBounds_toArray, List.set_cons_zero, List.set_cons_succ])
              refine wpAnyH_take (i := 9) (v := ?_) rfl (by kernel_rfl) (by kernel_rfl) (by kernel_rfl) (fun _ _ _ h => h) (Or.inl ⟨by rfl, ?_⟩) (by assumption) ?_
              rotate_left
              · (intro w' hSw; (try dsimp only at hSw); go_simp; all_goals (try (with_reducible rfl)))
              (try simp only [Act.put, List.setIfInBounds_toArray, List.set_cons_zero, List.set_cons_succ])
              refine wpAnyH_take (i := 10) (v := ?_) rfl (by kernel_rfl) (by kernel_rfl) (by kernel_rfl) (fun _ _ _ h => h) (Or.inl ⟨by rfl, ?_⟩) (by assumption) ?_
              rotate_left
              · (intro w' hSw; (try dsimp only at hSw); go_simp; all_goals (try (with_reducible rfl)))
              (try simp only [Act.put, List.setIfInBounds_toArray, List.set_cons_zero, List.set_cons_succ])
              refine wpAnyH_take (i := 11) (v := ?_) rfl (by kernel_rfl) (by kernel_rfl) (by kernel_rfl) (fun _ _ _ h => h) (Or.inl ⟨by rfl, ?_⟩) (by assumption) ?_
              rotate_left
              · (intro w' hSw; (try dsimp only at hSw); go_simp; all_goals (try (with_reducible rfl)))
              (try simp only [Act.put, List.setIfInBounds_toArray, List.set_cons_zero, List.set_cons_succ])
              refine wpAnyH_take (i := 12) (v := ?_) rfl (by kernel_rfl) (by kernel_rfl) (by kernel_rfl) (fun _ _ _ h => h) (Or.inl ⟨by rfl, ?_⟩) (by assumption) ?_
              rotate_left
              · (intro w' hSw; (try dsimp only at hSw); go_simp; all_goals (try (with_reducible rfl)))
              (try simp only [Act.put, List.setIfInBounds_toArray, List.set_cons_zero, List.set_cons_succ])
              refine wpAnyH_take (i := 13) (v := ?_) rfl (by kernel_rfl) (by kernel_rfl) (by kernel_rfl) (fun _ _ _ h => h) (Or.inl ⟨by rfl, ?_⟩) (by assumption) ?_
              rotate_left
              · (intro w' hSw; (try dsimp only at hSw); go_simp; all_goals (try (with_reducible rfl)))
              (try simp only [Act.put, List.setIfInBounds_toArray, List.set_cons_zero, List.set_cons_succ])
              refine wpAnyH_ready (rs := [1, 14]) (by kernel_rfl) (by simp) ?_
              refine AllReadyH.cons (o := _) rfl (fun K hK => ?_) (AllReadyH.cons (o := _) rfl (fun K hK => ?_) AllReadyH.nil)
              · go_simp
                refine hK.out _ _ ?_ (fun hHeld => ?_)
                · first | with_reducible exact hS0 | with_reducible exact hS1 | with_reducible exact hS2 | exact hS1
                clear hK K
                (try simp only [Act.put, List.setIfInBounds_toArray, List.set_cons_zero, List.set_cons_succ])
                refine wpAnyH_ready (rs := [14]) (by kernel_rfl) (by simp) ?_
                refine AllReadyH.cons (o := _) rfl (fun K hK => ?_) AllReadyH.nil
                go_simp
                refine hK.out _ _ ?_ (fun hHeld => ?_)
                · first | with_reducible exact hS0 | with_reducible exact hS1 | with_reducible exact hS2 | exact hS1
                clear hK K
                (try simp only [Act.put, List.setIfInBounds_toArray, List.set_cons_zero, List.set_cons_succ])
                refine wpAnyH_ready (rs := [15]) (by kernel_rfl) (by simp) ?_
                refine AllReadyH.cons (o := _) rfl (fun K hK => ?_) AllReadyH.nil
                refine step_pushE _ rfl _ _ 55 rfl w5.heap.size 59 j1 zeroLine 3 40 Tryz.underlying55 hj1 hx0 hx1 hx2 rfl (by decide) lineEnc_ok (.slice LA ls.length lc) ls (by simp [Act.eval]) HO8.out _ 1 1 [⟨t, xc, y⟩] (by simp [Act.eval]) HR8.out (by intro h; cases h) (by simp only [maxLen]; omega) (by omega) (by omega) ?_
                intro v2 w8 hown8 hg8 hat8
                obtain ⟨g3, gf⟩ := HB.out.push _ hg8
                obtain ⟨A2, c2', rfl, hc2a, hc2b⟩ := hown8.form
                obtain ⟨hS3, hS4⟩ := HKS.out _ hg8
                have hS5 := hS4 (.slice A2 (ls ++ [(⟨t, xc, y⟩ : Line)]).length c2')
                have hS6 := hS4 (.slice A2 (ls.length + 1) c2')
                have HOW := hide hown8
                have HGG := hide hg8
                have HAA := hide hat8
                clear hown8 hg8 hat8 hS4
                refine hK.out _ _ ?_ (fun hHeld => ?_)
                · with_reducible exact hS3
                clear hK K
                (try simp only [Act.put, List.setIfInBounds_toArray, List.set_cons_zero, List.set_cons_succ])
                refine wpAnyH_take (i := 16) (v := ?_) rfl (by kernel_rfl) (by kernel_rfl) (by kernel_rfl) (fun _ _ _ h => h) (Or.inl ⟨by rfl, ?_⟩) (by assumption) ?_
                rotate_left
                · (intro w' hSw; (try dsimp only at hSw); go_simp; all_goals (try (with_reducible rfl)))
                (try simp only [Act.put, List.setIfInBounds_toArray, List.set_cons_zero, List.set_cons_succ])
                refine wpAnyH_ready (rs := [17]) (by kernel_rfl) (by simp) ?_
                refine AllReadyH.cons (o := _) rfl (fun K hK => ?_) AllReadyH.nil
                go_simp
                refine hK.out _ _ ?_ (fun hHeld => ?_)
                · first | with_reducible exact hS5 | with_reducible exact hS6 | exact hS5 | exact hS6
                clear hK K
                (try simp only [Act.put, List.setIfInBounds_toArray, List.set_cons_zero, List.set_cons_succ])
                refine wpAnyH_done (by kernel_rfl) ?_ _
                have hst := HB.out.step _ _ HOW.out HGG.out HAA.out
                rw [show (ls ++ [(⟨t, xc, y⟩ : Line)]).length = ls.length + 1 by simp] at hst
                have HST := hide hst
                clear hst
                go_wp2_with fail
                go_roundw
                case rel => exact ⟨j + 1, _, by omega, by go_num, by rw [HY.out, ← List.cons_append, ← HLS.out]; exact HST⟩
                case measure => simp [intOf]; omega
              · go_simp
                refine hK.out _ _ ?_ (fun hHeld => ?_)
                · first | with_reducible exact hS0 | with_reducible exact hS1 | with_reducible exact hS2 | exact hS1
                clear hK K
                (try simp only [Act.put, List.setIfInBounds_toArray, List.set_cons_zero, List.set_cons_succ])
                refine wpAnyH_ready (rs := [1]) (by kernel_rfl) (by simp) ?_
                refine AllReadyH.cons (o := _) rfl (fun K hK => ?_) AllReadyH.nil
                go_simp
                refine hK.out _ _ ?_ (fun hHeld => ?_)
                · first | with_reducible exact hS0 | with_reducible exact hS1 | with_reducible exact hS2 | exact hS1
                clear hK K
                (try simp only [Act.put, List.setIfInBounds_toArray, List.set_cons_zero, List.set_cons_succ])
                refine wpAnyH_ready (rs := [15]) (by kernel_rfl) (by simp) ?_
                refine AllReadyH.cons (o := _) rfl (fun K hK => ?_) AllReadyH.nil
                refine step_pushE _ rfl _ _ 55 rfl w5.heap.size 59 j1 zeroLine 3 40 Tryz.underlying55 hj1 hx0 hx1 hx2 rfl (by decide) lineEnc_ok (.slice LA ls.length lc) ls (by simp [Act.eval]) HO8.out _ 1 1 [⟨t, xc, y⟩] (by simp [Act.eval]) HR8.out (by intro h; cases h) (by simp only [maxLen]; omega) (by omega) (by omega) ?_
                intro v2 w8 hown8 hg8 hat8
                obtain ⟨g3, gf⟩ := HB.out.push _ hg8
                obtain ⟨A2, c2', rfl, hc2a, hc2b⟩ := hown8.form
                obtain ⟨hS3, hS4⟩ := HKS.out _ hg8
                have hS5 := hS4 (.slice A2 (ls ++ [(⟨t, xc, y⟩ : Line)]).length c2')
                have hS6 := hS4 (.slice A2 (ls.length + 1) c2')
                have HOW := hide hown8
                have HGG := hide hg8
                have HAA := hide hat8
                clear hown8 hg8 hat8 hS4
                refine hK.out _ _ ?_ (fun hHeld => ?_)
                · with_reducible exact hS3
                clear hK K
                (try simp only [Act.put, List.setIfInBounds_toArray, List.set_cons_zero, List.set_cons_succ])
                refine wpAnyH_take (i := 16) (v := ?_) rfl (by kernel_rfl) (by kernel_rfl) (by kernel_rfl) (fun _ _ _ h => h) (Or.inl ⟨by rfl, ?_⟩) (by assumption) ?_
                rotate_left
                · (intro w' hSw; (try dsimp only at hSw); go_simp; all_goals (try (with_reducible rfl)))
                (try simp only [Act.put, List.setIfInBounds_toArray, List.set_cons_zero, List.set_cons_succ])
                refine wpAnyH_ready (rs := [17]) (by kernel_rfl) (by simp) ?_
                refine AllReadyH.cons (o := _) rfl (fun K hK => ?_) AllReadyH.nil
                go_simp
                refine hK.out _ _ ?_ (fun hHeld => ?_)
                · first | with_reducible exact hS5 | with_reducible exact hS6 | exact hS5 | exact hS6
                clear hK K
                (try simp only [Act.put, List.setIfInBounds_toArray, List.set_cons_zero, List.set_cons_succ])
                refine wpAnyH_done (by kernel_rfl) ?_ _
                have hst := HB.out.step _ _ HOW.out HGG.out HAA.out
                rw [show (ls ++ [(⟨t, xc, y⟩ : Line)]).length = ls.length + 1 by simp] at hst
                have HST := hide hst
                clear hst
                go_wp2_with fail
                go_roundw
                case rel => exact ⟨j + 1, _, by omega, by go_num, by rw [HY.out, ← List.cons_append, ← HLS.out]; exact HST⟩
                case measure => simp [intOf]; omega
end Go.Proofs.YtbdbpcllndajgaaGreatDoor
