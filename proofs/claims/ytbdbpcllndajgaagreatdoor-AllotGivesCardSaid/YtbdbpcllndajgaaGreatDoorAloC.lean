/- allot.Entries: what it returns. -/
import Derived.Test.YtbdbpcllndajgaaGreatDoorAloX
import Derived.Deep.RegionHeld3
import Derived.BigRegion
import Derived.Deep.CutRange
namespace Go.Proofs.YtbdbpcllndajgaaGreatDoor
open Go Go.RowKit
set_option linter.unusedVariables false

theorem keepD {w : World} {g : Nat} {a c : ByteArray} (o' : Obj) (h : w.drew.cell? ⟨g, 0, none⟩ = some (.string a) ∧ w.drew.cell? ⟨g, 1, none⟩ = some (.string c)) : (w.alloc o').drew.cell? ⟨g, 0, none⟩ = some (.string a) ∧ (w.alloc o').drew.cell? ⟨g, 1, none⟩ = some (.string c) := keepL (w := w) o' h
theorem keepSt {w : World} {g pg : Nat} {x y a b c d : Value} (h : w.cell? ⟨pg, 0, none⟩ = some x ∧ w.cell? ⟨pg, 1, none⟩ = some y) (hg : pg ≠ g) : ((((w.setCell ⟨g, 0, none⟩ a).setCell ⟨g, 1, none⟩ b).setCell ⟨g, 2, none⟩ c).setCell ⟨g, 3, none⟩ d).cell? ⟨pg, 0, none⟩ = some x ∧ ((((w.setCell ⟨g, 0, none⟩ a).setCell ⟨g, 1, none⟩ b).setCell ⟨g, 2, none⟩ c).setCell ⟨g, 3, none⟩ d).cell? ⟨pg, 1, none⟩ = some y := by
  have k : ∀ (o : Nat) (u : Value) (q : Nat) (v : Value) (W : World), W.cell? ⟨pg, o, none⟩ = some u → (W.setCell ⟨g, q, none⟩ v).cell? ⟨pg, o, none⟩ = some u := fun o u q v W hc => (World.cell?_setCell_other _ _ _ _ (by first | (simp; done) | (simp; intro e; exact absurd e hg) | (simp; exact fun e => absurd e.symm hg))).trans hc
  exact ⟨k _ _ _ _ _ (k _ _ _ _ _ (k _ _ _ _ _ (k _ _ _ _ _ h.1))), k _ _ _ _ _ (k _ _ _ _ _ (k _ _ _ _ _ (k _ _ _ _ _ h.2)))⟩
section
variable {W0 w3 : World} {ref : ByteArray} {ent per : Int} {a k : ByteArray} {z : Int}
theorem fin1 (h : Below W0.heap.size W0 w3) : Bld W0 ((w3.alloc (.cells #[.string a, .string k, .int .i64 z] 59)).alloc (.cells #[.string ref, .int .i64 ent, .int .i64 per, .slice (some ⟨w3.heap.size, 0, none⟩) 1 1] 57)) (w3.heap.size + 1) ref ent per (.slice (some ⟨w3.heap.size, 0, none⟩) 1 1) [⟨a, k, z⟩] none [] := by
  have h1 := Bld.make (W1 := w3.alloc (.cells #[.string a, .string k, .int .i64 z] 59)) ref ent per ⟨a, k, z⟩ h (Below.refl _ _)
  rw [asL] at h1
  exact h1
theorem fin2 (m : Nat) (hm : m = W0.heap.size) (h : Below (W0.alloc (.cells #[.string a, .string k, .int .i64 z] 59)).heap.size (W0.alloc (.cells #[.string a, .string k, .int .i64 z] 59)) w3) : Bld W0 (w3.alloc (.cells #[.string ref, .int .i64 ent, .int .i64 per, .slice (some ⟨m, 0, none⟩) 1 1] 57)) (w3.heap.size) ref ent per (.slice (some ⟨m, 0, none⟩) 1 1) [⟨a, k, z⟩] none [] := Bld.makeM m hm ref ent per ⟨a, k, z⟩ (Below.refl _ _) h
theorem fin3 (h : Below W0.heap.size W0 w3) : Bld W0 ((((((w3.alloc (.cells #[.string ⟨#[]⟩, .int .i64 0, .int .i64 0, .slice none 0 0] 57)).alloc (.cells #[.string a, .string k, .int .i64 z] 59)).setCell ⟨w3.heap.size, 0, none⟩ (.string ref)).setCell ⟨w3.heap.size, 1, none⟩ (.int .i64 ent)).setCell ⟨w3.heap.size, 2, none⟩ (.int .i64 per)).setCell ⟨w3.heap.size, 3, none⟩ (.slice (some ⟨w3.heap.size + 1, 0, none⟩) 1 1)) (w3.heap.size) ref ent per (.slice (some ⟨w3.heap.size + 1, 0, none⟩) 1 1) [⟨a, k, z⟩] none [] := Bld.o3 (y := ⟨a, k, z⟩) h
theorem fin7 (h : Below W0.heap.size W0 w3) : Bld W0 ((w3.alloc (.cells #[.string ref, .int .i64 ent, .int .i64 per, .slice (some ⟨w3.heap.size + 1, 0, none⟩) 1 1] 57)).alloc (.cells #[.string a, .string k, .int .i64 z] 59)) (w3.heap.size) ref ent per (.slice (some ⟨w3.heap.size + 1, 0, none⟩) 1 1) [⟨a, k, z⟩] none [] := Bld.o7 (y := ⟨a, k, z⟩) h
theorem fin4 (m : Nat) (hm : m = W0.heap.size) (h : Below ((W0.alloc (.cells #[.string a, .string k, .int .i64 z] 59)).alloc (.cells #[.string ⟨#[]⟩, .int .i64 0, .int .i64 0, .slice none 0 0] 57)).heap.size ((W0.alloc (.cells #[.string a, .string k, .int .i64 z] 59)).alloc (.cells #[.string ⟨#[]⟩, .int .i64 0, .int .i64 0, .slice none 0 0] 57)) w3) : Bld W0 ((((w3.setCell ⟨m + 1, 0, none⟩ (.string ref)).setCell ⟨m + 1, 1, none⟩ (.int .i64 ent)).setCell ⟨m + 1, 2, none⟩ (.int .i64 per)).setCell ⟨m + 1, 3, none⟩ (.slice (some ⟨m, 0, none⟩) 1 1)) (m + 1) ref ent per (.slice (some ⟨m, 0, none⟩) 1 1) [⟨a, k, z⟩] none [] := Bld.o4M m hm (y := ⟨a, k, z⟩) h
theorem fin5 (m : Nat) (hm : m = W0.heap.size) (h : Below ((W0.alloc (.cells #[.string ⟨#[]⟩, .int .i64 0, .int .i64 0, .slice none 0 0] 57)).alloc (.cells #[.string a, .string k, .int .i64 z] 59)).heap.size ((W0.alloc (.cells #[.string ⟨#[]⟩, .int .i64 0, .int .i64 0, .slice none 0 0] 57)).alloc (.cells #[.string a, .string k, .int .i64 z] 59)) w3) : Bld W0 ((((w3.setCell ⟨m, 0, none⟩ (.string ref)).setCell ⟨m, 1, none⟩ (.int .i64 ent)).setCell ⟨m, 2, none⟩ (.int .i64 per)).setCell ⟨m, 3, none⟩ (.slice (some ⟨m + 1, 0, none⟩) 1 1)) (m) ref ent per (.slice (some ⟨m + 1, 0, none⟩) 1 1) [⟨a, k, z⟩] none [] := Bld.o5M m hm (y := ⟨a, k, z⟩) h
theorem fin6 (m : Nat) (hm : m = W0.heap.size) (h : Below (W0.alloc (.cells #[.string ⟨#[]⟩, .int .i64 0, .int .i64 0, .slice none 0 0] 57)).heap.size (W0.alloc (.cells #[.string ⟨#[]⟩, .int .i64 0, .int .i64 0, .slice none 0 0] 57)) w3) : Bld W0 (((((w3.alloc (.cells #[.string a, .string k, .int .i64 z] 59)).setCell ⟨m, 0, none⟩ (.string ref)).setCell ⟨m, 1, none⟩ (.int .i64 ent)).setCell ⟨m, 2, none⟩ (.int .i64 per)).setCell ⟨m, 3, none⟩ (.slice (some ⟨w3.heap.size, 0, none⟩) 1 1)) (m) ref ent per (.slice (some ⟨w3.heap.size, 0, none⟩) 1 1) [⟨a, k, z⟩] none [] := Bld.o6M m hm (y := ⟨a, k, z⟩) h
end
set_option maxHeartbeats 4000000 in
set_option maxRecDepth 100000 in
theorem allotEntries_any (c : List Acc) (CA : Option Addr) (cn ccap : Nat) (l : List Pol) (A : Option Addr) (n cap : Nat) (b : List Bal) (BA : Option Addr) (bn bcap : Nat) (ent per : Int) (dg : Nat → ByteArray) (w : World)
    (hcl : cn ≤ 9223372036854775807) (hcc : cn ≤ ccap) (hc : Accs w CA cn c) (hcok : AccOk c) (hl : n ≤ cap) (hcap : cap ≤ maxLen) (ha : Rd w 4 Pol.enc A n l) (hok : ∀ p ∈ l, PolFits w p) (hbl : bn ≤ 9223372036854775807) (hb : Rd w 4 balEnc BA bn b) (hdg : ∀ k, k < 20 → (dg k).size ≤ 21)
    (HIt : Hid (∀ k : Nat, k < 20 → ∀ W : World, Below w.heap.size w W → Calls Tryz.prog 26 #[.int .i64 k] W fun e w' => e = .returned (.string (dg k)) ∧ Below W.heap.size W w')) :
    Calls Tryz.prog 8 #[.slice CA cn ccap, .slice A n cap, .slice BA bn bcap, .int .i64 ent, .int .i64 per] w fun e w' =>
      ((allotE c l b ent per ≠ 0 ∧ e = .returned (.tuple #[.slice none 0 0, errV (allotE c l b ent per)])) ∨
        (allotE c l b ent per = 0 ∧ ∃ v es, e = .returned (.tuple #[v, .nilIface]) ∧ Pack w' w.heap.size v es ∧ GaveTo l b ent per dg n (es.map Ent.core))) ∧ Below w.heap.size w w' := by
  have hn := ha.1
  have Hn := hide hn
  obtain ⟨i1, hi1, hy0, hy1, hy2⟩ := info_parts ent_infoA
  obtain ⟨j1, hj1, hx0, hx1, hx2⟩ := info_parts line_info
  by_cases hp : poolsE c l = 0
  case neg =>
    have HP := hide hp
    clear hp
    go_enter Tryz.func8, Tryz.ntmps8
    go_wp2_with fail
    refine (poolsCheck_any c _ _ _ l _ _ _ _ hcl hcc hc hcok hl hcap ha hok).mono ?_
    rintro e w1 ⟨rfl, hb1⟩
    rw [errV_n HP.out]
    go_wp2_with fail
    go_ret2
    exact ⟨.inl ⟨by rw [allotE_1 HP.out]; exact HP.out, by rw [allotE_1 HP.out, errV_n HP.out]; rfl⟩, hb1⟩
  case pos =>
  have HP := hide hp
  obtain ⟨_, h20, hpo⟩ := poolsE_0 hp
  have hn20 : n ≤ 20 := by omega
  have HPO := hide hpo
  clear hp hpo h20 hn
  by_cases hbz : balsE b = 0
  case neg =>
    have HB := hide hbz
    clear hbz
    go_enter Tryz.func8, Tryz.ntmps8
    go_wp2_with fail
    refine (poolsCheck_any c _ _ _ l _ _ _ _ hcl hcc hc hcok hl hcap ha hok).mono ?_
    rintro e w1 ⟨rfl, hb1⟩
    rw [errV_0 HP.out]
    go_wp2_with fail
    refine (lcheck_any b _ _ _ _ hbl (hb.below hb1)).mono ?_
    rintro e w2 ⟨rfl, hb2⟩
    have hb2 := bthen hb1 (Nat.le_refl _) hb2
    rw [errV_n HB.out]
    go_wp2_with fail
    go_ret2
    exact ⟨.inl ⟨by rw [allotE_2 HP.out HB.out]; exact HB.out, by rw [allotE_2 HP.out HB.out, errV_n HB.out]; rfl⟩, hb2⟩
  case pos =>
  have HB := hide hbz
  clear hbz
  by_cases hat : atEL ent per = 0
  case neg =>
    have HAT := hide hat
    clear hat
    go_enter Tryz.func8, Tryz.ntmps8
    go_wp2_with fail
    refine (poolsCheck_any c _ _ _ l _ _ _ _ hcl hcc hc hcok hl hcap ha hok).mono ?_
    rintro e w1 ⟨rfl, hb1⟩
    rw [errV_0 HP.out]
    go_wp2_with fail
    refine (lcheck_any b _ _ _ _ hbl (hb.below hb1)).mono ?_
    rintro e w2 ⟨rfl, hb2⟩
    have hb2 := bthen hb1 (Nat.le_refl _) hb2
    rw [errV_0 HB.out]
    go_wp2_with fail
    refine (atL_any ent per _).mono ?_
    rintro e w3 ⟨rfl, rfl⟩
    rw [errV_n HAT.out]
    go_wp2_with fail
    go_ret2
    exact ⟨.inl ⟨by rw [allotE_3 HP.out HB.out HAT.out]; exact HAT.out, by rw [allotE_3 HP.out HB.out HAT.out, errV_n HAT.out]; rfl⟩, hb2⟩
  case pos =>
  have HAT := hide hat
  clear hat
  go_enter Tryz.func8, Tryz.ntmps8
  go_wp2_with fail
  refine (poolsCheck_any c _ _ _ l _ _ _ _ hcl hcc hc hcok hl hcap ha hok).mono ?_
  rintro e w1 ⟨rfl, hb1⟩
  rw [errV_0 HP.out]
  go_wp2_with fail
  refine (lcheck_any b _ _ _ _ hbl (hb.below hb1)).mono ?_
  rintro e w2 ⟨rfl, hb2⟩
  have hb1 := bthen hb1 (Nat.le_refl _) hb2
  rw [errV_0 HB.out]
  go_wp2_with fail
  refine (atL_any ent per _).mono ?_
  rintro e w3 ⟨rfl, rfl⟩
  rw [errV_0 HAT.out]
  clear hb2
  go_wp2_with fail
  go_loopw [15, 43] (fun ov iv wr => ∃ (k : Nat) (es : List Ent), k ≤ n ∧ iv = .int .i64 k ∧ Hid (firstE (haveE l b ent) k = 0) ∧ Pack wr w.heap.size ov es ∧ Hid (GaveTo l b ent per dg k (es.map Ent.core)) ∧ Below w.heap.size w wr) (fun _ iv _ => n - (intOf iv).toNat)
  case atStart => exact ⟨0, [], by omega, rfl, hide rfl, Pack.nil _ _, hide GaveTo.zero, hb1⟩
  case round =>
    clear hb1
    obtain ⟨k, es, hk, rfl, HTO, hpk, HES, hbr⟩ := hrel
    obtain ⟨wo, hwo⟩ : ∃ wo, wo = wr := ⟨_, rfl⟩
    subst hwo
    by_cases hlt : k < n
    case neg =>
      have hkn : k = n := by omega
      have HG : Hid (allotE c l b ent per = 0) := by
        show _ = _
        rw [allotE_4 HP.out HB.out HAT.out, Hn.out, ← hkn]
        exact HTO.out
      go_wp2_with fail
      go_ret2
      exact ⟨.inr ⟨HG.out, _, es, rfl, hpk, by rw [← hkn]; exact HES.out⟩, hbr⟩
    case pos =>
    have hkl : k < l.length := by have := Hn.out; omega
    obtain ⟨b0, off, rfl, hcs⟩ := (Rd.below ha hbr).2 (by omega)
    have q0 := hcs k 0 _ hkl rfl
    have q1 := hcs k 1 _ hkl rfl
    have q2 := hcs k 2 _ hkl rfl
    have q3 := hcs k 3 _ hkl rfl
    rw [Nat.add_zero] at q0
    clear hcs
    have k0 : (0 : Int) ≤ (k : Int) := by omega
    have k1 : (k : Int) < (n : Int) := by omega
    have hsz := hbr.size
    obtain ⟨x, hx⟩ : ∃ x, x = l[k] := ⟨_, rfl⟩
    have HX := hide hx
    have hfx : Hid (∀ W : World, Below w.heap.size w W → PolFits W x) := fun W hW => by rw [hx]; exact (hok _ (List.getElem_mem hkl)).below hW
    have hpx : Hid (poolE c x = 0) := by show _ = _; rw [hx]; exact HPO.out k hkl
    rw [← hx] at q0 q1 q2 q3
    clear hx
    have hA : Below wo.heap.size wo (wo.alloc (.cells #[.string x.acc, .string x.cur, .slice x.TA x.tn x.tc, .slice x.WA x.wn x.wc] 43)) := (Below.refl _ _).alloc (Nat.le_refl _) _
    have hX := PolAt.new wo x
    obtain ⟨xa, hxa⟩ : ∃ s, s = x.acc := ⟨_, rfl⟩
    obtain ⟨xc, hxc⟩ : ∃ s, s = x.cur := ⟨_, rfl⟩
    obtain ⟨TA, hTA⟩ : ∃ s, s = x.TA := ⟨_, rfl⟩
    obtain ⟨tn, htn⟩ : ∃ s, s = x.tn := ⟨_, rfl⟩
    obtain ⟨tc, htc⟩ : ∃ s, s = x.tc := ⟨_, rfl⟩
    obtain ⟨WA, hWA⟩ : ∃ s, s = x.WA := ⟨_, rfl⟩
    obtain ⟨wn, hwn⟩ : ∃ s, s = x.wn := ⟨_, rfl⟩
    obtain ⟨wcp, hwc⟩ : ∃ s, s = x.wc := ⟨_, rfl⟩
    rw [← hxa, ← hxc, ← hTA, ← htn, ← htc, ← hWA, ← hwn, ← hwc] at hA hX
    rw [← hxa] at q0
    rw [← hxc] at q1
    rw [← hTA, ← htn, ← htc] at q2
    rw [← hWA, ← hwn, ← hwc] at q3
    have hfw := hfx.out _ hbr
    obtain ⟨_, _, _, hT1, hT2, _, hT3⟩ := poolE_0 hpx.out
    have HTN : Hid (x.to.length = tn ∧ x.ws.length = wn ∧ tn = wn ∧ tn ≤ 19 ∧ tn ≤ tc ∧ tc ≤ maxLen ∧ shE x.ws = 0) := by
      show _ ∧ _
      have e1 := hfw.to.1
      have e2 := hfw.ws.1
      have e3 := hfw.tc
      have e4 := hfw.tm
      rw [htn, hwn, htc]
      exact ⟨e1, e2, by omega, by omega, e3, e4, hT3⟩
    have HXA := hide hxa
    have HXC := hide hxc
    have HTA := hide (And.intro hTA (And.intro htn htc))
    have HWA := hide (And.intro hWA (And.intro hwn hwc))
    have hB := bthen hbr (Nat.le_refl _) hA
    have hpk1 := hpk.below hA
    have hel : es.length ≤ 20 := by have := HES.out.len; rw [List.length_map] at this; omega
    obtain ⟨VA, vc, rfl, hvc, hvm⟩ := hpk.own.form
    obtain ⟨pg, hpg⟩ : ∃ pg, pg = wo.heap.size := ⟨_, rfl⟩
    obtain ⟨nv, hnv⟩ : ∃ nv, nv = getB b ent xa xc := ⟨_, rfl⟩
    have HNV : Hid (nv = getB b ent l[k].acc l[k].cur) := by show _ = _; rw [hnv, hxa, hxc, HX.out]
    have HGET : Hid (∀ W : World, Below w.heap.size w W → Calls Tryz.prog 24 #[.slice BA bn bcap, .int .i64 ent, .string xa, .string xc] W fun e w' => e = .returned (.int .i64 nv) ∧ Below W.heap.size W w') := fun W hW => by rw [hnv]; exact lget_any b ent xa xc BA bn bcap W hbl (hb.below hW)
    clear hnv hpk hfw hT1 hT2 hT3 hxa hxc hTA htn htc hWA hwn hwc
    go_upto_region 14 with fail
    rw [← hpg] at hX ⊢
    generalize (wo.alloc (.cells #[.string xa, .string xc, .slice TA tn tc, .slice WA wn wcp] 43)) = W1 at hX hB hpk1 hA ⊢
    have c0 := hX.c0
    have c1 := hX.c1
    rw [← HXA.out] at c0
    rw [← HXC.out] at c1
    clear q0 q1 q2 q3 hA hpg
    go_wp2_with fail
    refine (HGET.out _ hB).mono ?_
    rintro e w2 ⟨rfl, hb2⟩
    have hX2 := hX.below hb2
    have hpk2 := hpk1.below hb2
    have hB2 := bthen hB (Nat.le_refl _) hb2
    have hs2 := hB2.size
    clear c0 c1 hX hpk1 hB hb2
    by_cases hz : nv = 0
    · have hz1 : (nv == 0) = true := by simpa using hz
      have HN : Hid (GaveTo l b ent per dg (k + 1) (es.map Ent.core)) := GaveTo.skip HES.out hkl (by rw [← HNV.out]; exact hz)
      have HT : Hid (firstE (haveE l b ent) (k + 1) = 0) := by show _ = _; rw [firstE_succ HTO.out]; exact have_0 hkl (by rw [← HNV.out]; exact hz)
      clear hz
      go_wp2_with fail
      go_roundw
      case rel => exact ⟨k + 1, es, by omega, by go_num, HT, hpk2, HN, hB2⟩
      case measure => simp [intOf]; omega
    · have hz1 : (nv == 0) = false := by simpa using hz
      cases ham : inB (-1000000000000000) 1000000000000000 nv with
      | false =>
        have HG : Hid (allotE c l b ent per = 1) := allotE_hit HP.out HB.out HAT.out hkl HTO.out (have_1 hkl (by rw [← HNV.out]; exact hz) (by rw [← HNV.out]; exact ham))
        have HAM := hide ham
        clear hz ham
        go_wp2_with fail
        refine (amount_any _ _).mono ?_
        rintro e w6 ⟨rfl, rfl⟩
        rw [HAM.out]
        go_wp2_with fail
        go_ret2
        exact ⟨.inl ⟨by rw [HG.out]; decide, by rw [HG.out]; rfl⟩, hB2⟩
      | true =>
        have HT : Hid (firstE (haveE l b ent) (k + 1) = 0) := by show _ = _; rw [firstE_succ HTO.out]; exact have_in hkl (by rw [← HNV.out]; exact ham)
        have HGV : Hid (∀ out : List Int, Shared nv x.ws out → GaveTo l b ent per dg (k + 1) (es.map Ent.core ++ [giveCore ent per (refL ++ dg k) x nv out])) := by
          intro out hs
          rw [HNV.out, HX.out]
          rw [HNV.out, HX.out] at hs
          exact GaveTo.give HES.out hkl (by rw [← HNV.out]; exact hz) (by rw [← HNV.out]; exact ham) hs
        have HAM := hide ham
        have hnb : -1000000000000000 ≤ nv ∧ nv ≤ 1000000000000000 := by simpa [inB] using ham
        obtain ⟨hn1, hn2⟩ := hnb
        clear hz ham
        have hwn : IntKind.i64.wrap (-nv) = -nv := IntWalk.i64_in _ (by omega)
        go_wp2_with fail
        refine (amount_any _ _).mono ?_
        rintro e w6 ⟨rfl, rfl⟩
        rw [HAM.out]
        go_upto_region 18 with fail
        have hk20 : k < 20 := by omega
        have hds := hdg k hk20
        obtain ⟨D, hD⟩ : ∃ D, D = dg k := ⟨_, rfl⟩
        rw [← hD] at hds
        have HD := hide hD
        have hwA : ¬ (9223372036854775807 < (⟨#[97, 108, 108, 111, 116, 45]⟩ : ByteArray).size + D.size) := by
          have : (⟨#[97, 108, 108, 111, 116, 45]⟩ : ByteArray).size = 6 := rfl
          omega
        have hwB : ¬ (9223372036854775807 < 6 + D.size) := by omega
        have hwC : ¬ (9223372036854775807 < (#[97, 108, 108, 111, 116, 45] : Array UInt8).size + D.size) := hwA
        have hS : w2.drew.cell? ⟨pg, 0, none⟩ = some (.string xa) ∧ w2.drew.cell? ⟨pg, 1, none⟩ = some (.string xc) := by rw [HXA.out, HXC.out]; exact ⟨hX2.c0, hX2.c1⟩
        have hBd : Below w.heap.size w w2.drew := bdrewN hB2 1
        have hpkd : Pack w2.drew w.heap.size (.slice VA es.length vc) es := hpk2.below (bdrewN (Below.refl _ w2) 1)
        have hXd : PolAt w2.drew pg x := ⟨hX2.c0, hX2.c1, hX2.c2, hX2.c3⟩
        have HI : Hid (∀ W : World, Below w.heap.size w W → Calls Tryz.prog 26 #[.int .i64 k] W fun e w' => e = .returned (.string D) ∧ Below W.heap.size W w') := by rw [hD]; exact HIt.out k hk20
        have hs0 := hBd.size
        have HI0 : Hid (Calls Tryz.prog 26 #[.int .i64 k] w2.drew fun e w' => e = .returned (.string D) ∧ Below w2.drew.heap.size w2.drew w') := HI.out _ (hBd)
        have HI1 : Hid (Calls Tryz.prog 26 #[.int .i64 k] (w2.drew.alloc (.cells #[.string xa, .string xc, .int .i64 (-nv)] 59)) fun e w' => e = .returned (.string D) ∧ Below (w2.drew.alloc (.cells #[.string xa, .string xc, .int .i64 (-nv)] 59)).heap.size (w2.drew.alloc (.cells #[.string xa, .string xc, .int .i64 (-nv)] 59)) w') := HI.out _ (hBd.trans ((al1L _ _).mono hs0))
        have HI2 : Hid (Calls Tryz.prog 26 #[.int .i64 k] (w2.drew.alloc (.cells #[.string ⟨#[]⟩, .int .i64 0, .int .i64 0, .slice none 0 0] 57)) fun e w' => e = .returned (.string D) ∧ Below (w2.drew.alloc (.cells #[.string ⟨#[]⟩, .int .i64 0, .int .i64 0, .slice none 0 0] 57)).heap.size (w2.drew.alloc (.cells #[.string ⟨#[]⟩, .int .i64 0, .int .i64 0, .slice none 0 0] 57)) w') := HI.out _ (hBd.trans ((al1L _ _).mono hs0))
        have HI3 : Hid (Calls Tryz.prog 26 #[.int .i64 k] ((w2.drew.alloc (.cells #[.string xa, .string xc, .int .i64 (-nv)] 59)).alloc (.cells #[.string ⟨#[]⟩, .int .i64 0, .int .i64 0, .slice none 0 0] 57)) fun e w' => e = .returned (.string D) ∧ Below ((w2.drew.alloc (.cells #[.string xa, .string xc, .int .i64 (-nv)] 59)).alloc (.cells #[.string ⟨#[]⟩, .int .i64 0, .int .i64 0, .slice none 0 0] 57)).heap.size ((w2.drew.alloc (.cells #[.string xa, .string xc, .int .i64 (-nv)] 59)).alloc (.cells #[.string ⟨#[]⟩, .int .i64 0, .int .i64 0, .slice none 0 0] 57)) w') := HI.out _ (hBd.trans (((al1L _ _).trans ((al1L _ _).mono (by simp))).mono hs0))
        have HI4 : Hid (Calls Tryz.prog 26 #[.int .i64 k] ((w2.drew.alloc (.cells #[.string ⟨#[]⟩, .int .i64 0, .int .i64 0, .slice none 0 0] 57)).alloc (.cells #[.string xa, .string xc, .int .i64 (-nv)] 59)) fun e w' => e = .returned (.string D) ∧ Below ((w2.drew.alloc (.cells #[.string ⟨#[]⟩, .int .i64 0, .int .i64 0, .slice none 0 0] 57)).alloc (.cells #[.string xa, .string xc, .int .i64 (-nv)] 59)).heap.size ((w2.drew.alloc (.cells #[.string ⟨#[]⟩, .int .i64 0, .int .i64 0, .slice none 0 0] 57)).alloc (.cells #[.string xa, .string xc, .int .i64 (-nv)] 59)) w') := HI.out _ (hBd.trans (((al1L _ _).trans ((al1L _ _).mono (by simp))).mono hs0))
        have HKS : Hid (∀ w3, Below w2.drew.heap.size w2.drew w3 → w3.cell? ⟨pg, 0, none⟩ = some (.string xa) ∧ w3.cell? ⟨pg, 1, none⟩ = some (.string xc)) := fun w3 h3 => ⟨below_cell h3 (World.block_lt_of_cell? _ _ hS.1) hS.1, below_cell h3 (World.block_lt_of_cell? _ _ hS.2) hS.2⟩
        have HXD := hide hXd
        have HPK := hide hpkd
        clear hX2 hpk2 hB2 hXd hpkd hD hbr hs0
        go_cut [19] from 61 to 74 (fun s19 wx => ∃ (g : Nat) (v : Value), s19 = .pointer (some ⟨g, 0, none⟩) ∧ Hid (Bld w2.drew wx g (⟨#[97, 108, 108, 111, 116, 45]⟩ ++ D) ent per v [⟨xa, xc, -nv⟩] none []))
        case first =>
          have z0 := (keepL (.cells #[.string ⟨#[]⟩, .int .i64 0, .int .i64 0, .slice none 0 0] 57) hS).1
          have z1 := (keepL (.cells #[.string ⟨#[]⟩, .int .i64 0, .int .i64 0, .slice none 0 0] 57) hS).2
          have z2 : (w2.alloc (.cells #[.string ⟨#[]⟩, .int .i64 0, .int .i64 0, .slice none 0 0] 57)).drew.cell? ⟨pg, 0, none⟩ = some (.string xa) := z0
          have z3 : (w2.alloc (.cells #[.string ⟨#[]⟩, .int .i64 0, .int .i64 0, .slice none 0 0] 57)).drew.cell? ⟨pg, 1, none⟩ = some (.string xc) := z1
          have t0 := hS.1
          have t1 := hS.2
          have HWS : Hid (∀ w3 : World, Below w2.drew.heap.size w2.drew w3 → w2.heap.size ≤ w3.heap.size) := fun w3 h => h.size
          have hpgl : pg < w2.heap.size := World.block_lt_of_cell? w2 _ hS.1
          go_region_held3 (fun w' => w'.cell? ⟨pg, 0, none⟩ = some (.string xa) ∧ w'.cell? ⟨pg, 1, none⟩ = some (.string xc)) (first | (with_reducible assumption) | (with_reducible refine keepL _ ?_; with_reducible assumption) | (with_reducible refine keepL _ (keepL _ ?_); with_reducible assumption) | (with_reducible refine keepL _ (keepL _ (keepL _ ?_)); with_reducible assumption) | (with_reducible refine keepD _ ?_; with_reducible assumption) | (with_reducible refine keepD _ (keepD _ ?_); with_reducible assumption) | (with_reducible refine keepSt ?_ ?_; (with_reducible assumption); omega)) (first | (go_at_call 26; refine HI0.out.mono ?_; rintro e w3 ⟨rfl, hb3⟩; have hS := HKS.out _ (hb3); have hw3 := HWS.out _ (hb3); have HB3 := hide hb3; clear hb3; have t0 := hS.1; have t1 := hS.2; have z0 := (keepL (.cells #[.string ⟨#[]⟩, .int .i64 0, .int .i64 0, .slice none 0 0] 57) hS).1; have z1 := (keepL (.cells #[.string ⟨#[]⟩, .int .i64 0, .int .i64 0, .slice none 0 0] 57) hS).2) | (go_at_call 26; refine HI1.out.mono ?_; rintro e w3 ⟨rfl, hb3⟩; have hS := HKS.out _ ((al1L _ _).trans (hb3.mono (by simp))); have hw3 := HWS.out _ ((al1L _ _).trans (hb3.mono (by simp))); have HB3 := hide hb3; clear hb3; have t0 := hS.1; have t1 := hS.2; have z0 := (keepL (.cells #[.string ⟨#[]⟩, .int .i64 0, .int .i64 0, .slice none 0 0] 57) hS).1; have z1 := (keepL (.cells #[.string ⟨#[]⟩, .int .i64 0, .int .i64 0, .slice none 0 0] 57) hS).2) | (go_at_call 26; refine HI2.out.mono ?_; rintro e w3 ⟨rfl, hb3⟩; have hS := HKS.out _ ((al1L _ _).trans (hb3.mono (by simp))); have hw3 := HWS.out _ ((al1L _ _).trans (hb3.mono (by simp))); have HB3 := hide hb3; clear hb3; have t0 := hS.1; have t1 := hS.2; have z0 := (keepL (.cells #[.string ⟨#[]⟩, .int .i64 0, .int .i64 0, .slice none 0 0] 57) hS).1; have z1 := (keepL (.cells #[.string ⟨#[]⟩, .int .i64 0, .int .i64 0, .slice none 0 0] 57) hS).2; obtain ⟨zc0, zc1, zc2, zc3, zf0, zf1, zf2, zf3⟩ := zfL (g := w2.heap.size) (zb2L (W0 := w2.drew) HB3.out); obtain ⟨zd0, zd1, zd2, zd3, zg0, zg1, zg2, zg3⟩ := zfL (w := w3.alloc (.cells #[.string xa, .string xc, .int .i64 (-nv)] 59)) (g := w2.heap.size) (heap_keepL (zb2L (W0 := w2.drew) HB3.out))) | (go_at_call 26; refine HI3.out.mono ?_; rintro e w3 ⟨rfl, hb3⟩; have hS := HKS.out _ (((al1L _ _).trans ((al1L _ _).mono (by simp))).trans (hb3.mono (by simp; omega))); have hw3 := HWS.out _ (((al1L _ _).trans ((al1L _ _).mono (by simp))).trans (hb3.mono (by simp; omega))); have HB3 := hide hb3; clear hb3; have t0 := hS.1; have t1 := hS.2; have z0 := (keepL (.cells #[.string ⟨#[]⟩, .int .i64 0, .int .i64 0, .slice none 0 0] 57) hS).1; have z1 := (keepL (.cells #[.string ⟨#[]⟩, .int .i64 0, .int .i64 0, .slice none 0 0] 57) hS).2; obtain ⟨zc0, zc1, zc2, zc3, zf0, zf1, zf2, zf3⟩ := zfL (g := w2.heap.size + 1) (zb3L (W0 := w2.drew) HB3.out)) | (go_at_call 26; refine HI4.out.mono ?_; rintro e w3 ⟨rfl, hb3⟩; have hS := HKS.out _ (((al1L _ _).trans ((al1L _ _).mono (by simp))).trans (hb3.mono (by simp; omega))); have hw3 := HWS.out _ (((al1L _ _).trans ((al1L _ _).mono (by simp))).trans (hb3.mono (by simp; omega))); have HB3 := hide hb3; clear hb3; have t0 := hS.1; have t1 := hS.2; have z0 := (keepL (.cells #[.string ⟨#[]⟩, .int .i64 0, .int .i64 0, .slice none 0 0] 57) hS).1; have z1 := (keepL (.cells #[.string ⟨#[]⟩, .int .i64 0, .int .i64 0, .slice none 0 0] 57) hS).2; obtain ⟨zc0, zc1, zc2, zc3, zf0, zf1, zf2, zf3⟩ := zfL (g := w2.heap.size) (zb4L (W0 := w2.drew) HB3.out)))
          all_goals
            go_wp2_with fail
            go_meet
            apply Exists.intro
            apply Exists.intro
            refine ⟨rfl, ?_⟩
            first | (have hM := hide (fin1 (a := xa) (k := xc) (z := -nv) (ref := ⟨#[97, 108, 108, 111, 116, 45]⟩ ++ D) (ent := ent) (per := per) HB3.out); with_reducible exact hM) | (have hM := hide (fin2 (W0 := w2.drew) w2.heap.size rfl (a := xa) (k := xc) (z := -nv) (ref := ⟨#[97, 108, 108, 111, 116, 45]⟩ ++ D) (ent := ent) (per := per) HB3.out); with_reducible exact hM) | (have hM := hide (fin3 (a := xa) (k := xc) (z := -nv) (ref := ⟨#[97, 108, 108, 111, 116, 45]⟩ ++ D) (ent := ent) (per := per) HB3.out); with_reducible exact hM) | (have hM := hide (fin7 (a := xa) (k := xc) (z := -nv) (ref := ⟨#[97, 108, 108, 111, 116, 45]⟩ ++ D) (ent := ent) (per := per) HB3.out); with_reducible exact hM) | (have hM := hide (fin4 (W0 := w2.drew) w2.heap.size rfl (a := xa) (k := xc) (z := -nv) (ref := ⟨#[97, 108, 108, 111, 116, 45]⟩ ++ D) (ent := ent) (per := per) HB3.out); with_reducible exact hM) | (have hM := hide (fin5 (W0 := w2.drew) w2.heap.size rfl (a := xa) (k := xc) (z := -nv) (ref := ⟨#[97, 108, 108, 111, 116, 45]⟩ ++ D) (ent := ent) (per := per) HB3.out); with_reducible exact hM) | (have hM := hide (fin6 (W0 := w2.drew) w2.heap.size rfl (a := xa) (k := xc) (z := -nv) (ref := ⟨#[97, 108, 108, 111, 116, 45]⟩ ++ D) (ent := ent) (per := per) HB3.out); with_reducible exact hM)
        case rest =>
        rename World => W3
        obtain ⟨g, v, hu19, HBD⟩ := hcut
        subst hu19
        have HBW := hide hBd
        clear HI HI0 HI1 HI2 HI3 HI4 HKS hS hBd hwA hwB hwC
        have hbl3 := HBD.out.bl
        have hX3 := HXD.out.below hbl3
        have hB3 : Below w.heap.size w W3 := HBW.out.trans (hbl3.mono HBW.out.size)
        have hR3 : Rd W3 1 intEnc2 WA wn x.ws := by
          have := (hfx.out W3 hB3).ws
          rw [HWA.out.1, HWA.out.2.1]; exact this
        have c3 := hX3.c3
        rw [← HWA.out.1, ← HWA.out.2.1, ← HWA.out.2.2] at c3
        have hwn20 : wn ≤ 20 := by have := HTN.out; omega
        clear hbl3 hX3 hB3
        go_wp2_with fail
        refine (shares_any nv x.ws WA wn wcp _ (by omega) (by omega) hwn20 hR3).mono ?_
        rintro e w4 ⟨hs1, _, hb4⟩
        obtain ⟨vS, out, rfl, hsh, hoS⟩ := hs1 HTN.out.2.2.2.2.2.2
        clear hs1
        obtain ⟨SA, sc, rfl, hsc, hsm⟩ := hoS.form
        have hbd4 := hide (HBD.out.shares hb4 hoS)
        have hlo : out.length = tn := by have := shared_len hsh; have := HTN.out; omega
        rw [hlo] at hsc ⊢
        have HLO := hide hlo
        have HSH := hide hsh
        have htn20 : tn ≤ 19 := by have := HTN.out; omega
        clear c3 hR3 hb4 hoS hsh HBD hlo hwn20
        go_wp2_with fail
        go_loopw [87] (fun iv wr' => ∃ (j : Nat) (LV : Value), j ≤ tn ∧ iv = .int .i64 j ∧ Hid (Bld w2.drew wr' g (⟨#[97, 108, 108, 111, 116, 45]⟩ ++ D) ent per LV (⟨xa, xc, -nv⟩ :: giveTo x out j) SA out)) (fun iv _ => tn - (intOf iv).toNat)
        case atStart => exact ⟨0, v, by omega, rfl, hbd4⟩
        case round =>
          obtain ⟨j, LV, hj, rfl, HB⟩ := hrel
          obtain ⟨ls, hls⟩ : ∃ ls : List Line, ls = ⟨xa, xc, -nv⟩ :: giveTo x out j := ⟨_, rfl⟩
          rw [← hls] at HB
          have HLS := hide hls
          have hll : ls.length ≤ 20 := by rw [hls, List.length_cons]; have := giveTo_len x out j; omega
          clear hls
          obtain ⟨LA, lc, rfl, hlc, hlm⟩ := HB.out.ow.form
          have hblr := HB.out.bl
          have hXr := HXD.out.below hblr
          have hBr : Below w.heap.size w wr := HBW.out.trans (hblr.mono HBW.out.size)
          have hsr := hblr.size
          have hsw := HBW.out.size
          by_cases hlt : j < tn
          case neg =>
            have hjn : j = tn := by omega
            obtain ⟨z2, hz2A⟩ : ∃ z2, LA = some ⟨z2, 0, none⟩ := by
              rcases HB.out.ow.2 with ⟨hv, h0⟩ | ⟨g9, cap9, cur9, hv, _⟩
              · rw [HLS.out] at h0; cases h0
              · injection hv with e1; exact ⟨g9, e1⟩
            subst hz2A
            have hz2B := HB.out.ow.block z2 rfl
            obtain ⟨E, hE⟩ : ∃ E : Ent, E = ⟨(⟨#[97, 108, 108, 111, 116, 45]⟩ ++ D), ent, per, some ⟨z2, 0, none⟩, ls.length, lc, ls⟩ := ⟨_, rfl⟩
            have HCO : Hid (Ent.core E = giveCore ent per (refL ++ dg k) x nv out) := by
              show _ = _
              rw [hE, ← HD.out]
              show ((⟨#[97, 108, 108, 111, 116, 45]⟩ ++ D), ent, per, ls) = (refL ++ D, ent, per, ⟨x.acc, x.cur, -nv⟩ :: giveTo x out x.to.length)
              rw [HLS.out, HXA.out, HXC.out, show x.to.length = j by have := HTN.out; omega]
              rfl
            have hL9 : Rd wr 3 lineEnc E.A E.n E.lines := by rw [hE]; exact HB.out.ow.rd lineEnc_ok
            have HEA : Hid (E.A = some ⟨z2, 0, none⟩) := by show _ = _; rw [hE]
            have HEN : Hid (E.n ≤ 20) := by show _ ≤ _; rw [hE]; exact hll
            have hpk9 := HPK.out.below hblr
            have e0 := HB.out.c0
            have e1 := HB.out.c1
            have e2 := HB.out.c2
            have e3 := HB.out.c3
            have HVQ : Hid (∀ q, Value.ownBlock (.slice VA es.length vc) = some q → q < w2.drew.heap.size) := fun q e => (HPK.out.own.block q e).2
            clear hlt hj hll hlc hlm hXr
            go_wp2_with (first | (at_builtin; go_loud (refine wpList_push _ rfl _ _ 30 rfl w.heap.size 57 i1 zeroEntA 4 56 Tryz.underlying30 hi1 hy0 hy1 hy2 rfl (by decide) entEnc_okA _ es rfl (hpk9.own.alloc _) _ 1 1 [E] rfl (Rd.boxedAt _ entEnc_okA E _ _ (by rw [hE]; rfl) _ (by simp)) (by intro h; cases h) (by simp only [maxLen]; omega) (by omega) (by simp; omega) ?_); intro v9 w10 hown10 hg10 hat10))
            go_roundw
            case rel =>
              exact ⟨k + 1, es ++ [E], by omega, by go_num, HT, (hpk9.below ((Below.refl _ _).alloc (Nat.le_refl _) _)).push hown10 hg10 hat10 (hL9.below ((Below.refl _ _).alloc (Nat.le_refl _) _)) HEN.out HEA.out (by have := hz2B.2; simp; omega) (fun e => by have := HVQ.out _ e; have := hz2B.1; omega), by show GaveTo _ _ _ _ _ _ _; rw [List.map_append, List.map_cons, List.map_nil, HCO.out]; exact HGV.out out HSH.out, (hBr.alloc (by omega) _).grown hg10 (by simp; omega) (fun q e => (hpk9.own.block q e).1)⟩
            case measure => simp [intOf]; omega
          case pos =>
            have hjl : j < out.length := by rw [HLO.out]; exact hlt
            have hjt : j < x.to.length := by have := HTN.out; omega
            have hrs := HB.out.rS
            rw [HLO.out] at hrs
            obtain ⟨sb, so, hSA, hcs⟩ := hrs.2 (by omega)
            subst hSA
            have q0 := hcs j 0 _ hjl rfl
            simp only [Nat.mul_one, Nat.add_zero] at q0
            clear hcs hrs
            have jn0 : (0 : Int) ≤ (j : Int) := by omega
            have jn1 : (j : Int) < (tn : Int) := by omega
            obtain ⟨y, hy⟩ : ∃ y, y = out[j] := ⟨_, rfl⟩
            rw [← hy] at q0
            by_cases hz : y = 0
            · have hzb : (y == 0) = true := by simpa using hz
              have HN : Hid (giveTo x out (j + 1) = giveTo x out j) := giveTo_no hjt hjl (by rw [← hy]; exact hz)
              clear hz hy hXr hlc hlm
              go_wp2_with fail
              go_roundw
              case rel => exact ⟨j + 1, _, by omega, by go_num, by rw [HN.out, ← HLS.out]; exact HB⟩
              case measure => simp [intOf]; omega
            · have hzb : (y == 0) = false := by simpa using hz
              have hto := (hfx.out _ hBr).to
              rw [← HTA.out.1, ← HTA.out.2.1] at hto
              obtain ⟨tb, tof, hTAe, htcs⟩ := hto.2 (by omega)
              subst hTAe
              have t0 := htcs j 0 _ hjt rfl
              simp only [Nat.mul_one, Nat.add_zero] at t0
              clear htcs hto
              have HY : Hid (giveTo x out (j + 1) = giveTo x out j ++ [⟨x.to[j], x.cur, y⟩]) := by show _ = _; rw [giveTo_yes hjt hjl (by rw [← hy]; exact hz), hy]
              obtain ⟨t, ht⟩ : ∃ t, t = x.to[j] := ⟨_, rfl⟩
              rw [← ht] at t0 HY
              have c1 := hXr.c1
              have c2 := hXr.c2
              rw [← HXC.out] at c1 HY
              rw [← HTA.out.1, ← HTA.out.2.1, ← HTA.out.2.2] at c2
              have d3 := HB.out.c3
              have hAL : Below wr.heap.size wr (wr.alloc (.cells #[.string t, .string xc, .int .i64 y] 59)).drew := ((Below.refl _ _).alloc (Nat.le_refl _) _).drew
              have d3a := below_cell hAL (World.block_lt_of_cell? _ _ d3) d3
              have c1a := below_cell hAL (World.block_lt_of_cell? _ _ c1) c1
              have c2a := below_cell hAL (World.block_lt_of_cell? _ _ c2) c2
              have t0a := below_cell hAL (World.block_lt_of_cell? _ _ t0) t0
              have hO8 : Own (wr.alloc (.cells #[.string t, .string xc, .int .i64 y] 59)).drew w2.drew.heap.size 59 3 lineEnc (.slice LA ls.length lc) ls := HB.out.ow.alloc _
              have hR8 : Rd (wr.alloc (.cells #[.string t, .string xc, .int .i64 y] 59)).drew 3 lineEnc (some ⟨wr.heap.size, 0, none⟩) 1 [⟨t, xc, y⟩] := Rd.boxed wr lineEnc_ok ⟨t, xc, y⟩ _ _ rfl
              have hs8 : w2.drew.heap.size ≤ (wr.alloc (.cells #[.string t, .string xc, .int .i64 y] 59)).drew.heap.size := Nat.le_trans hsr hAL.size
              have HO8 := hide hO8
              have HR8 := hide hR8
              clear hO8 hR8 hAL hy ht hz hXr hjl hjt
              go_upto_region 26 with fail
              go_region_law (first | (refine step_pushE _ rfl _ _ 55 rfl w2.drew.heap.size 59 j1 zeroLine 3 40 Tryz.underlying55 hj1 hx0 hx1 hx2 rfl (by decide) lineEnc_ok (.slice LA ls.length lc) ls (by simp [Act.eval]) HO8.out _ 1 1 [⟨t, xc, y⟩] (by simp [Act.eval]) HR8.out (by intro h; cases h) (by simp only [maxLen]; omega) (by omega) (by omega) ?_; intro v2 w8 hown8 hg8 hat8; obtain ⟨g3, gf⟩ := HB.out.push _ hg8; obtain ⟨A2, c2, rfl, hc2a, hc2b⟩ := hown8.form))
              all_goals
                have hst := HB.out.step _ _ hown8 hg8 hat8
                rw [show (ls ++ [(⟨t, xc, y⟩ : Line)]).length = ls.length + 1 by simp] at hst
                have HST := hide hst
                clear hst
                go_wp2_with fail
                go_roundw
                case rel => exact ⟨j + 1, _, by omega, by go_num, by rw [HY.out, ← List.cons_append, ← HLS.out]; exact HST⟩
                case measure => simp [intOf]; omega
end Go.Proofs.YtbdbpcllndajgaaGreatDoor
