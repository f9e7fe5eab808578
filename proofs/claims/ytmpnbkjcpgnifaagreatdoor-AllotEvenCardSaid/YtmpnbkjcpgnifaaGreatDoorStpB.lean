/- allot.Steps: what it returns. -/
import Derived.Test.YtmpnbkjcpgnifaaGreatDoorStpA
import Derived.Test.YtmpnbkjcpgnifaaGreatDoorEntX
import Derived.Deep.RegionHeld3
namespace Go.Proofs.YtmpnbkjcpgnifaaGreatDoor
open Go Go.RowKit
set_option linter.unusedVariables false

theorem wrap_both {x y : Int} (h : x = y) (hb : -9223372036854775808 ≤ y ∧ y < 9223372036854775808) : wrap64 x = y ∧ IntKind.i64.wrap x = y := by
  subst h
  exact ⟨by simp only [wrap64]; omega, IntWalk.i64_in _ (by omega)⟩
theorem keepW {w w' : World} {g o b q : Nat} {u v : Value} (h : w.cell? ⟨g, o, none⟩ = some u ∧ w.cell? ⟨b, q, none⟩ = some v) (hb : Below w.heap.size w w') : w'.cell? ⟨g, o, none⟩ = some u ∧ w'.cell? ⟨b, q, none⟩ = some v :=
  ⟨below_cell hb (World.block_lt_of_cell? _ _ h.1) h.1, below_cell hb (World.block_lt_of_cell? _ _ h.2) h.2⟩

set_option maxHeartbeats 4000000 in
set_option maxRecDepth 100000 in
theorem steps_any (wt : List Wt) (WA : Option Addr) (wn wc : Nat) (a : List Int) (AA : Option Addr) (an ac : Nat) (w : World)
    (hwc : wn ≤ wc) (hwm : wc ≤ maxLen) (hW : Rd w 1 Wt.enc WA wn wt) (hok : ∀ x ∈ wt, WtFits w x) (hac : an ≤ ac) (ham : ac ≤ maxLen) (ha : Rd w 1 intEnc2 AA an a) (hN : AA = none → ac = 0) :
    Calls Tryz.prog 8 #[.slice WA wn wc, .slice AA an ac] w fun e w' =>
      ((∃ z : Int, e = .returned (.tuple #[.slice none 0 0, .iface 54 (.int .i64 z)])) ∨
        (∃ v out, e = .returned (.tuple #[v, .nilIface]) ∧ Own w' w.heap.size 3 1 intEnc2 v out ∧ out.sum = a.sum ∧ absSum out ≤ absSum a ∧ a.length ≤ 20 ∧ out.length ≤ 20 ∧ ∀ x ∈ a, inB (-1000000000000000) 1000000000000000 x = true)) ∧ Below w.heap.size w w' := by
  have hl63 : wn ≤ 9223372036854775807 := by unfold maxLen at hwm; omega
  have Hna := hide ha.1
  have Hnw := hide hW.1
  have HOK := hide hok
  clear hok
  by_cases h20 : 20 < an
  · have h20i : (20 : Int) < (an : Int) := by omega
    clear h20
    go_enter Tryz.func8, Tryz.ntmps8
    go_wp2_with fail
    go_ret2
    exact ⟨.inl ⟨_, rfl⟩, Below.refl _ _⟩
  have h20i : ¬ (20 : Int) < (an : Int) := by omega
  have han20 : an ≤ 20 := by omega
  clear h20
  by_cases hnn : wn = an
  case neg =>
    go_enter Tryz.func8, Tryz.ntmps8
    go_wp2_with fail
    go_ret2
    exact ⟨.inl ⟨_, rfl⟩, Below.refl _ _⟩
  case pos =>
  obtain rfl : wn = an := hnn
  go_enter Tryz.func8, Tryz.ntmps8
  go_wp2_with fail
  go_loopw [31] (fun iv wr => w = wr ∧ ∃ k : Nat, k ≤ wn ∧ iv = .int .i64 k ∧ Hid (∀ (j : Nat) (h : j < wt.length), j < k → wt[j].n = wn)) (fun iv _ => wn - (intOf iv).toNat)
  case atStart => exact ⟨rfl, 0, by omega, rfl, fun j _ h => absurd h (by omega)⟩
  case round =>
    obtain ⟨rfl, k, hk, rfl, HNS⟩ := hrel
    by_cases hlt : k < wn
    · have hkl : k < wt.length := by have := Hnw.out; omega
      obtain ⟨b, off, rfl, hcs⟩ := hW.2 (by omega)
      have q0 := hcs k 0 _ hkl rfl
      simp only [Nat.mul_one, Nat.add_zero] at q0
      clear hcs
      have k0 : (0 : Int) ≤ (k : Int) := by omega
      have k1 : (k : Int) < (wn : Int) := by omega
      obtain ⟨xA, hxA⟩ : ∃ s, s = wt[k].A := ⟨_, rfl⟩
      obtain ⟨xn, hxn⟩ : ∃ s, s = wt[k].n := ⟨_, rfl⟩
      obtain ⟨xc, hxc⟩ : ∃ s, s = wt[k].c := ⟨_, rfl⟩
      rw [← hxA, ← hxn, ← hxc] at q0
      have HXN := hide hxn
      clear hxA hxn hxc
      by_cases hn : xn = wn
      · have HS : Hid (∀ (j : Nat) (h : j < wt.length), j < k + 1 → wt[j].n = wn) := by
          intro j h hj
          by_cases e : j = k
          · subst e; rw [← HXN.out]; exact hn
          · exact HNS.out j h (by omega)
        subst hn
        go_wp2_with fail
        go_roundw
        case rel => exact ⟨by first | rfl | trivial, k + 1, by omega, by go_num, HS⟩
        case measure => simp [intOf]; omega
      · go_wp2_with fail
        go_ret2
        exact ⟨.inl ⟨_, rfl⟩, Below.refl _ _⟩
    · have HNA : Hid (∀ x ∈ wt, x.n = wn) := by
        intro x hx
        obtain ⟨j, hj, rfl⟩ := List.getElem_of_mem hx
        exact HNS.out j hj (by have := Hnw.out; omega)
      clear HNS
      go_wp2_with fail
      clear hlt hk
      go_loopw [43] (fun iv wr => w = wr ∧ ∃ k : Nat, k ≤ wn ∧ iv = .int .i64 k ∧ Hid (∀ (j : Nat) (h : j < a.length), j < k → inB (-1000000000000000) 1000000000000000 a[j] = true)) (fun iv _ => wn - (intOf iv).toNat)
      case atStart => exact ⟨rfl, 0, by omega, rfl, fun j _ h => absurd h (by omega)⟩
      case round =>
        obtain ⟨rfl, k, hk, rfl, HAS⟩ := hrel
        by_cases hlt : k < wn
        · have hkl : k < wt.length := by have := Hnw.out; omega
          have hka : k < a.length := by have := Hna.out; omega
          obtain ⟨b, off, rfl, hcs⟩ := hW.2 (by omega)
          have q0 := hcs k 0 _ hkl rfl
          obtain ⟨ab, aof, rfl, has⟩ := ha.2 (by omega)
          have p0 := has k 0 _ hka rfl
          simp only [Nat.mul_one, Nat.add_zero] at q0 p0
          clear hcs has
          have k0 : (0 : Int) ≤ (k : Int) := by omega
          have k1 : (k : Int) < (wn : Int) := by omega
          have hfit := HOK.out _ (List.getElem_mem hkl)
          have hxn := HNA.out _ (List.getElem_mem hkl)
          obtain ⟨x, hx⟩ : ∃ x, x = wt[k] := ⟨_, rfl⟩
          rw [← hx] at q0 hfit hxn
          obtain ⟨xA, xn, xc, xws⟩ := x
          obtain rfl : xn = wn := hxn
          have hrx : Rd w 1 intEnc2 xA xn xws := hfit.rd
          clear hfit hx
          obtain ⟨y, hy⟩ : ∃ y, y = a[k] := ⟨_, rfl⟩
          rw [← hy] at p0
          have HY := hide hy
          clear hy
          cases hf : xws.any farW with
          | true =>
            have HF := hide hf
            clear hf
            go_wp2_with fail
            refine (contains_far xws xA xn xc _ hl63 hrx).mono ?_
            rintro e w1 ⟨rfl, rfl⟩
            rw [HF.out]
            go_wp2_with fail
            go_ret2
            exact ⟨.inl ⟨_, rfl⟩, Below.refl _ _⟩
          | false =>
            have HF := hide hf
            clear hf
            cases ham2 : inB (-1000000000000000) 1000000000000000 y with
            | false =>
              have HAM := hide ham2
              clear ham2
              go_wp2_with fail
              refine (contains_far xws xA xn xc _ hl63 hrx).mono ?_
              rintro e w1 ⟨rfl, rfl⟩
              rw [HF.out]
              go_wp2_with fail
              refine (amount_any _ _).mono ?_
              rintro e w1 ⟨rfl, rfl⟩
              rw [HAM.out]
              go_wp2_with fail
              go_ret2
              exact ⟨.inl ⟨_, rfl⟩, Below.refl _ _⟩
            | true =>
              have HS : Hid (∀ (j : Nat) (h : j < a.length), j < k + 1 → inB (-1000000000000000) 1000000000000000 a[j] = true) := by
                intro j h hj
                by_cases e : j = k
                · subst e; rw [← HY.out]; exact ham2
                · exact HAS.out j h (by omega)
              have HAM := hide ham2
              clear ham2
              go_wp2_with fail
              refine (contains_far xws xA xn xc _ hl63 hrx).mono ?_
              rintro e w1 ⟨rfl, rfl⟩
              rw [HF.out]
              go_wp2_with fail
              refine (amount_any _ _).mono ?_
              rintro e w1 ⟨rfl, rfl⟩
              rw [HAM.out]
              go_wp2_with fail
              go_roundw
              case rel => exact ⟨by first | rfl | trivial, k + 1, by omega, by go_num, HS⟩
              case measure => simp [intOf]; omega
        · have HAA : Hid (∀ x ∈ a, inB (-1000000000000000) 1000000000000000 x = true) := by
            intro x hx
            obtain ⟨j, hj, rfl⟩ := List.getElem_of_mem hx
            exact HAS.out j hj (by have := Hna.out; omega)
          have HAB : Hid (absSum a ≤ 20000000000000000) := by
            have h1 := abs_bound (a := a) (m := 1000000000000000) (fun x hx => by
              have h := HAA.out x hx
              simp [inB] at h
              omega)
            have h2 := Hna.out
            show _ ≤ _
            have h3 : a.length * 1000000000000000 ≤ 20 * 1000000000000000 := Nat.mul_le_mul_right _ (by omega)
            omega
          have hal : a.length ≤ 20 := by have := Hna.out; omega
          clear HAS
          go_wp2_with fail
          clear hlt hk
          refine (clone_ints a AA wn ac _ ha han20 hN).mono ?_
          rintro e w1 ⟨v1, rfl, hown, hb1⟩
          obtain ⟨OA, oc, rfl, hoc, hom⟩ := hown.form
          rw [Hna.out] at hoc ⊢
          go_wp2_with fail
          go_loopw [64] (fun iv wr => ∃ (k : Nat) (out : List Int), k ≤ wn ∧ iv = .int .i64 k ∧ Own wr w.heap.size 3 1 intEnc2 (.slice OA wn oc) out ∧ Hid (out.length = wn ∧ out.sum = a.sum ∧ absSum out ≤ absSum a) ∧ Below w.heap.size w wr) (fun iv _ => wn - (intOf iv).toNat)
          case atStart => exact ⟨0, a, by omega, rfl, by rw [Hna.out] at hown; exact hown, ⟨Hna.out, rfl, Nat.le_refl _⟩, hb1⟩
          case round =>
            clear hown hb1
            obtain ⟨k, out, hk, rfl, hown, HO, hbr⟩ := hrel
            by_cases hlt : k < wn
            · have hkl : k < wt.length := by have := Hnw.out; omega
              have hko : k < out.length := by have := HO.out.1; omega
              obtain ⟨b, off, rfl, hcs⟩ := (Rd.below hW hbr).2 (by omega)
              have q0 := hcs k 0 _ hkl rfl
              obtain ⟨g, hg⟩ : ∃ g, OA = some ⟨g, 0, none⟩ := by
                rcases hown.2 with ⟨hv, h0⟩ | ⟨g9, cap9, cur9, hv, _⟩
                · rw [h0] at hko; cases hko
                · injection hv with e1; exact ⟨g9, e1⟩
              subst hg
              obtain ⟨p0, f0⟩ := hown.cells intEnc2_ok k 0 _ hko rfl
              have hgB := hown.block g rfl
              simp only [Nat.mul_one, Nat.add_zero] at q0 p0 f0
              clear hcs
              have k0 : (0 : Int) ≤ (k : Int) := by omega
              have k1 : (k : Int) < (wn : Int) := by omega
              have hfit := (HOK.out _ (List.getElem_mem hkl)).below hbr
              have hxn := HNA.out _ (List.getElem_mem hkl)
              obtain ⟨x, hx⟩ : ∃ x, x = wt[k] := ⟨_, rfl⟩
              rw [← hx] at q0 hfit hxn
              obtain ⟨xA, xn, xc, xws⟩ := x
              obtain rfl : xn = wn := hxn
              have hrx0 : Rd wr 1 intEnc2 xA xn xws := hfit.rd
              have hxc : xn ≤ xc := hfit.nc
              have hxm : xc ≤ maxLen := hfit.cm
              obtain ⟨xb, xo, rfl, _⟩ := hrx0.2 (by omega)
              clear hfit hx
              obtain ⟨kk, hkk⟩ : ∃ kk, kk = k + 1 := ⟨_, rfl⟩
              have k2n : kk ≤ xn := by omega
              have k2 : (kk : Int) ≤ (xn : Int) := Int.ofNat_le.2 k2n
              have k3 : (0 : Int) ≤ (kk : Int) := Int.natCast_nonneg _
              have k4 : (xn : Int) ≤ (xc : Int) := Int.ofNat_le.2 hxc
              have k5 : xn - kk ≤ 20 := by omega
              have hkm : (k : Int) + 1 = (kk : Int) := by omega
              have hk63 : -9223372036854775808 ≤ (kk : Int) ∧ (kk : Int) < 9223372036854775808 := by omega
              have HW1 : Hid (wrap64 ((k : Int) + 1) = (kk : Int) ∧ IntKind.i64.wrap ((k : Int) + 1) = (kk : Int)) := wrap_both hkm hk63
              clear hkm hk63
              have hrx : Rd wr 1 intEnc2 (some ⟨xb, xo + kk, none⟩) (xn - kk) (xws.drop kk) := hrx0.dropQ (by omega)
              have hwl : xws.length = xn := hrx0.1
              have hdl : (xws.drop kk).length = xn - kk := hrx.1
              obtain ⟨ws, hws⟩ : ∃ ws, ws = xws.drop kk := ⟨_, rfl⟩
              rw [← hws] at hrx hdl
              obtain ⟨t, ht⟩ : ∃ t, t = out[k] := ⟨_, rfl⟩
              rw [← ht] at p0
              have htb : -4000000000000000000 ≤ t ∧ t ≤ 4000000000000000000 := by
                have h1 := abs_mem (List.getElem_mem hko)
                rw [← ht] at h1
                have h2 := HO.out.2.2
                have h3 := HAB.out
                omega
              have HT0 := hide htb
              clear htb
              have HTD : Hid (out.getD k 0 = t) := by show _ = _; rw [ht, List.getD_eq_getElem?_getD, List.getElem?_eq_getElem hko]; rfl
              have HKK := hide hkk
              have HDL := hide hdl
              have hsz := hbr.size
              have hS : wr.drew.cell? ⟨g, k, none⟩ = some (.int .i64 t) ∧ wr.drew.cell? ⟨b, off + k, none⟩ = some (.slice (some ⟨xb, xo, none⟩) xn xc) := ⟨p0, q0⟩
              obtain ⟨AX, hif⟩ : ∃ AX : Option Addr, (if xc = kk then (some ⟨xb, xo, none⟩ : Option Addr) else some ⟨xb, xo + kk, none⟩) = AX := ⟨_, rfl⟩
              have hrd : Rd wr.drew 1 intEnc2 AX (xn - kk) ws := by
                rw [← hif]
                by_cases hck : xc = kk
                · rw [if_pos hck]
                  exact ⟨hdl, fun h0 => absurd h0 (by omega)⟩
                · rw [if_neg hck]; exact hrx
              have HRD := hide hrd
              have hown0 : Own wr.drew w.heap.size 3 1 intEnc2 (.slice (some ⟨g, 0, none⟩) xn oc) out := hown
              have HOWN := hide hown0
              have hbd : Below w.heap.size w wr.drew := bdrewN hbr 1
              have HBD := hide hbd
              clear hrx0 hrx hws ht hkk hdl hwl hown hown0 hbr hbd hrd p0 q0 f0 hk hlt
              by_cases hsh : shE ws = 0
              case neg =>
                have HSH := hide hsh
                clear hsh
                go_upto_region 22 with fail
                have hw1 := HW1.out.1
                have hw1' := HW1.out.2
                go_region_held3 (fun w' => w'.cell? ⟨g, k, none⟩ = some (.int .i64 t) ∧ w'.cell? ⟨b, off + k, none⟩ = some (.slice (some ⟨xb, xo, none⟩) xn xc)) (first | (with_reducible assumption)) (first | (go_at_call 16; refine (shares_any t ws _ _ _ _ HT0.out.1 HT0.out.2 k5 HRD.out).mono ?_; rintro e w3 ⟨_, hs2, hb3⟩; obtain rfl := hs2 HSH.out; rw [errV_n HSH.out]; have hS := keepW hS hb3; have HB3 := hide hb3; clear hb3 hs2))
                clear hw1 hw1'
                go_wp2_with fail
                go_roundw
                case rel => exact ⟨k + 1, out, by have := HKK.out; omega, by go_num, HOWN.out.below HB3.out, HO, bthen HBD.out (Nat.le_refl _) HB3.out⟩
                case measure => simp [intOf]; omega
              case pos =>
                have HSH := hide hsh
                clear hsh
                go_upto_region 22 with fail
                have hw1 := HW1.out.1
                have hw1' := HW1.out.2
                go_region_held3 (fun w' => w'.cell? ⟨g, k, none⟩ = some (.int .i64 t) ∧ w'.cell? ⟨b, off + k, none⟩ = some (.slice (some ⟨xb, xo, none⟩) xn xc)) (first | (with_reducible assumption)) (first | (go_at_call 16; refine (shares_any t ws _ _ _ _ HT0.out.1 HT0.out.2 k5 HRD.out).mono ?_; rintro e w3 ⟨hs1, _, hb3⟩; obtain ⟨vS, s, rfl, hss, hoS⟩ := hs1 HSH.out; obtain ⟨SA, sc, rfl, hsc, hsm⟩ := hoS.form; have hS := keepW hS hb3; have HB3 := hide hb3; have HSS := hide hss; have HOS := hide hoS; clear hb3 hs1 hss hoS))
                clear hw1 hw1'
                have hlw : s.length = xn - kk := by rw [shared_len HSS.out]; exact HDL.out
                have HLAW : Hid ((addAt (out.set k 0) kk s).length = out.length ∧ (addAt (out.set k 0) kk s).sum = out.sum ∧ absSum (addAt (out.set k 0) kk s) ≤ absSum out ∧ ∀ j, absSum (addAt (out.set k 0) kk (s.take j)) ≤ absSum out) := by
                  rw [HKK.out]
                  exact step_law hko HSH.out (by rw [HTD.out]; exact HSS.out) (by have := HDL.out; have := HO.out.1; have := HKK.out; omega)
                have hown3 := HOWN.out.below HB3.out
                have hb3 := bthen HBD.out (Nat.le_refl _) HB3.out
                obtain ⟨p0, f0⟩ := hown3.cells intEnc2_ok k 0 _ hko rfl
                simp only [Nat.mul_one, Nat.add_zero] at p0 f0
                have HSN : Hid (∀ q, Value.ownBlock (.slice SA s.length sc) = some q → q ≠ g) := fun q e => by
                  have h1 := (HOS.out.block q e).1
                  have h2 := hgB.2
                  have h3 : wr.heap.size ≤ q := h1
                  omega
                rw [hlw] at hsc HSN ⊢
                have hos0 := HOS.out
                rw [hlw] at hos0
                have HOS2 := hide hos0
                clear hos0 hsc hsm hS
                obtain ⟨sn, hsn⟩ : ∃ sn, sn = xn - kk := ⟨_, rfl⟩
                rw [← hsn] at HOS2 HSN hlw ⊢
                have hsn20 : sn ≤ 20 := by omega
                have HSNE := hide hsn
                clear hsn
                go_wp2_with fail
                have hst := hown3.store intEnc2_ok k 0 0 (.int .i64 0) hko (by omega) rfl
                simp only [Nat.mul_one, Nat.add_zero] at hst
                have hgr : w3.grownBy (w3.setCell ⟨g, k, none⟩ (.int .i64 0)) (some g) := only_setCell (only_refl _ _) _ _
                have hos := HOS2.out.grown hgr (.inr (fun e => HSN.out g e rfl))
                clear hgr
                have hb4 : Below w.heap.size w (w3.setCell ⟨g, k, none⟩ (.int .i64 0)) := hb3.setCell hgB.1 _
                generalize w3.setCell ⟨g, k, none⟩ (.int .i64 0) = W4 at hst hos hb4 ⊢
                clear p0 f0 hown3 hb3
                go_loopw [89] (fun jv wi => ∃ (j : Nat) (o2 : List Int), j ≤ sn ∧ jv = .int .i64 j ∧ Own wi w.heap.size 3 1 intEnc2 (.slice (some ⟨g, 0, none⟩) xn oc) o2 ∧ Hid (o2 = addAt (out.set k 0) kk (s.take j)) ∧ Own wi wr.drew.heap.size 3 1 intEnc2 (.slice SA sn sc) s ∧ Below w.heap.size w wi) (fun jv _ => sn - (intOf jv).toNat)
                case atStart => exact ⟨0, out.set k 0, by omega, rfl, hst, rfl, hos, hb4⟩
                case round =>
                  clear hst hos hb4
                  obtain ⟨j, o2, hj, rfl, hst, HA, hos, hb4⟩ := hrel
                  have hl2 : o2.length = xn := by rw [HA.out, addAt_len, List.length_set]; exact HO.out.1
                  by_cases hjs : j < sn
                  · have hjl : j < s.length := by omega
                    obtain ⟨m, hm⟩ : ∃ m, m = kk + j := ⟨_, rfl⟩
                    have hmo : m < o2.length := by have := HSNE.out; omega
                    obtain ⟨sb, so, hSA, hscs⟩ := (hos.rd intEnc2_ok).2 (by omega)
                    subst hSA
                    have y0 := hscs j 0 _ hjl rfl
                    obtain ⟨c0, f0⟩ := hst.cells intEnc2_ok m 0 _ hmo rfl
                    simp only [Nat.mul_one, Nat.add_zero] at y0 c0 f0
                    clear hscs
                    obtain ⟨yv, hyv⟩ : ∃ yv, yv = s[j] := ⟨_, rfl⟩
                    obtain ⟨ov, hov⟩ : ∃ ov, ov = o2[m] := ⟨_, rfl⟩
                    rw [← hyv] at y0
                    rw [← hov] at c0
                    have hnx : addAt (out.set k 0) kk (s.take (j + 1)) = o2.set m (ov + yv) := by
                      rw [addAt_take _ _ hjl, ← HA.out, ← hm, hov, hyv, List.getD_eq_getElem?_getD, List.getElem?_eq_getElem hmo]
                      rfl
                    have hbd : (ov + yv).natAbs ≤ 20000000000000000 := by
                      have h1 := HLAW.out.2.2.2 (j + 1)
                      rw [hnx] at h1
                      have h2 : ov + yv ∈ o2.set m (ov + yv) := List.mem_iff_getElem.2 ⟨m, by rw [List.length_set]; exact hmo, by simp⟩
                      have h3 := abs_mem h2
                      have h4 := HO.out.2.2
                      have h5 := HAB.out
                      omega
                    have j0 : (0 : Int) ≤ (j : Int) := by omega
                    have j1 : (j : Int) < (sn : Int) := by omega
                    have m0 : (0 : Int) ≤ (m : Int) := by omega
                    have m1 : (m : Int) < (xn : Int) := by omega
                    have hkm2 : (kk : Int) + (j : Int) = (m : Int) := by omega
                    have hm63 : -9223372036854775808 ≤ (m : Int) ∧ (m : Int) < 9223372036854775808 := by omega
                    have hs63 : -9223372036854775808 ≤ ov + yv ∧ ov + yv < 9223372036854775808 := by omega
                    obtain ⟨hw2, hw2'⟩ := wrap_both hkm2 hm63
                    obtain ⟨hw3, hw3'⟩ := wrap_both (x := ov + yv) rfl hs63
                    clear hkm2 hm63 hs63
                    have hw1 := HW1.out.1
                    have hw1' := HW1.out.2
                    have HNX := hide hnx
                    have HMO := hide hmo
                    clear hnx hbd hm hyv hov hmo hl2
                    go_wp2_with fail
                    clear hw1 hw1' hw2 hw2' hw3 hw3'
                    have hst2 := hst.store intEnc2_ok m 0 (ov + yv) (.int .i64 (ov + yv)) HMO.out (by omega) rfl
                    simp only [Nat.mul_one, Nat.add_zero] at hst2
                    have hgr : wr.grownBy (wr.setCell ⟨g, m, none⟩ (.int .i64 (ov + yv))) (some g) := only_setCell (only_refl _ _) _ _
                    have hos2 := hos.grown hgr (.inr (fun e => HSN.out g e rfl))
                    have hb5 : Below w.heap.size w (wr.setCell ⟨g, m, none⟩ (.int .i64 (ov + yv))) := hb4.setCell hgB.1 _
                    go_roundw
                    case rel => exact ⟨j + 1, o2.set m (ov + yv), by omega, by go_num, hst2, HNX.out.symm, hos2, hb5⟩
                    case measure => simp [intOf]; omega
                  · have hjn : s.take j = s := List.take_of_length_le (by omega)
                    have HE : Hid (o2 = addAt (out.set k 0) kk s) := by show _ = _; rw [HA.out, hjn]
                    clear hjn
                    go_wp2_with fail
                    go_roundw
                    case rel => exact ⟨k + 1, o2, by have := HKK.out; omega, by go_num, hst, ⟨hl2, by rw [HE.out, HLAW.out.2.1]; exact HO.out.2.1, by rw [HE.out]; exact Nat.le_trans HLAW.out.2.2.1 HO.out.2.2⟩, hb4⟩
                    case measure => simp [intOf]; omega
            · go_wp2_with fail
              go_ret2
              exact ⟨.inr ⟨_, out, rfl, hown, HO.out.2.1, HO.out.2.2, hal, by have := HO.out.1; omega, HAA.out⟩, hbr⟩
end Go.Proofs.YtmpnbkjcpgnifaaGreatDoor
