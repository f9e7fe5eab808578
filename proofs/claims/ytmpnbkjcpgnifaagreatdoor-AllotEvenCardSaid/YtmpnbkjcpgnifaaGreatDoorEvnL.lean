/- daylaw3.AllotEven returns true. -/
import Derived.Test.YtmpnbkjcpgnifaaGreatDoorEvnT
import Derived.Test.YtmpnbkjcpgnifaaGreatDoorStpB
import Derived.Test.YtmpnbkjcpgnifaaGreatDoorZerG
import Derived.Test.YtmpnbkjcpgnifaaGreatDoorGetR
import Derived.Deep.RegionHeld3
import Derived.BigRegion
namespace Go.Proofs.YtmpnbkjcpgnifaaGreatDoor
open Go Go.RowKit
set_option linter.unusedVariables false

theorem polEnc_okV : Enc 4 Pol.enc := ⟨fun _ => rfl, by
  intro a u hu
  simp only [Pol.enc, List.mem_cons, List.not_mem_nil, or_false] at hu
  rcases hu with rfl | rfl | rfl | rfl <;> rfl⟩
theorem polV_fits {w : World} {T U : Option Addr} (r1 : Rd w 1 strEnc T 2 [⟨#[49, 48]⟩, ⟨#[50, 48]⟩]) (r2 : Rd w 1 intEnc2 U 2 [1, 3]) : PolFits w (polV T U) := by
  refine ⟨?_, ?_, Nat.le_refl 2, ?_, r1, ?_, Nat.le_refl 2, ?_, r2, ?_⟩
  · show (⟨#[53, 48]⟩ : ByteArray).size ≤ _; decide
  · show (⟨#[69, 85, 82]⟩ : ByteArray).size ≤ _; decide
  · show (2 : Nat) ≤ maxLen; unfold maxLen; omega
  · intro s hs
    rcases List.mem_cons.1 hs with rfl | hs
    · decide
    · obtain rfl := List.mem_singleton.1 hs
      decide
  · show (2 : Nat) ≤ maxLen; unfold maxLen; omega
  · intro y hy
    rcases List.mem_cons.1 hy with rfl | hy
    · omega
    · obtain rfl := List.mem_singleton.1 hy
      omega
theorem any_take_succ {α : Type} {l : List α} (f : α → Bool) {m : Nat} (h : m < l.length) : (l.take (m + 1)).any f = ((l.take m).any f || f l[m]) := by
  rw [List.take_succ_eq_append_getElem h, List.any_append]
  simp
theorem sm_in {x : Int} (h : x.natAbs ≤ 20000000000000000) : smV x = x ∧ smE x = 0 := by
  have e : in64 x = true := by unfold in64; simp; omega
  unfold smV smE
  rw [if_pos e, if_pos e]
  exact ⟨rfl, rfl⟩
theorem steps_sums {am out : List Int} (h20 : am.length ≤ 20) (hin : ∀ x ∈ am, inB (-1000000000000000) 1000000000000000 x = true) (hs : out.sum = am.sum) (ha : absSum out ≤ absSum am) :
    (smV am.sum = am.sum ∧ smE am.sum = 0) ∧ Ints64 am ∧ Ints64 out := by
  have h1 := abs_bound (a := am) (m := 1000000000000000) (fun x hx => by
    have h := hin x hx
    simp [inB] at h
    omega)
  have h3 : am.length * 1000000000000000 ≤ 20 * 1000000000000000 := Nat.mul_le_mul_right _ h20
  have h4 := sum_abs am
  refine ⟨sm_in (by omega), fun x hx => ?_, fun x hx => ?_⟩
  · have := abs_mem hx; omega
  · have := abs_mem hx; omega

set_option maxHeartbeats 8000000 in
set_option maxRecDepth 100000 in
theorem allotEven_any (c : List Acc) (CA : Option Addr) (cn ccap : Nat) (l : List Pol) (A : Option Addr) (n cap : Nat) (b : List Bal) (BA : Option Addr) (bn bcap : Nat) (ent : Int) (wt : List Wt) (WA : Option Addr) (wn wc : Nat) (am : List Int) (AA : Option Addr) (an ac : Nat) (dg : Nat → ByteArray) (w : World)
    (hcc : cn ≤ ccap) (hcm : ccap ≤ maxLen) (hc : Accs w CA cn c) (hcok : AccOk c) (hl : n ≤ cap) (hcap : cap ≤ maxLen) (ha : Rd w 4 Pol.enc A n l) (hok : ∀ p ∈ l, PolFits w p) (hbc : bn ≤ bcap) (hbm : bcap ≤ maxLen) (hb : Rd w 4 balEnc BA bn b)
    (hwc : wn ≤ wc) (hwm : wc ≤ maxLen) (hW : Rd w 1 Wt.enc WA wn wt) (hwok : ∀ x ∈ wt, WtFits w x) (hac : an ≤ ac) (ham : ac ≤ maxLen) (hamr : Rd w 1 intEnc2 AA an am) (hN : AA = none → ac = 0) (hdg : ∀ k, k < 20 → (dg k).size ≤ 21)
    (HIt : Hid (∀ k : Nat, k < 20 → ∀ W : World, Below w.heap.size w W → Calls Tryz.prog 15 #[.int .i64 k] W fun e w' => e = .returned (.string (dg k)) ∧ Below W.heap.size W w')) :
    Calls Tryz.prog 3 #[.slice CA cn ccap, .slice A n cap, .slice BA bn bcap, .int .i64 ent, .slice WA wn wc, .slice AA an ac] w fun e w' => e = .returned (.bool true) ∧ Below w.heap.size w w' := by
  have hcl : cn ≤ 9223372036854775807 := by unfold maxLen at hcm; omega
  have hbl : bn ≤ 9223372036854775807 := by unfold maxLen at hbm; omega
  have hn63 : n ≤ 9223372036854775807 := by unfold maxLen at hcap; omega
  have Hn := hide ha.1
  have HAR := hide ha
  have HBR := hide hb
  have HAM := hide hamr
  have HPF := hide hok
  have HFA : Hid (∀ (CA A B T U : Option Addr) (W : World), Below w.heap.size w W → Accs W CA 5 acct5V → Rd W 4 Pol.enc A 1 [polV T U] → PolFits W (polV T U) → Rd W 4 balEnc B 1 balV → Calls Tryz.prog 4 #[.slice CA 5 5, .slice A 1 1, .slice B 1 1, .int .i64 1, .int .i64 1] W fun e w' => (∃ (g c lb lo lc : Nat), e = .returned (.tuple #[.slice (some ⟨g, 0, none⟩) 1 c, .nilIface]) ∧ w'.cell? ⟨g, 3, none⟩ = some (.slice (some ⟨lb, lo, none⟩) 3 lc) ∧ w'.cell? ⟨lb, lo + 8, none⟩ = some (.int .i64 6)) ∧ Below W.heap.size W w') :=
    fun CA A B T U W hW h1 h2 h3 h4 => allot_factV CA A B T U dg W h1 h2 h3 h4 hdg (fun k hk W' h' => HIt.out k hk W' (bthen hW (Nat.le_refl _) h'))
  have HP6 : Hid (∀ (W : World), Below w.heap.size w W → Calls Tryz.prog 4 #[.slice CA cn ccap, .slice A n cap, .slice BA bn bcap, .int .i64 ent, .int .i64 5] W fun e w' =>
      ((allotE c l b ent 5 ≠ 0 ∧ e = .returned (.tuple #[.slice none 0 0, errV (allotE c l b ent 5)])) ∨
        (allotE c l b ent 5 = 0 ∧ ∃ v es, e = .returned (.tuple #[v, .nilIface]) ∧ Pack w' W.heap.size v es ∧ GaveTo l b ent 5 dg n (es.map Ent.core))) ∧ Below W.heap.size W w') :=
    fun W hW => allotEntries_any c CA cn ccap l A n cap b BA bn bcap ent 5 dg W hcl hcc (hc.below hW) hcok hl hcap (ha.below hW) (fun p hp => (hok p hp).below hW) hbl (hb.below hW) hdg (fun k hk W' h' => HIt.out k hk W' (bthen hW (Nat.le_refl _) h'))
  have HST : Hid (∀ (W : World), Below w.heap.size w W → Calls Tryz.prog 8 #[.slice WA wn wc, .slice AA an ac] W fun e w' =>
      ((∃ z : Int, e = .returned (.tuple #[.slice none 0 0, .iface 54 (.int .i64 z)])) ∨
        (∃ v out, e = .returned (.tuple #[v, .nilIface]) ∧ Own w' W.heap.size 3 1 intEnc2 v out ∧ out.sum = am.sum ∧ absSum out ≤ absSum am ∧ am.length ≤ 20 ∧ out.length ≤ 20 ∧ ∀ x ∈ am, inB (-1000000000000000) 1000000000000000 x = true)) ∧ Below W.heap.size W w') :=
    fun W hW2 => steps_any wt WA wn wc am AA an ac W hwc hwm (hW.below hW2) (fun x hx => (hwok x hx).below hW2) hac ham (hamr.below hW2) hN
  have HAN := hide hamr.1
  clear hcl hcc hcm hc hcok hdg HIt hl hok hW hwok hwc hwm hac ham hamr hN hbc hbm ha hb
  go_enter Tryz.func3, Tryz.ntmps3
  go_upto_region 2 with fail
  have r1 : Rd (w.alloc (.cells #[.string ⟨#[49, 48]⟩, .string ⟨#[50, 48]⟩] 9)) 1 strEnc (some ⟨w.heap.size, 0, none⟩) 2 [⟨#[49, 48]⟩, ⟨#[50, 48]⟩] := Rd.lit w strEnc_ok [⟨#[49, 48]⟩, ⟨#[50, 48]⟩] 2 rfl _ _ rfl
  have s1 : (w.alloc (.cells #[.string ⟨#[49, 48]⟩, .string ⟨#[50, 48]⟩] 9)).heap.size = w.heap.size + 1 := by simp
  have r2 : Rd ((w.alloc (.cells #[.string ⟨#[49, 48]⟩, .string ⟨#[50, 48]⟩] 9)).alloc (.cells #[.int .i64 1, .int .i64 3] 3)) 1 intEnc2 (some ⟨w.heap.size + 1, 0, none⟩) 2 [1, 3] := by
    rw [← s1]; exact Rd.lit _ intEnc2_ok [1, 3] 2 rfl _ _ rfl
  have s2 : ((w.alloc (.cells #[.string ⟨#[49, 48]⟩, .string ⟨#[50, 48]⟩] 9)).alloc (.cells #[.int .i64 1, .int .i64 3] 3)).heap.size = w.heap.size + 2 := by simp
  have r1 := r1.below ((Below.refl _ _).alloc (Nat.le_refl _) (.cells #[.int .i64 1, .int .i64 3] 3))
  have b2 : Below w.heap.size w ((w.alloc (.cells #[.string ⟨#[49, 48]⟩, .string ⟨#[50, 48]⟩] 9)).alloc (.cells #[.int .i64 1, .int .i64 3] 3)) := ((Below.refl _ _).alloc (Nat.le_refl _) _).alloc (by simp) _
  generalize ((w.alloc (.cells #[.string ⟨#[49, 48]⟩, .string ⟨#[50, 48]⟩] 9)).alloc (.cells #[.int .i64 1, .int .i64 3] 3)) = W2 at r1 r2 s2 b2 ⊢
  have r3 : Rd (W2.alloc (.cells #[.string ⟨#[53, 48]⟩, .string ⟨#[69, 85, 82]⟩, .slice (some ⟨w.heap.size, 0, none⟩) 2 2, .slice (some ⟨w.heap.size + 1, 0, none⟩) 2 2] 29)) 4 Pol.enc (some ⟨w.heap.size + 1 + 1, 0, none⟩) 1 [polV (some ⟨w.heap.size, 0, none⟩) (some ⟨w.heap.size + 1, 0, none⟩)] := by
    rw [show w.heap.size + 1 + 1 = W2.heap.size by omega]; exact Rd.lit W2 polEnc_okV _ 1 rfl _ _ rfl
  have b3 : Below W2.heap.size W2 (W2.alloc (.cells #[.string ⟨#[53, 48]⟩, .string ⟨#[69, 85, 82]⟩, .slice (some ⟨w.heap.size, 0, none⟩) 2 2, .slice (some ⟨w.heap.size + 1, 0, none⟩) 2 2] 29)) := (Below.refl _ _).alloc (Nat.le_refl _) _
  have f3 := polV_fits r1 r2
  have f3 := f3.below b3
  have b3 := bthen b2 (Nat.le_refl _) b3
  clear r1 r2 b2 s1
  generalize (W2.alloc (.cells #[.string ⟨#[53, 48]⟩, .string ⟨#[69, 85, 82]⟩, .slice (some ⟨w.heap.size, 0, none⟩) 2 2, .slice (some ⟨w.heap.size + 1, 0, none⟩) 2 2] 29)) = W3 at r3 f3 b3 ⊢
  go_wp2_with fail
  refine (accountsV_any _).mono ?_
  rintro e w1 ⟨g1, rfl, hA1, hb1⟩
  have r4 := r3.below hb1
  have f4 := f3.below hb1
  have b4 := bthen b3 (Nat.le_refl _) hb1
  have hR : Rd (w1.alloc (.cells #[.int .i64 1, .string ⟨#[53, 48]⟩, .string ⟨#[69, 85, 82]⟩, .int .i64 8] 37)) 4 balEnc (some ⟨w1.heap.size, 0, none⟩) 1 balV := Rd.lit w1 balEnc_ok balV 1 rfl _ _ rfl
  have b5 : Below w1.heap.size w1 (w1.alloc (.cells #[.int .i64 1, .string ⟨#[53, 48]⟩, .string ⟨#[69, 85, 82]⟩, .int .i64 8] 37)) := (Below.refl _ _).alloc (Nat.le_refl _) _
  have hA5 : Accs (w1.alloc (.cells #[.int .i64 1, .string ⟨#[53, 48]⟩, .string ⟨#[69, 85, 82]⟩, .int .i64 8] 37)) (some ⟨g1, 0, none⟩) 5 acct5V := hA1.below b5
  have r5 := r4.below b5
  have f5 := f4.below b5
  have b5 := bthen b4 (Nat.le_refl _) b5
  clear r3 f3 b3 hb1 r4 f4 b4 hA1
  go_wp2_with fail
  refine (HFA.out _ _ _ _ _ _ b5 hA5 r5 f5 hR).mono ?_
  rintro e w2 ⟨⟨g, gc, lb, lo, lc, rfl, c3, c8⟩, hb2⟩
  have hb2 := bthen b5 (Nat.le_refl _) hb2
  have c8' : w2.cell? ⟨lb, lo + 6 + 2, none⟩ = some (.int .i64 6) := by simpa [Nat.add_assoc] using c8
  clear hR hA5 r5 f5 b5 HFA c8
  go_wp2_with fail
  refine (HP6.out _ hb2).mono ?_
  rintro e w3 ⟨⟨hE0, rfl⟩ | ⟨hE0, v3, es, rfl, hp3, hg3⟩, hb3⟩
  · have hb3 := bthen hb2 (Nat.le_refl _) hb3
    have HE0 := hide hE0
    rw [errV_n HE0.out]
    clear hE0 hb2 c3 c8'
    go_wp2_with fail
    refine (HST.out _ hb3).mono ?_
    rintro e w8 ⟨⟨z, rfl⟩ | ⟨v8, out8, rfl, hown8, hs8, ha8, h208, hl8, hin8⟩, hb8⟩
    · have hb8 := bthen hb3 (Nat.le_refl _) hb8
      go_wp2_with fail
      go_ret
      exact ⟨rfl, hb8⟩
    · have hb8 := bthen hb3 (Nat.le_refl _) hb8
      obtain ⟨⟨hv8, he8⟩, hi8, ho8⟩ := steps_sums h208 hin8 hs8 ha8
      obtain ⟨OA, oc, rfl, hoc, hom⟩ := hown8.form
      have hrd8 := hown8.rd intEnc2_ok
      have hol : out8.length ≤ 2199023255552 := by omega
      have hal : an ≤ 2199023255552 := by have := HAN.out; omega
      have HV8 := hide hv8
      have HE8 := hide he8
      have HS8 := hide hs8
      have HI8 := hide hi8
      have HO8 := hide ho8
      clear hown8 hs8 ha8 h208 hin8 hv8 he8 hi8 ho8 hoc hom
      go_wp2_with fail
      refine (msum_any am AA an ac _ (HAM.out.below hb8) hal HI8.out).mono ?_
      rintro e w9 ⟨rfl, hb9⟩
      rw [HV8.out, errV_0 HE8.out]
      have hrd9 := hrd8.below hb9
      have hb9 := bthen hb8 (Nat.le_refl _) hb9
      go_wp2_with fail
      refine (msum_any out8 OA out8.length oc _ hrd9 hol HO8.out).mono ?_
      rintro e w10 ⟨rfl, hb10⟩
      rw [HS8.out, HV8.out, errV_0 HE8.out]
      have hb10 := bthen hb9 (Nat.le_refl _) hb10
      go_wp2_with fail
      go_ret
      exact ⟨rfl, hb10⟩
  · have hb3 := bthen hb2 (Nat.le_refl _) hb3
    obtain ⟨hP0, hB0, hAT0⟩ := allotE_0 hE0
    have hpo := (poolsE_0 hP0).2.2
    have HPO := hide hpo
    have hca := gave_all (w := w) hg3 hpo
    have HCA : Hid (∀ e, e ∈ es → Bnd 1000000000000000 e.lines ∧ ∀ y, y ∈ canon (e.lines.map blank) → y.amt = 0) := fun e he => hca (Ent.core e) (List.mem_map_of_mem he)
    have HG3 := hide hg3
    have h20 := hg3.len
    rw [List.length_map] at h20
    have hnl : l.length ≤ 20 := (poolsE_0 hP0).2.1
    have hes20 : es.length ≤ 20 := by have := Hn.out; omega
    obtain ⟨VA, vc, rfl, hvc, hvm⟩ := hp3.own.form
    have hrd3 := hp3.own.rd entEnc_okA
    have HALL : Hid (∀ e, e ∈ es → Rd w3 3 lineEnc e.A e.n e.lines ∧ e.n ≤ 20) := fun e he => ⟨(hp3.all e he).1, (hp3.all e he).2.1⟩
    have hes63 : es.length ≤ 9223372036854775807 := by omega
    clear hp3 hb2 c3 c8' hP0 hB0 hAT0 hpo hca hg3 hE0 hvc hvm h20
    go_wp2_with fail
    refine (zeroG_any es _ _ _ _ hes63 hrd3 HALL.out HCA.out).mono ?_
    rintro e w4 ⟨rfl, hb4⟩
    have hrd4 := hrd3.below hb4
    have HALL4 : Hid (∀ e, e ∈ es → Rd w4 3 lineEnc e.A e.n e.lines ∧ e.n ≤ 20) := fun e he => ⟨(HALL.out e he).1.below hb4, (HALL.out e he).2⟩
    have hb4 := bthen hb3 (Nat.le_refl _) hb4
    have ha4 := HAR.out.below hb4
    have hbr4 := HBR.out.below hb4
    have HPF4 : Hid (∀ p ∈ l, PolFits w4 p) := fun p hp => (HPF.out p hp).below hb4
    clear hrd3 hb3
    go_wp2_with fail
    go_loopw [19, 20] (fun kv iv wr => ∃ i : Nat, i ≤ n ∧ iv = .int .i64 i ∧ kv = .int .i64 (cntG l b ent i : Nat) ∧ Below w4.heap.size w4 wr) (fun _ iv _ => n - (intOf iv).toNat)
    case atStart => exact ⟨0, by omega, rfl, rfl, Below.refl _ _⟩
    case round =>
      obtain ⟨i, hi, rfl, rfl, hbr⟩ := hrel
      by_cases hlt : i < n
      · have hil : i < l.length := by have := Hn.out; omega
        obtain ⟨pb, po, rfl, hpcs⟩ := ha4.2 (by omega)
        have r0 := hpcs i 0 _ hil rfl
        have r1 := hpcs i 1 _ hil rfl
        have r2 := hpcs i 2 _ hil rfl
        rw [Nat.add_zero] at r0
        clear hpcs
        have hpb : pb < w4.heap.size := World.block_lt_of_cell? _ _ r0
        have i0 : (0 : Int) ≤ (i : Int) := by omega
        have i1 : (i : Int) < (n : Int) := by omega
        obtain ⟨kc, hkc⟩ : ∃ kc, kc = cntG l b ent i := ⟨_, rfl⟩
        have HAT : Hid (getB b ent l[i].acc l[i].cur ≠ 0 → kc < es.length ∧ inB (-1000000000000000) 1000000000000000 (getB b ent l[i].acc l[i].cur) = true ∧ ∃ out, (es.map Ent.core)[kc]? = some (giveCore ent 5 (refL ++ dg i) l[i] (getB b ent l[i].acc l[i].cur) out)) := fun hne => by
          obtain ⟨h1, out, h2, h3⟩ := (gave_at HG3.out).2 i hil (by omega) hne
          refine ⟨?_, h1, out, by rw [hkc]; exact h3⟩
          have := cnt_lt HG3.out hil (by omega) hne
          rw [List.length_map] at this
          rw [hkc]; exact this
        have HNO : Hid (getB b ent l[i].acc l[i].cur = 0 → cntG l b ent (i + 1) = kc) := fun h => by rw [hkc]; exact cnt_no hil h
        have HYES : Hid (getB b ent l[i].acc l[i].cur ≠ 0 → cntG l b ent (i + 1) = kc + 1) := fun h => by rw [hkc]; exact cnt_yes hil h
        rw [← hkc]
        clear hkc
        have hpfit := HPF4.out _ (List.getElem_mem hil)
        obtain ⟨p, hp⟩ : ∃ p, p = l[i] := ⟨_, rfl⟩
        rw [← hp] at r0 r1 r2 HAT HNO HYES hpfit
        have h19 := (poolE_0 (HPO.out i hil)).2.2.2.2.1
        rw [← hp] at h19
        have HPFI := hide hpfit
        clear hp hpfit
        obtain ⟨nv, hnv⟩ : ∃ nv, nv = getB b ent p.acc p.cur := ⟨_, rfl⟩
        rw [← hnv] at HAT HNO HYES
        have HGET : Hid (∀ W : World, Below w4.heap.size w4 W → Calls Tryz.prog 7 #[.slice BA bn bcap, .int .i64 ent, .string p.acc, .string p.cur] W fun e w' => e = .returned (.int .i64 nv) ∧ w' = W) := fun W hW => by rw [hnv]; exact refGet_s b ent p.acc p.cur BA bn bcap W hbl (hbr4.below hW)
        clear hnv
        obtain ⟨pacc, hpa⟩ : ∃ s, s = p.acc := ⟨_, rfl⟩
        obtain ⟨pcur, hpcu⟩ : ∃ s, s = p.cur := ⟨_, rfl⟩
        obtain ⟨TA, hTA⟩ : ∃ s, s = p.TA := ⟨_, rfl⟩
        obtain ⟨tn, htn⟩ : ∃ s, s = p.tn := ⟨_, rfl⟩
        obtain ⟨tc, htc⟩ : ∃ s, s = p.tc := ⟨_, rfl⟩
        rw [← hpa] at r0 HGET
        rw [← hpcu] at r1 HGET
        rw [← hTA, ← htn, ← htc] at r2
        have hto4 := HPFI.out.to
        rw [← hTA, ← htn] at hto4
        have htn19 : tn ≤ 19 := by have := hto4.1; omega
        have HPA := hide hpa
        clear hpa hpcu hTA htn htc
        have hS : wr.drew.cell? ⟨pb, po + i * 4, none⟩ = some (.string pacc) ∧ wr.drew.cell? ⟨pb, po + i * 4 + 1, none⟩ = some (.string pcur) := ⟨below_cell hbr hpb r0, below_cell hbr hpb r1⟩
        have hbd : Below w4.heap.size w4 wr.drew := bdrewN hbr 1
        have HBD := hide hbd
        clear hbd hbr
        have R0 := hide r0
        have R2 := hide r2
        clear r0 r1 r2
        go_upto_region 14 with fail
        go_region_held3 (fun w' => w'.cell? ⟨pb, po + i * 4, none⟩ = some (.string pacc) ∧ w'.cell? ⟨pb, po + i * 4 + 1, none⟩ = some (.string pcur)) (first | (with_reducible assumption)) (first | (go_at_call 7; refine (HGET.out _ HBD.out).mono ?_; rintro e w5 ⟨rfl, rfl⟩))
        clear HGET
        generalize wr.drew = W5 at hS HBD ⊢
        by_cases hz : nv = 0
        · have hz1 : (nv == 0) = true := by simpa using hz
          have HC := hide (HNO.out hz)
          clear hz
          go_wp2_with fail
          go_roundw
          case rel => exact ⟨i + 1, by omega, by go_num, by rw [HC.out], HBD.out⟩
          case measure => simp [intOf]; omega
        · have hz1 : (nv == 0) = false := by simpa using hz
          obtain ⟨hkl, hin, out, hcs⟩ := HAT.out hz
          have HC := hide (HYES.out hz)
          have hnb : -1000000000000000 ≤ nv ∧ nv ≤ 1000000000000000 := by simpa [inB] using hin
          obtain ⟨hn1, hn2⟩ := hnb
          have hwn : IntKind.i64.wrap (-nv) = -nv := IntWalk.i64_in _ (by omega)
          rw [List.getElem?_map, List.getElem?_eq_getElem hkl] at hcs
          have hE := Option.some.inj hcs
          obtain ⟨hx1, hx2⟩ := HALL4.out _ (List.getElem_mem hkl)
          obtain ⟨eb, eo, rfl, hecs⟩ := hrd4.2 (by omega)
          have e3 := hecs kc 3 _ hkl rfl
          obtain ⟨E, hEe⟩ : ∃ E, E = es[kc] := ⟨_, rfl⟩
          rw [← hEe] at hE hx1 hx2 e3
          have hlines : E.lines = ⟨p.acc, p.cur, -nv⟩ :: giveTo p out p.to.length := congrArg (fun x : Core => x.2.2.2) hE
          have hln : E.lines.length = E.n := hx1.1
          have hln1 : 1 ≤ E.lines.length := by rw [hlines]; simp
          obtain ⟨lb, lo, hEA, hlcs⟩ := hx1.2 (by omega)
          rw [hEA] at e3
          have y0 := hlcs 0 0 (.string p.acc) (by omega) (by simp only [hlines, List.getElem_cons_zero]; rfl)
          have y2 := hlcs 0 2 (.int .i64 (-nv)) (by omega) (by simp only [hlines, List.getElem_cons_zero]; rfl)
          rw [← HPA.out] at y0
          simp only [Nat.zero_mul, Nat.add_zero] at y0 y2
          have hlb : lb < w4.heap.size := World.block_lt_of_cell? _ _ y0
          have heb : eb < w4.heap.size := World.block_lt_of_cell? _ _ e3
          have HLC : Hid (∀ (j : Nat) (hj : j < E.lines.length), w4.cell? ⟨lb, lo + j * 3, none⟩ = some (.string E.lines[j].acc)) := fun j hj => by
            have := hlcs j 0 _ hj rfl
            rw [Nat.add_zero] at this
            exact this
          have HIN : Hid (∀ (j : Nat) (hj : j < E.lines.length), 1 ≤ j → p.to.any (fun t => t.toList == E.lines[j].acc.toList) = true) := fun j hj h1 => by
            have hm : E.lines[j] ∈ giveTo p out p.to.length := by
              obtain ⟨j', rfl⟩ : ∃ j', j = j' + 1 := ⟨j - 1, by omega⟩
              simp only [hlines, List.getElem_cons_succ]
              exact List.getElem_mem _
            exact List.any_eq_true.2 ⟨_, (giveTo_mem hm).1, by simp⟩
          obtain ⟨en, hen⟩ : ∃ en, en = E.n := ⟨_, rfl⟩
          obtain ⟨ec, hec⟩ : ∃ ec, ec = E.cap := ⟨_, rfl⟩
          rw [← hen] at hln e3
          rw [← hec] at e3
          have hen20 : en ≤ 20 := by omega
          have HLN := hide hln
          have hen1 : 1 ≤ en := by omega
          have kc0 : (0 : Int) ≤ (kc : Int) := by omega
          have kc1 : (kc : Int) < (es.length : Int) := by omega
          have kc2 : ¬ (es.length : Int) ≤ (kc : Int) := by omega
          have en0 : (0 : Int) < (en : Int) := by omega
          have E3 := hide e3
          have f3 := below_cell HBD.out heb e3
          have g0 := below_cell HBD.out hlb y0
          have g2 := below_cell HBD.out hlb y2
          have r0 := below_cell HBD.out hpb R0.out
          have HKL := hide hkl
          clear hz hin hcs hE hx1 hx2 hecs hEe hlines hln hln1 hlcs hEA y0 y2 e3 hen hec hn1 hn2 hS hkl
          go_upto_region 16 with fail
          go_quiet (fail)
          go_wp2_with fail
          go_loopw [22] (fun jv wi => ∃ j : Nat, 1 ≤ j ∧ j ≤ en ∧ jv = .int .i64 j ∧ Below w4.heap.size w4 wi) (fun jv _ => en - (intOf jv).toNat)
          case atStart => exact ⟨1, by omega, hen1, rfl, bdrewN HBD.out _⟩
          case round =>
            clear f3 g0 g2 r0
            obtain ⟨j, hj1, hj, rfl, hbi⟩ := hrel
            have z3 := below_cell hbi heb E3.out
            by_cases hjn : j < en
            · have hjl : j < E.lines.length := by have := HLN.out; omega
              have HANY := hide (HIN.out j hjl hj1)
              have l0 := HLC.out j hjl
              obtain ⟨ya, hya⟩ : ∃ ya, ya = E.lines[j].acc := ⟨_, rfl⟩
              rw [← hya] at l0 HANY
              have L0 := hide l0
              clear hya l0
              have j0 : (0 : Int) ≤ (j : Int) := by omega
              have j1 : (j : Int) < (en : Int) := by omega
              obtain ⟨wj, hwj⟩ : ∃ wj, wj = wr := ⟨_, rfl⟩
              rw [← hwj] at hbi z3 ⊢
              clear hwj
              go_wp2_with fail
              go_loopw [23, 24] (fun dv mv wi => ∃ m : Nat, m ≤ tn ∧ mv = .int .i64 m ∧ dv = .bool ((p.to.take m).any (fun t => t.toList == ya.toList)) ∧ Below w4.heap.size w4 wi) (fun _ mv _ => tn - (intOf mv).toNat)
              case atStart => exact ⟨0, by omega, rfl, by simp, hbi⟩
              case round =>
                clear hbi z3
                obtain ⟨m, hm, rfl, rfl, hbm⟩ := hrel
                have c2 := below_cell hbm hpb R2.out
                have z3 := below_cell hbm heb E3.out
                have z0 := below_cell hbm hlb L0.out
                have htl : p.to.length = tn := hto4.1
                by_cases hmn : m < tn
                · have hml : m < p.to.length := by omega
                  obtain ⟨tb, tof, hTAe, htcs⟩ := hto4.2 (by omega)
                  subst hTAe
                  have t0 := htcs m 0 _ hml rfl
                  simp only [Nat.mul_one, Nat.add_zero] at t0
                  have t0 := below_cell hbm (World.block_lt_of_cell? _ _ t0) t0
                  have HD : Hid ((p.to.take (m + 1)).any (fun t => t.toList == ya.toList) = ((p.to.take m).any (fun t => t.toList == ya.toList) || (p.to[m].toList == ya.toList))) := any_take_succ (fun t : ByteArray => t.toList == ya.toList) hml
                  obtain ⟨t, ht⟩ : ∃ t, t = p.to[m] := ⟨_, rfl⟩
                  rw [← ht] at t0 HD
                  have m0 : (0 : Int) ≤ (m : Int) := by omega
                  have m1 : (m : Int) < (tn : Int) := by omega
                  clear ht htcs htl
                  cases hd : (p.to.take m).any (fun t => t.toList == ya.toList) <;> cases he : (t.toList == ya.toList)
                  all_goals
                    have HV := hide (HD.out.trans (by rw [hd, he]))
                    clear hd
                    go_wp2_with fail
                    go_quiet (fail)
                    go_wp2_with fail
                    go_roundw
                    case rel => exact ⟨m + 1, by omega, by go_num, by rw [HV.out]; rfl, bdrewN hbm _⟩
                    case measure => simp [intOf]; omega
                · have hmt : p.to.take m = p.to := List.take_of_length_le (by omega)
                  rw [hmt, HANY.out]
                  clear hmt htl
                  go_wp2_with fail
                  go_roundw
                  case rel => exact ⟨j + 1, by omega, by omega, by go_num, hbm⟩
                  case measure => simp [intOf]; omega
            · go_wp2_with fail
              go_roundw
              case rel => exact ⟨i + 1, by omega, by go_num, by rw [HC.out]; go_num, hbi⟩
              case measure => simp [intOf]; omega
      · have hie : i = n := by omega
        have HKE : Hid (cntG l b ent i = es.length) := by
          have := (gave_at HG3.out).1
          rw [List.length_map] at this
          rw [hie]; exact this.symm
        rw [HKE.out]
        have hb5 := hb4.trans (hbr.mono hb4.size)
        clear hbr hi hie
        go_wp2_with fail
        refine (HST.out _ hb5).mono ?_
        rintro e w8 ⟨⟨z, rfl⟩ | ⟨v8, out8, rfl, hown8, hs8, ha8, h208, hl8, hin8⟩, hb8⟩
        · have hb8 := bthen hb5 (Nat.le_refl _) hb8
          go_wp2_with fail
          go_ret
          exact ⟨rfl, hb8⟩
        · have hb8 := bthen hb5 (Nat.le_refl _) hb8
          obtain ⟨⟨hv8, he8⟩, hi8, ho8⟩ := steps_sums h208 hin8 hs8 ha8
          obtain ⟨OA, oc, rfl, hoc, hom⟩ := hown8.form
          have hrd8 := hown8.rd intEnc2_ok
          have hol : out8.length ≤ 2199023255552 := by omega
          have hal : an ≤ 2199023255552 := by have := HAN.out; omega
          have HV8 := hide hv8
          have HE8 := hide he8
          have HS8 := hide hs8
          have HI8 := hide hi8
          have HO8 := hide ho8
          clear hown8 hs8 ha8 h208 hin8 hv8 he8 hi8 ho8 hoc hom
          go_wp2_with fail
          refine (msum_any am AA an ac _ (HAM.out.below hb8) hal HI8.out).mono ?_
          rintro e w9 ⟨rfl, hb9⟩
          rw [HV8.out, errV_0 HE8.out]
          have hrd9 := hrd8.below hb9
          have hb9 := bthen hb8 (Nat.le_refl _) hb9
          go_wp2_with fail
          refine (msum_any out8 OA out8.length oc _ hrd9 hol HO8.out).mono ?_
          rintro e w10 ⟨rfl, hb10⟩
          rw [HS8.out, HV8.out, errV_0 HE8.out]
          have hb10 := bthen hb9 (Nat.le_refl _) hb10
          go_wp2_with fail
          go_ret
          exact ⟨rfl, hb10⟩
end Go.Proofs.YtmpnbkjcpgnifaaGreatDoor
