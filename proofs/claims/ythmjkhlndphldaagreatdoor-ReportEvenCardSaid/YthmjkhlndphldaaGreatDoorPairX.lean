/- pair.sides, slices.Contains of sides: what they return. -/
import Derived.Test.YthmjkhlndphldaaGreatDoorBalAll
import Derived.Deep.QuietTactic
import Derived.BigQuiet
namespace Go.Proofs.YthmjkhlndphldaaGreatDoor
open Go Go.RowKit
set_option linter.unusedVariables false

def sdEnc (s : Int × ByteArray) : List Value := [.int .i64 s.1, .string s.2]
theorem sdEnc_ok : Enc 2 sdEnc := ⟨fun _ => rfl, fun _ u hu => by simp [sdEnc] at hu; rcases hu with rfl | rfl <;> rfl⟩
theorem sides_any (p : Pr) (w : World) :
    Calls Tryz.prog 98 #[.agg #[.int .i64 p.a, .int .i64 p.b, .string p.one, .string p.other, .string p.diff]] w fun e w' => e = .returned (.agg #[.int .i64 p.a, .string p.one, .int .i64 p.b, .string p.other]) ∧ Below w.heap.size w w' := by
  go_enter Tryz.func98, Tryz.ntmps98
  go_wp2_with fail
  refine bodyPost_ret (v := .agg #[.int .i64 p.a, .string p.one, .int .i64 p.b, .string p.other]) (by simp [results, Tryz.results98, go_sem]) rfl ⟨rfl, ?_⟩
  exact ((Below.refl _ _).alloc (Nat.le_refl _) _).alloc (by simp) _
set_option maxRecDepth 100000 in
theorem sidx_any (l : List (Int × ByteArray)) (en : Int) (ac : ByteArray) (A : Option Addr) (n cap : Nat) (w : World) (hl : n ≤ 9223372036854775807) (ha : Rd w 2 sdEnc A n l) :
    Calls Tryz.prog 141 #[.slice A n cap, .agg #[.int .i64 en, .string ac]] w fun e w' => ∃ r : Int, e = .returned (.int .i64 r) ∧ decide (0 ≤ r) = l.any (sideB en ac) ∧ Below w.heap.size w w' := by
  have Hn := hide ha.1
  go_enter Tryz.func141, Tryz.ntmps141
  go_wp2_with fail
  have hbx : Below w.heap.size w (w.alloc (.cells #[.int .i64 en, .string ac] 153)) := (Below.refl _ _).alloc (Nat.le_refl _) _
  have x0 : (w.alloc (.cells #[.int .i64 en, .string ac] 153)).cell? ⟨w.heap.size, 0, none⟩ = some (.int .i64 en) := by simp
  have x1 : (w.alloc (.cells #[.int .i64 en, .string ac] 153)).cell? ⟨w.heap.size, 1, none⟩ = some (.string ac) := by simp
  generalize (w.alloc (.cells #[.int .i64 en, .string ac] 153)) = W1 at hbx x0 x1 ⊢
  go_loopw [8] (fun iv wr => ∃ k : Nat, k ≤ n ∧ iv = .int .i64 k ∧ NoTo (sideB en ac) l k ∧ wr.cell? ⟨w.heap.size, 0, none⟩ = some (.int .i64 en) ∧ wr.cell? ⟨w.heap.size, 1, none⟩ = some (.string ac) ∧ Below w.heap.size w wr) (fun iv _ => n - (intOf iv).toNat)
  case atStart => exact ⟨0, by omega, rfl, NoTo.zero _ _, x0, x1, hbx⟩
  case round =>
    clear x0 x1
    obtain ⟨k, hk, rfl, hto, x0, x1, hbr⟩ := hrel
    have HTo := hide hto
    clear hto
    by_cases hlt : k < n
    · have hkl : k < l.length := by have := Hn.out; omega
      obtain ⟨b, off, rfl, hcs⟩ := (Rd.below ha hbr).2 (by omega)
      have q0 := hcs k 0 _ hkl rfl
      have q1 := hcs k 1 _ hkl rfl
      rw [Nat.add_zero] at q0
      clear hcs
      have k0 : (0 : Int) ≤ (k : Int) := by omega
      have k1 : (k : Int) < (n : Int) := by omega
      cases e1 : (en == l[k].1) with
      | false =>
        have HX : Hid (sideB en ac l[k] = false) := by show _ = _; unfold sideB; simp only [e1, Bool.false_and]
        go_wp2_with fail
        go_quiet (fail)
        go_wp2_with fail
        go_roundw
        case rel => exact ⟨k + 1, by omega, by go_num, HTo.out.succ hkl HX.out, x0, x1, bdrewN hbr _⟩
        case measure => simp [intOf]; omega
      | true =>
        cases e2 : (ac.toList == l[k].2.toList) with
        | false =>
          have HX : Hid (sideB en ac l[k] = false) := by show _ = _; unfold sideB; simp only [e1, e2, Bool.and_false]
          go_wp2_with fail
          go_quiet (fail)
          go_wp2_with fail
          go_roundw
          case rel => exact ⟨k + 1, by omega, by go_num, HTo.out.succ hkl HX.out, x0, x1, bdrewN hbr _⟩
          case measure => simp [intOf]; omega
        | true =>
          have HX : Hid (sideB en ac l[k] = true) := by show _ = _; unfold sideB; simp only [e1, e2, Bool.true_and]
          have HG := hide (any_at (p := sideB en ac) hkl HX.out)
          go_wp2_with fail
          go_quiet (fail)
          go_wp2_with fail
          go_ret
          exact ⟨k, rfl, by rw [HG.out]; simp, bdrewN hbr _⟩
    · go_wp2_with fail
      go_ret
      exact ⟨-1, rfl, by rw [HTo.out.any (by have := Hn.out; omega)]; rfl, hbr⟩
theorem contains_any (l : List (Int × ByteArray)) (en : Int) (ac : ByteArray) (A : Option Addr) (n cap : Nat) (w : World) (hl : n ≤ 9223372036854775807) (ha : Rd w 2 sdEnc A n l) :
    Calls Tryz.prog 99 #[.slice A n cap, .agg #[.int .i64 en, .string ac]] w fun e w' => e = .returned (.bool (l.any (sideB en ac))) ∧ Below w.heap.size w w' := by
  go_enter Tryz.func99, Tryz.ntmps99
  go_wp2_with fail
  refine (sidx_any l en ac _ _ _ _ hl (ha.below ((Below.refl _ _).alloc (Nat.le_refl _) _))).mono ?_
  rintro e w1 ⟨r, rfl, hr, hb1⟩
  go_wp2_with fail
  go_ret
  exact ⟨by rw [← hr]; rfl, bof_alloc hb1⟩
end Go.Proofs.YthmjkhlndphldaaGreatDoor

namespace Go.Proofs.YthmjkhlndphldaaGreatDoor
open Go Go.RowKit
set_option linter.unusedVariables false

def zeroSd : Value := .agg #[.int .i64 0, .string ⟨#[]⟩]
theorem sd_info : (Tryz.prog.info? 153).map (fun i => (i.zero, i.size, i.bytes)) = some (some zeroSd, 2, 24) := by kernel_rfl
/-- a pair in a block of its own -/
def PrAt (w : World) (g : Nat) (p : Pr) : Prop := w.cell? ⟨g, 0, none⟩ = some (.int .i64 p.a) ∧ w.cell? ⟨g, 1, none⟩ = some (.int .i64 p.b) ∧ w.cell? ⟨g, 2, none⟩ = some (.string p.one) ∧ w.cell? ⟨g, 3, none⟩ = some (.string p.other) ∧ w.cell? ⟨g, 4, none⟩ = some (.string p.diff)
theorem PrAt.lt {w : World} {g : Nat} {p : Pr} (h : PrAt w g p) : g < w.heap.size := World.block_lt_of_cell? _ _ h.1
theorem PrAt.below {w w' : World} {g : Nat} {p : Pr} (h : PrAt w g p) (hb : Below w.heap.size w w') : PrAt w' g p :=
  ⟨below_cell hb h.lt h.1, below_cell hb h.lt h.2.1, below_cell hb h.lt h.2.2.1, below_cell hb h.lt h.2.2.2.1, below_cell hb h.lt h.2.2.2.2⟩
theorem PrAt.new (w : World) (p : Pr) : PrAt (w.alloc (.cells #[.int .i64 p.a, .int .i64 p.b, .string p.one, .string p.other, .string p.diff] 99)) w.heap.size p := by unfold PrAt; simp
def legS (p : Pr) (i : Nat) : ByteArray := if i = 0 then p.one else if i = 1 then p.other else p.diff
def LegAt (w : World) (g : Nat) (p : Pr) : Prop := ∀ i, i < 3 → w.cell? ⟨g, i, none⟩ = some (.string (legS p i))
theorem LegAt.below {w w' : World} {g : Nat} {p : Pr} (h : LegAt w g p) (hb : Below w.heap.size w w') : LegAt w' g p :=
  fun i hi => below_cell hb (World.block_lt_of_cell? _ _ (h i hi)) (h i hi)
theorem LegAt.new (w : World) (p : Pr) : LegAt (w.alloc (.cells #[.string p.one, .string p.other, .string p.diff] 9)) w.heap.size p := by
  intro i hi
  have : i = 0 ∨ i = 1 ∨ i = 2 := by omega
  rcases this with rfl | rfl | rfl <;> simp [legS]
theorem legE_first (c : List Acc) (p : Pr) : legE c p = firstE (fun i => leafE c (legS p i)) 3 := by
  show legE c p = if (if (if (0 : Int) ≠ 0 then 0 else leafE c (legS p 0)) ≠ 0 then _ else _) ≠ 0 then _ else _
  unfold legE
  simp only [firstE, legS, ne_eq, not_true_eq_false, if_false, if_true]
  by_cases h1 : leafE c p.one = 0 <;> by_cases h2 : leafE c p.other = 0 <;> simp [h1, h2]
theorem pairsE_1 {c : List Acc} {l : List Pr} (h : chartE c ≠ 0) : pairsE c l = chartE c := if_pos h
theorem pairsE_2 {c : List Acc} {l : List Pr} (h : chartE c = 0) (h2 : 20 < l.length) : pairsE c l = 4 := by rw [pairsE, if_neg (by simpa using h), if_pos h2]
theorem pairsE_3 {c : List Acc} {l : List Pr} (h : chartE c = 0) (h2 : ¬ 20 < l.length) : pairsE c l = firstE (pairE c l) l.length := by rw [pairsE, if_neg (by simpa using h), if_neg h2]
theorem pairs_hit {c : List Acc} {l : List Pr} {k : Nat} {e : Int} (hc : chartE c = 0) (h20 : ¬ 20 < l.length) (hto : firstE (pairE c l) k = 0) (hk : k < l.length) (he : pairE c l k = e) (h0 : e ≠ 0) : pairsE c l = e := by
  rw [pairsE_3 hc h20, firstE_hit hto hk (by rw [he]; exact h0), he]
theorem pairE_1 {c : List Acc} {l : List Pr} {k : Nat} (hk : k < l.length) (h : inB 1 12 l[k].a = false) : pairE c l k = 1 := by rw [pairE_at hk, if_pos h]
theorem pairE_2 {c : List Acc} {l : List Pr} {k : Nat} (hk : k < l.length) (h : inB 1 12 l[k].a = true) (h2 : inB 1 12 l[k].b = false) : pairE c l k = 1 := by rw [pairE_at hk, if_neg (by rw [h]; decide), if_pos h2]
theorem pairE_3 {c : List Acc} {l : List Pr} {k : Nat} (hk : k < l.length) (h : inB 1 12 l[k].a = true) (h2 : inB 1 12 l[k].b = true) (h3 : l[k].a = l[k].b) : pairE c l k = 8 := by
  rw [pairE_at hk, if_neg (by rw [h]; decide), if_neg (by rw [h2]; decide), if_pos h3]
theorem pairE_4 {c : List Acc} {l : List Pr} {k : Nat} (hk : k < l.length) (h : inB 1 12 l[k].a = true) (h2 : inB 1 12 l[k].b = true) (h3 : l[k].a ≠ l[k].b) (h4 : legE c l[k] ≠ 0) : pairE c l k = legE c l[k] := by
  rw [pairE_at hk, if_neg (by rw [h]; decide), if_neg (by rw [h2]; decide), if_neg h3, if_pos h4]
theorem pairE_5 {c : List Acc} {l : List Pr} {k : Nat} (hk : k < l.length) (h : inB 1 12 l[k].a = true) (h2 : inB 1 12 l[k].b = true) (h3 : l[k].a ≠ l[k].b) (h4 : legE c l[k] = 0) :
    pairE c l k = if ownB l[k] = true then 8 else if (l.take k).any (hitB l[k]) = true then 8 else 0 := by
  rw [pairE_at hk, if_neg (by rw [h]; decide), if_neg (by rw [h2]; decide), if_neg h3, if_neg (by simpa using h4)]
theorem side_hit (l : List Pr) (k : Nat) (p : Pr) : (((sideTo l k).any (sideB p.a p.one)) || ((sideTo l k).any (sideB p.b p.other))) = (l.take k).any (hitB p) := seen_hit p (l.take k)

set_option maxHeartbeats 4000000 in
set_option maxRecDepth 100000 in
theorem pcheck_any (c : List Acc) (CA : Option Addr) (cn ccap : Nat) (l : List Pr) (A : Option Addr) (n cap : Nat) (w : World)
    (hcl : cn ≤ 9223372036854775807) (hcc : cn ≤ ccap) (hc : Accs w CA cn c) (hcok : AccOk c) (hl : n ≤ 9223372036854775807) (ha : Rd w 5 prEnc A n l) :
    Calls Tryz.prog 41 #[.slice CA cn ccap, .slice A n cap] w fun e w' => e = .returned (errV (pairsE c l)) ∧ Below w.heap.size w w' := by
  have hn := ha.1
  have Hn := hide hn
  obtain ⟨i0, hi0, hz0, hz1, hz2⟩ := info_parts sd_info
  by_cases he : chartE c = 0
  · have HC := hide he
    clear he
    by_cases h20 : 20 < n
    · have h20i : (20 : Int) < (n : Int) := by omega
      have HF := hide (pairsE_2 HC.out (by rw [Hn.out]; exact h20))
      clear h20
      go_enter Tryz.func41, Tryz.ntmps41
      go_wp2_with fail
      refine (check_ok c _ _ _ _ hcl hcc hc hcok HC.out).mono ?_
      rintro e w1 ⟨rfl, hb1⟩
      go_wp2_with fail
      go_ret
      exact ⟨by rw [HF.out]; rfl, hb1⟩
    · have h20i : ¬ (20 : Int) < (n : Int) := by omega
      have hn20 : n ≤ 20 := by omega
      have H20 : Hid (¬ 20 < l.length) := by show ¬ _; rw [Hn.out]; exact h20
      clear h20 hn
      go_enter Tryz.func41, Tryz.ntmps41
      go_wp2_with fail
      refine (check_ok c _ _ _ _ hcl hcc hc hcok HC.out).mono ?_
      rintro e w1 ⟨rfl, hb1⟩
      go_wp2_with fail
      go_loopw [6, 24] (fun sv iv wr => ∃ k : Nat, k ≤ n ∧ iv = .int .i64 k ∧ firstE (pairE c l) k = 0 ∧ Own wr w.heap.size 153 2 sdEnc sv (sideTo l k) ∧ Below w.heap.size w wr) (fun _ iv _ => n - (intOf iv).toNat)
      case atStart => exact ⟨0, by omega, rfl, rfl, Own.nil _ _ _ _ _, hb1⟩
      case round =>
        obtain ⟨k, hk, rfl, hto, hown, hbr⟩ := hrel
        obtain ⟨wo, hwo⟩ : ∃ wo, wo = wr := ⟨_, rfl⟩
        subst hwo
        have HTo := hide hto
        clear hto
        obtain ⟨SA, sc, rfl, hsc, hsm⟩ := hown.form
        have hsl : (sideTo l k).length = 2 * k := sideTo_len l k (by have := Hn.out; omega)
        rw [hsl] at hown hsc ⊢
        have HSL := hide hsl
        clear hsl
        by_cases hlt : k < n
        · have hkl : k < l.length := by have := Hn.out; omega
          obtain ⟨b, off, rfl, hcs⟩ := (Rd.below ha hbr).2 (by omega)
          have q0 := hcs k 0 _ hkl rfl
          have q1 := hcs k 1 _ hkl rfl
          have q2 := hcs k 2 _ hkl rfl
          have q3 := hcs k 3 _ hkl rfl
          have q4 := hcs k 4 _ hkl rfl
          rw [Nat.add_zero] at q0
          clear hcs
          have k0 : (0 : Int) ≤ (k : Int) := by omega
          have k1 : (k : Int) < (n : Int) := by omega
          have hsz := hbr.size
          have hbx : Below wo.heap.size wo (wo.alloc (.cells #[.int .i64 l[k].a, .int .i64 l[k].b, .string l[k].one, .string l[k].other, .string l[k].diff] 99)) := (Below.refl _ _).alloc (Nat.le_refl _) _
          have hx := PrAt.new wo l[k]
          cases h1 : inB 1 12 l[k].a with
          | false =>
            have HF := hide (pairs_hit HC.out H20.out HTo.out hkl (pairE_1 hkl h1) (by decide))
            go_wp2_with fail
            refine (entity_any _ _).mono ?_
            rintro e w2 ⟨rfl, rfl⟩
            rw [h1]
            go_wp2_with fail
            go_ret
            exact ⟨by rw [HF.out]; rfl, hbr.trans (hbx.mono hsz)⟩
          | true =>
            cases h2 : inB 1 12 l[k].b with
            | false =>
              have HF := hide (pairs_hit HC.out H20.out HTo.out hkl (pairE_2 hkl h1 h2) (by decide))
              go_wp2_with fail
              refine (entity_any _ _).mono ?_
              rintro e w2 ⟨rfl, rfl⟩
              rw [h1]
              go_wp2_with fail
              refine (entity_any _ _).mono ?_
              rintro e w2 ⟨rfl, rfl⟩
              rw [h2]
              go_wp2_with fail
              go_ret
              exact ⟨by rw [HF.out]; rfl, hbr.trans (hbx.mono hsz)⟩
            | true =>
              by_cases h3 : l[k].a = l[k].b
              · have HF := hide (pairs_hit HC.out H20.out HTo.out hkl (pairE_3 hkl h1 h2 h3) (by decide))
                have h3b : (l[k].a == l[k].b) = true := by simpa using h3
                have h4 : inB 1 12 l[k].a = true := h1
                have HA := hide h1
                have HB := hide h2
                clear h3 h1 h2 h4
                go_wp2_with fail
                refine (entity_any _ _).mono ?_
                rintro e w2 ⟨rfl, rfl⟩
                rw [HA.out]
                go_wp2_with fail
                refine (entity_any _ _).mono ?_
                rintro e w2 ⟨rfl, rfl⟩
                rw [HB.out]
                go_wp2_with fail
                go_ret
                exact ⟨by rw [HF.out]; rfl, hbr.trans (hbx.mono hsz)⟩
              · have h3b : (l[k].a == l[k].b) = false := by simpa using h3
                have HA := hide h1
                have HB := hide h2
                have H3 := hide h3
                clear h1 h2 h3
                go_wp2_with fail
                refine (entity_any _ _).mono ?_
                rintro e w2 ⟨rfl, rfl⟩
                rw [HA.out]
                go_wp2_with fail
                refine (entity_any _ _).mono ?_
                rintro e w2 ⟨rfl, rfl⟩
                rw [HB.out]
                go_wp2_with fail
                have hlg := LegAt.new (wo.alloc (.cells #[.int .i64 l[k].a, .int .i64 l[k].b, .string l[k].one, .string l[k].other, .string l[k].diff] 99)) l[k]
                have hx2 := hx.below ((Below.refl _ _).alloc (Nat.le_refl _) (.cells #[.string l[k].one, .string l[k].other, .string l[k].diff] 9))
                have hb2 : Below wo.heap.size wo ((wo.alloc (.cells #[.int .i64 l[k].a, .int .i64 l[k].b, .string l[k].one, .string l[k].other, .string l[k].diff] 99)).alloc (.cells #[.string l[k].one, .string l[k].other, .string l[k].diff] 9)) := hbx.alloc hbx.size _
                have hgs : (wo.alloc (.cells #[.int .i64 l[k].a, .int .i64 l[k].b, .string l[k].one, .string l[k].other, .string l[k].diff] 99)).heap.size = wo.heap.size + 1 := by simp
                rw [hgs] at hlg
                go_loopw [55] (fun iv wi => ∃ i : Nat, i ≤ 3 ∧ iv = .int .i64 i ∧ firstE (fun i => leafE c (legS l[k] i)) i = 0 ∧ PrAt wi wo.heap.size l[k] ∧ LegAt wi (wo.heap.size + 1) l[k] ∧ Below wo.heap.size wo wi) (fun iv _ => 3 - (intOf iv).toNat)
                case atStart => exact ⟨0, by omega, rfl, rfl, hx2, hlg, hb2⟩
                case round =>
                  clear hx hx2 hlg hb2 hbx hgs q0 q1 q2 q3 q4
                  obtain ⟨i, hi, rfl, hto, hx, hlg, hbi⟩ := hrel
                  have hbw := hbr.trans (hbi.mono hsz)
                  by_cases hi3 : i < 3
                  · have y0 := hlg i hi3
                    have i0 : (0 : Int) ≤ (i : Int) := by omega
                    have i1 : (i : Int) < 3 := by omega
                    have hck := hc.below hbw
                    by_cases hle : leafE c (legS l[k] i) = 0
                    · have HL := hide hle
                      have HT2 := hide hto
                      clear hle hto
                      go_wp2_with fail
                      refine (leaf_ok c _ _ _ _ _ hcl hck HL.out).mono ?_
                      rintro e w3 ⟨rfl, hb3⟩
                      have hx3 := hx.below hb3
                      have hlg3 := hlg.below hb3
                      have hb3 := bthen hbi (Nat.le_refl _) hb3
                      go_wp2_with fail
                      go_roundw
                      case rel => exact ⟨i + 1, by omega, by go_num, by rw [firstE_succ HT2.out]; exact HL.out, hx3, hlg3, hb3⟩
                      case measure => simp [intOf]; omega
                    · have HL := hide hle
                      have HG : Hid (legE c l[k] = leafE c (legS l[k] i)) := by show _ = _; rw [legE_first]; exact firstE_hit hto hi3 hle
                      have HF := hide (pairs_hit HC.out H20.out HTo.out hkl (pairE_4 hkl HA.out HB.out H3.out (by rw [HG.out]; exact hle)) (by rw [HG.out]; exact hle))
                      clear hle hto
                      go_wp2_with fail
                      refine (leaf_bad c _ _ _ _ _ hcl hck HL.out).mono ?_
                      rintro e w3 ⟨rfl, hb3⟩
                      have hb3 := bthen hbi (Nat.le_refl _) hb3
                      go_wp2_with fail
                      go_ret
                      exact ⟨by rw [HF.out, HG.out, errV_n HL.out]; rfl, hbr.trans (hb3.mono hsz)⟩
                  · obtain rfl : i = 3 := by omega
                    have HG : Hid (legE c l[k] = 0) := by show _ = _; rw [legE_first]; exact hto
                    have H5 := hide (pairE_5 hkl HA.out HB.out H3.out HG.out)
                    clear hto hlg
                    have hxk := hx
                    obtain ⟨x0, x1, x2, x3, x4⟩ := hx
                    have hown2 := hown.below hbi
                    have hgl := hxk.lt
                    have hsl2 : 2 * k ≤ 40 := by omega
                    obtain ⟨wj, hwj⟩ : ∃ wj, wj = wr := ⟨_, rfl⟩
                    subst hwj
                    have hsx := hbi.size
                    go_wp2_with fail
                    refine (sides_any l[k] _).mono ?_
                    rintro e w3 ⟨rfl, hb3⟩
                    obtain ⟨x0, x1, x2, x3, x4⟩ := hxk.below hb3
                    have hown3 := hown2.below hb3
                    have hb3 := bthen hbi (Nat.le_refl _) hb3
                    have hgl3 : wo.heap.size < w3.heap.size := World.block_lt_of_cell? _ _ x0
                    have hs3 := hb3.size
                    have z0 : (w3.alloc (.cells #[.int .i64 l[k].a, .string l[k].one, .int .i64 l[k].b, .string l[k].other] 154)).cell? ⟨w3.heap.size, 0, none⟩ = some (.int .i64 l[k].a) := by simp
                    have z1 : (w3.alloc (.cells #[.int .i64 l[k].a, .string l[k].one, .int .i64 l[k].b, .string l[k].other] 154)).cell? ⟨w3.heap.size, 1, none⟩ = some (.string l[k].one) := by simp
                    have z2 : (w3.alloc (.cells #[.int .i64 l[k].a, .string l[k].one, .int .i64 l[k].b, .string l[k].other] 154)).cell? ⟨w3.heap.size, 2, none⟩ = some (.int .i64 l[k].b) := by simp
                    have z3 : (w3.alloc (.cells #[.int .i64 l[k].a, .string l[k].one, .int .i64 l[k].b, .string l[k].other] 154)).cell? ⟨w3.heap.size, 3, none⟩ = some (.string l[k].other) := by simp
                    have hb4 : Below wo.heap.size wo (w3.alloc (.cells #[.int .i64 l[k].a, .string l[k].one, .int .i64 l[k].b, .string l[k].other] 154)) := hb3.alloc hs3 _
                    have hown4 := hown3.alloc (.cells #[.int .i64 l[k].a, .string l[k].one, .int .i64 l[k].b, .string l[k].other] 154)
                    have hrdS : Rd (w3.alloc (.cells #[.int .i64 l[k].a, .string l[k].one, .int .i64 l[k].b, .string l[k].other] 154)) 2 sdEnc (some ⟨w3.heap.size, 0, none⟩) 2 (sideL l[k]) := Rd.lit _ sdEnc_ok (sideL l[k]) 2 rfl _ _ rfl
                    have hls : w3.heap.size < (w3.alloc (.cells #[.int .i64 l[k].a, .string l[k].one, .int .i64 l[k].b, .string l[k].other] 154)).heap.size := by simp
                    have X : PrAt w3 wo.heap.size l[k] := ⟨x0, x1, x2, x3, x4⟩
                    have hXb : Below w3.heap.size w3 (w3.alloc (.cells #[.int .i64 l[k].a, .string l[k].one, .int .i64 l[k].b, .string l[k].other] 154)) := (Below.refl _ _).alloc (Nat.le_refl _) _
                    cases e1 : (l[k].diff.toList == l[k].one.toList) with
                    | true =>
                      have HF := hide (pairs_hit HC.out H20.out HTo.out hkl (show pairE c l k = 8 by rw [H5.out, if_pos (by unfold ownB; rw [e1]; rfl)]) (by decide))
                      go_wp2_with fail
                      go_ret
                      exact ⟨by rw [HF.out]; rfl, hbr.trans (hb4.mono hsz)⟩
                    | false =>
                      cases e2 : (l[k].diff.toList == l[k].other.toList) with
                      | true =>
                        have HF := hide (pairs_hit HC.out H20.out HTo.out hkl (show pairE c l k = 8 by rw [H5.out, if_pos (by unfold ownB; rw [e1, e2]; rfl)]) (by decide))
                        go_wp2_with fail
                        go_ret
                        exact ⟨by rw [HF.out]; rfl, hbr.trans (hb4.mono hsz)⟩
                      | false =>
                        have HO : Hid (ownB l[k] = false) := by show _ = _; unfold ownB; rw [e1, e2]; rfl
                        have HS := hide (side_hit l k l[k])
                        have X4 := X.below hXb
                        clear x0 x1 x2 x3 x4 hxk
                        obtain ⟨x0, x1, x2, x3, x4⟩ := X4
                        go_wp2_with fail
                        generalize (w3.alloc (.cells #[.int .i64 l[k].a, .string l[k].one, .int .i64 l[k].b, .string l[k].other] 154)) = W4 at z0 z1 z2 z3 hb4 hown4 hrdS hls x0 x1 x2 x3 x4 hXb ⊢
                        refine (contains_any (sideTo l k) l[k].a l[k].one _ _ _ _ (by omega) (hown4.rd sdEnc_ok)).mono ?_
                        rintro e w5 ⟨rfl, hb5⟩
                        have z25 := below_cell hb5 hls z2
                        have z35 := below_cell hb5 hls z3
                        have hown5 := hown4.below hb5
                        have hrdS5 := hrdS.below hb5
                        have hb5 := bthen hb4 (Nat.le_refl _) hb5
                        clear z0 z1 z2 z3 hrdS hown4
                        cases c1 : (sideTo l k).any (sideB l[k].a l[k].one) with
                        | true =>
                          have HF := hide (pairs_hit HC.out H20.out HTo.out hkl (show pairE c l k = 8 by rw [H5.out, if_neg (by rw [HO.out]; decide), if_pos (by rw [← HS.out, c1]; rfl)]) (by decide))
                          go_wp2_with fail
                          go_ret
                          exact ⟨by rw [HF.out]; rfl, hbr.trans (hb5.mono hsz)⟩
                        | false =>
                          go_wp2_with fail
                          refine (contains_any (sideTo l k) l[k].b l[k].other _ _ _ _ (by omega) (hown5.rd sdEnc_ok)).mono ?_
                          rintro e w6 ⟨rfl, hb6⟩
                          have hown6 := hown5.below hb6
                          have hrdS6 := hrdS5.below hb6
                          have hb6 := bthen hb5 (Nat.le_refl _) hb6
                          cases c2 : (sideTo l k).any (sideB l[k].b l[k].other) with
                          | true =>
                            have HF := hide (pairs_hit HC.out H20.out HTo.out hkl (show pairE c l k = 8 by rw [H5.out, if_neg (by rw [HO.out]; decide), if_pos (by rw [← HS.out, c1, c2]; rfl)]) (by decide))
                            go_wp2_with fail
                            go_ret
                            exact ⟨by rw [HF.out]; rfl, hbr.trans (hb6.mono hsz)⟩
                          | false =>
                            have HZ : Hid (pairE c l k = 0) := by show _ = _; rw [H5.out, if_neg (by rw [HO.out]; decide), if_neg (by rw [← HS.out, c1, c2]; decide)]
                            have hs6 := hb6.size
                            go_wp2_with (first | (at_builtin; go_loud (refine wpList_push _ rfl _ _ 150 rfl w.heap.size 153 i0 zeroSd 2 24 Tryz.underlying150 hi0 hz0 hz1 hz2 rfl (by decide) sdEnc_ok _ (sideTo l k) rfl hown6 _ 2 2 (sideL l[k]) rfl hrdS6 (by intro h; cases h) (by rw [HSL.out]; simp only [maxLen]; omega) (by rw [HSL.out]; omega) (by omega) ?_); intro v' w7 hown7 hg7 hat7))
                            go_roundw
                            case rel => exact ⟨k + 1, by omega, by go_num, by rw [firstE_succ HTo.out]; exact HZ.out, by rw [sideTo_succ hkl]; exact hown7, (hbr.trans (hb6.mono hsz)).grown hg7 (by omega) (fun q e => (hown6.block q e).1)⟩
                            case measure => simp [intOf]; omega
        · have HF : Hid (pairsE c l = 0) := by show _ = _; rw [pairsE_3 HC.out H20.out, Hn.out, show n = k by omega]; exact HTo.out
          go_wp2_with fail
          go_ret
          exact ⟨by rw [HF.out]; rfl, hbr⟩
  · have HF := hide (pairsE_1 (l := l) he)
    have HE := hide he
    clear he hn
    go_enter Tryz.func41, Tryz.ntmps41
    go_wp2_with fail
    refine (check_bad c _ _ _ _ hcl hcc hc hcok HE.out).mono ?_
    rintro e w1 ⟨rfl, hb1⟩
    go_wp2_with fail
    go_ret
    exact ⟨by rw [HF.out, errV_n HE.out]; rfl, hb1⟩
end Go.Proofs.YthmjkhlndphldaaGreatDoor
