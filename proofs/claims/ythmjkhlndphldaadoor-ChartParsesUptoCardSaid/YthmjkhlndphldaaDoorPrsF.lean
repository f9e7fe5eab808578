/- dayref1.Parse: what it returns. -/
import Derived.Test.YthmjkhlndphldaaDoorPrsA
import Derived.Test.YthmjkhlndphldaaDoorRefD
import Derived.StillTailTactics
namespace Go.Proofs.YthmjkhlndphldaaDoor
open Go Go.RowKit
set_option linter.unusedVariables false

theorem acc_inf3 : (Tryd.prog.info? 29).map (fun i => (i.zero, i.size, i.bytes)) = some (some (.agg #[.string ⟨#[]⟩, .string ⟨#[]⟩, .int .i64 0, .string ⟨#[]⟩, .bool false]), 5, 64) := by kernel_rfl
theorem accEncR : Enc 5 Acc.enc := ⟨fun _ => rfl, by
  intro a u hu
  simp only [Acc.enc, List.mem_cons, List.not_mem_nil, or_false] at hu
  rcases hu with rfl | rfl | rfl | rfl | rfl <;> rfl⟩
/-- what is so at the head of a round -/
def QRel (ps : List (List UInt8)) (acc : List Acc) (i : Nat) : Prop :=
  (i < ps.length ∧ acc.length = i ∧ i ≤ 60 ∧ AccOk acc ∧ parseR ps [] = parseR (ps.drop i) acc) ∨ (i = ps.length ∧ parseR ps [] = (acc, 0, 0))

theorem none_or3 {o : Option Nat} {r : Nat} (h : ∀ b, o = some b → b ≠ r) : o = none ∨ o ≠ some r := by
  cases o with
  | none => exact .inl rfl
  | some b => exact .inr fun e => h b rfl (by injection e)
theorem accok_snoc {l : List Acc} {a : Acc} (h : AccOk l) (h1 : a.code.size ≤ 9223372036854775807) (h2 : a.name.size ≤ 9223372036854775807) : AccOk (l ++ [a]) := by
  intro i hi
  by_cases e : i < l.length
  · rw [List.getElem_append_left e]; exact h i e
  · have : i = l.length := by rw [List.length_append, List.length_singleton] at hi; omega
    subst this
    rw [List.getElem_append_right (Nat.le_refl _)]
    simp only [Nat.sub_self, List.getElem_cons_zero]
    exact ⟨h1, h2⟩
theorem no_parent {c n k m p : List UInt8} (hp : p ≠ [45]) (hd : digitsB (bs p) 6 = false) : lineA [c, n, k, m, p] = none := by
  show (if _ then _ else _) = _
  by_cases h1 : kindOf k = 0
  · rw [if_pos h1]
  · rw [if_neg h1]
    by_cases h2 : m ≠ [109] ∧ m ≠ [45]
    · rw [if_pos h2]
    · rw [if_neg h2, if_neg hp, if_pos hd]
theorem step_none {ps : List (List UInt8)} {acc : List Acc} {i : Nat} (hi : i < ps.length) {x : List UInt8} (hx : x = ps[i]) (hl : i + 1 ≠ ps.length) (hq : parseR ps [] = parseR (ps.drop i) acc) (h : lineA (cutL 32 x) = none) : parseR ps [] = ([], (acc.length : Int), 2) := by
  have hne : ps.drop (i + 1) ≠ [] := fun e => by have := congrArg List.length e; rw [List.length_drop] at this; simp at this; omega
  rw [hq, List.drop_eq_getElem_cons hi, parse_two _ hne, ← hx, h]
theorem step_some {ps : List (List UInt8)} {acc : List Acc} {i : Nat} (hi : i < ps.length) {x : List UInt8} (hx : x = ps[i]) (hl : i + 1 ≠ ps.length) (hq : parseR ps [] = parseR (ps.drop i) acc) {a : Acc} (h : lineA (cutL 32 x) = some a) :
    parseR ps [] = if acc.length = 60 then ([], (acc.length : Int), 4) else if accF acc a = 0 then parseR (ps.drop (i + 1)) (acc ++ [a]) else ([], (acc.length : Int), accF acc a) := by
  have hne : ps.drop (i + 1) ≠ [] := fun e => by have := congrArg List.length e; rw [List.length_drop] at this; simp at this; omega
  rw [hq, List.drop_eq_getElem_cons hi, parse_two _ hne, ← hx, h]
theorem line_not5 {w : List (List UInt8)} (h : w.length ≠ 5) : lineA w = none := by
  unfold lineA
  split
  · exact absurd rfl h
  · rfl

theorem none_or2 (o : Option Nat) : o = none ∨ o ≠ none := by cases o <;> simp
theorem own_weak {α : Type} {w : World} {B B' e sz : Nat} {enc : α → List Value} {v : Value} {l : List α} (h : Own w B e sz enc v l) (hB : B' ≤ B) : Own w B' e sz enc v l := by
  refine ⟨h.1, ?_⟩
  rcases h.2 with h2 | ⟨g, cap, cur, h3, h4, h5⟩
  · exact .inl h2
  · exact .inr ⟨g, cap, cur, h3, Nat.le_trans hB h4, h5⟩
/-- the kind behind the rounds ahead of k -/
def kTo (kk : List UInt8) (k : Nat) : Int := if kindOf kk < (k : Int) then kindOf kk else 0
theorem kTo_hit {kk : List UInt8} {k : Nat} (h : kindOf kk = (k : Int)) : kTo kk (k + 1) = (k : Int) := by unfold kTo; rw [if_pos (by omega), h]
theorem kTo_miss {kk : List UInt8} {k : Nat} (h : kindOf kk ≠ (k : Int)) : kTo kk (k + 1) = kTo kk k := by
  unfold kTo
  by_cases e : kindOf kk < (k : Int)
  · rw [if_pos e, if_pos (by omega)]
  · rw [if_neg e, if_neg (by omega)]
theorem kind_range (kk : List UInt8) : 0 ≤ kindOf kk ∧ kindOf kk ≤ 5 := by
  by_cases h : kindOf kk = 0
  · omega
  · rcases kindOf_cases h with ⟨_, e⟩ | ⟨_, e⟩ | ⟨_, e⟩ | ⟨_, e⟩ | ⟨_, e⟩ <;> omega
theorem kTo_one (kk : List UInt8) : kTo kk 1 = 0 := by
  have := kind_range kk
  unfold kTo
  split <;> omega
theorem kTo_six (kk : List UInt8) : kTo kk 6 = kindOf kk := by
  have := kind_range kk
  unfold kTo
  rw [if_pos (by omega)]
theorem kind_iff {kk : List UInt8} {k : Nat} (h1 : 1 ≤ k) (h2 : k ≤ 5) : kk = letterB (k : Int) ↔ kindOf kk = (k : Int) := by
  constructor
  · rintro rfl; exact (kind_letter (by omega) (by omega)).1
  · intro h
    have := letter_kind (k := kk) (by omega)
    rw [h] at this; exact this.symm
def aleix : ByteArray := ⟨#[45, 65, 76, 69, 73, 88]⟩
theorem aleix_at (k : Nat) : (aleix.extract k (k + 1)).toList = letterB (k : Int) := by
  rw [ByteArray.toList_eq]
  unfold letterB
  rw [Int.toNat_natCast]; rfl
/-- the account under way -/
def accRow (c n : List UInt8) (kd : Int) (par : ByteArray) (mo : Bool) : Nat → Value := fun j => #[Value.string (bs c), .string (bs n), .int .i64 kd, .string par, .bool mo].getD j undef

set_option maxRecDepth 100000 in
set_option maxHeartbeats 4000000 in
theorem refParse_any (s : ByteArray) (w : World) (hs : s.size ≤ 4294967280) : Calls Tryd.prog 37 #[.string s] w fun e w' => ∃ v, e = .returned (.tuple #[v, .int .i64 (parseR (cutL 10 s.data.toList) []).2.1, .int .i64 (parseR (cutL 10 s.data.toList) []).2.2]) ∧
    Own w' w.heap.size 29 5 Acc.enc v (parseR (cutL 10 s.data.toList) []).1 ∧ Below w.heap.size w w' := by
  obtain ⟨i0, hi0, hz0, hz1, hz2⟩ := info_parts acc_inf3
  have HS := hide hs
  clear hs
  have hpp := cutL_part (c := 10) s.data.toList
  have hpl := cutL_len (c := 10) s.data.toList
  have hp0 := cutL_ne (c := 10) s.data.toList
  rw [← Lib.size_eq] at hpp hpl
  have hcut := refCut_any s 10 w (by have := HS.out; omega)
  obtain ⟨ps, hps⟩ : ∃ ps, ps = cutL 10 s.data.toList := ⟨_, rfl⟩
  rw [← hps] at hcut hpp hpl hp0 ⊢
  go_enter Tryd.func37, Tryd.ntmps37
  go_wp2_with fail
  refine hcut.mono ?_
  rintro e w1 ⟨v6, rfl, hown1, hb1⟩
  obtain ⟨LA, lc, rfl, hlc, hlm⟩ := hown1.form
  have hls := hown1.rd strEnc_ok
  rw [List.length_map] at hls hlc ⊢
  have hln : 0 < ps.length := by cases ps with | nil => exact absurd rfl hp0 | cons _ _ => simp
  have HPL : Hid (ps.length ≤ 4294967281) := by have := HS.out; show _ ≤ _; omega
  clear hps hown1 hpl hp0 hcut
  go_wp2_with fail
  go_loopw [5, 7] (fun lv iv wr => ∃ (acc : List Acc) (i : Nat), iv = .int .i64 i ∧ QRel ps acc i ∧ Own wr w1.heap.size 29 5 Acc.enc lv acc ∧ Below w1.heap.size w1 wr) (fun _ iv _ => ps.length - (intOf iv).toNat)
  case atStart => exact ⟨[], 0, rfl, .inl ⟨hln, rfl, by omega, fun i h => by simp at h, rfl⟩, Own.nil _ _ _ _ _, Below.refl _ _⟩
  case round =>
    obtain ⟨acc, i, rfl, hq, hown, hbr⟩ := hrel
    rcases hq with ⟨hi, hal, hi60, haok, hq⟩ | ⟨hi, hq⟩
    · have k0 : (0 : Int) ≤ (i : Int) := by omega
      have k1 : (i : Int) < (ps.length : Int) := by omega
      have HI := hide hi
      have HQ := hide hq
      obtain ⟨b0, off, rfl, hcs⟩ := (Rd.below hls hbr).2 hln
      have q0 := hcs i 0 (.string (bs ps[i])) (by rw [List.length_map]; exact hi) (by rw [List.getElem_map]; rfl)
      rw [Nat.mul_one, Nat.add_zero] at q0
      clear hcs
      obtain ⟨pi, hpi⟩ : ∃ x, x = ps[i] := ⟨_, rfl⟩
      have HPI := hide hpi
      have hpi2 := hpp ps[i] (List.getElem_mem _)
      rw [← hpi] at q0 hpi2
      have HPS : Hid (pi.length ≤ 4294967280) := by have := hpi2; have := HS.out; show _ ≤ _; omega
      have hw1 : wrap64 ((ps.length : Int) - 1) = (ps.length : Int) - 1 := by have := HPL.out; unfold wrap64; omega
      by_cases hlast : i + 1 = ps.length
      · have hb : ((i : Int) == (ps.length : Int) - 1) = true := by rw [beq_iff_eq]; omega
        have hdrop : ps.drop i = [pi] := by rw [List.drop_eq_getElem_cons hi, List.drop_of_length_le (by omega)]; exact congrArg (fun x => [x]) hpi.symm
        by_cases he : pi = []
        · have HF : Hid (parseR ps [] = (acc, 0, 0)) := by
            show _ = _
            rw [HQ.out, hdrop, he]; rfl
          have he1 : ((bs pi).toList == []) = true := by rw [bs_toList, he]; rfl
          clear hdrop he hq hi hal haok hpi hpi2
          go_wp2_with fail
          go_roundw
          case rel => exact ⟨acc, i + 1, by go_num, .inr ⟨hlast, HF.out⟩, hown, hbr⟩
          case measure => have := HI.out; simp [intOf]; omega
        · have HF : Hid (parseR ps [] = ([], (i : Int), 2)) := by
            show _ = _
            rw [HQ.out, hdrop, parse_end he, hal]
          have he1 : ((bs pi).toList == []) = false := by rw [bs_toList, beq_eq_false_iff_ne]; exact he
          clear hdrop he hq hi hal haok hpi hpi2
          go_wp2_with fail
          refine (refCut_any (bs pi) 32 _ (by have := HPS.out; rw [bs_size]; omega)).mono ?_
          rintro e w3 ⟨v9, rfl, hown9, hb3⟩
          go_wp2_with fail
          go_ret3
          exact ⟨.slice none 0 0, by rw [HF.out]; rfl, by rw [HF.out]; exact Own.nil _ _ _ _ _, bthen hb1 (Nat.le_refl _) (bthen hbr (Nat.le_refl _) hb3)⟩
      · have hb : ((i : Int) == (ps.length : Int) - 1) = false := by rw [beq_eq_false_iff_ne]; omega
        have HW := hide hq
        have hcut2 := (refCut_any (bs pi) 32 wr (by have := HPS.out; rw [bs_size]; omega))
        clear hq HQ hpi2 hpi
        by_cases h5 : (cutL 32 pi).length = 5
        · obtain ⟨c, n, k, m, p, hw⟩ : ∃ c n k m p, cutL 32 pi = [c, n, k, m, p] := by
            generalize cutL 32 pi = l at h5
            rcases l with _ | ⟨a, _ | ⟨b, _ | ⟨c, _ | ⟨d, _ | ⟨e, _ | ⟨f, l⟩⟩⟩⟩⟩⟩ <;> simp at h5
            exact ⟨a, b, c, d, e, rfl⟩
          rw [bs_data, hw] at hcut2
          have Hw := hide hw
          clear h5 hw
          go_wp2_with fail
          refine hcut2.mono ?_
          rintro e w3 ⟨v9, rfl, hown9, hb3⟩
          obtain ⟨A9, c9, rfl, hc9, hm9⟩ := hown9.form
          have hr9 := hown9.rd strEnc_ok
          obtain ⟨b9, o9, rfl, hs9⟩ := hr9.2 (by simp)
          have d0 : w3.cell? ⟨b9, o9, none⟩ = some (.string (bs c)) := by have := hs9 0 0 (.string (bs c)) (by simp) rfl; simpa using this
          have d1 : w3.cell? ⟨b9, o9 + 1, none⟩ = some (.string (bs n)) := by have := hs9 1 0 (.string (bs n)) (by simp) rfl; simpa using this
          have d2 : w3.cell? ⟨b9, o9 + 2, none⟩ = some (.string (bs k)) := by have := hs9 2 0 (.string (bs k)) (by simp) rfl; simpa using this
          have d3 : w3.cell? ⟨b9, o9 + 3, none⟩ = some (.string (bs m)) := by have := hs9 3 0 (.string (bs m)) (by simp) rfl; simpa using this
          have d4 : w3.cell? ⟨b9, o9 + 4, none⟩ = some (.string (bs p)) := by have := hs9 4 0 (.string (bs p)) (by simp) rfl; simpa using this
          clear hs9 hr9 hown9
          have hlen5 : (List.map bs [c, n, k, m, p]).length = 5 := rfl
          rw [hlen5] at hc9 ⊢
          cases hmo : decide (m = [109]) with
          | true =>
            have hm1 : ((bs m).toList == [109]) = true := by rw [bs_toList, of_decide_eq_true hmo]; rfl
            have HM := hide (of_decide_eq_true hmo)
            clear hmo
            go_wp2_with fail
            have hn9 : b9 < w3.heap.size := World.block_lt_of_cell? _ _ d0
            have hz3 := (Below.refl w3.heap.size w3).alloc (Nat.le_refl _) (.cells #[.string ⟨#[]⟩, .string ⟨#[]⟩, .int .i64 0, .string ⟨#[]⟩, .bool false] 29)
            have e0 := below_cell hz3 hn9 d0
            have e1 := below_cell hz3 hn9 d1
            have e3 := below_cell hz3 hn9 d3
            go_region
            clear e0 e1 e3 hz3
            obtain ⟨w4, hw4⟩ : ∃ w4, w4 = (w3.alloc (.cells #[.string (bs c), .string (bs n), .int .i64 0, .string ⟨#[]⟩, .bool true] 29)).drew := ⟨_, rfl⟩
            rw [← hw4]
            have hg4 : w3.grownBy w4 none := by rw [hw4]; exact only_drewN (World.grownBy_alloc w3 _ none) 1
            have hr4 : VRow w4 w3.heap.size 29 5 (accRow c n (kTo k 1) ⟨#[]⟩ true) := by
              rw [hw4, kTo_one]; exact heap_alloc_new w3 _
            have hz4 : w3.heap.size < w4.heap.size := hr4.lt
            have hown4 := (hown.below hb3).grown hg4 (none_or2 _)
            have hb14 : Below w1.heap.size w1 w4 := (bthen hbr (Nat.le_refl _) hb3).grown hg4 (Nat.le_trans hbr.size hb3.size) (fun k e => by cases e)
            have hog : ∀ b, u5.ownBlock = some b → b < w3.heap.size := fun b e => ((hown.below hb3).block b e).2
            have hw3 := Nat.le_trans hbr.size hb3.size
            clear hw4 hown hbr hb3 q0 hcut2
            go_wp2_with fail
            go_loopw [11] (fun kv wk => ∃ j : Nat, 1 ≤ j ∧ j ≤ 6 ∧ kv = .int .i64 j ∧ VRow wk w3.heap.size 29 5 (accRow c n (kTo k j) ⟨#[]⟩ true) ∧ w4.grownBy wk (some w3.heap.size)) (fun kv _ => 6 - (intOf kv).toNat)
            case atStart => exact ⟨1, by omega, by omega, rfl, hr4, only_refl _ _⟩
            case round =>
              obtain ⟨j, hj1, hj6, rfl, hrk, hgk⟩ := hrel
              have hg3k : ∀ o u, w3.cell? ⟨b9, o, none⟩ = some u → wr.cell? ⟨b9, o, none⟩ = some u := fun o u h => hgk.cell (hg4.cell h (by simp)) (fun (e : some b9 = some w3.heap.size) => by injection e with e; omega)
              by_cases hlt : j < 6
              · have k0' : (0 : Int) ≤ (j : Int) := by omega
                have k1' : (j : Int) < 6 := by omega
                have k2' : (j : Int) ≤ (j : Int) + 1 := by omega
                have d2' := hg3k _ _ d2
                have ck := hrk.cell 2 (by omega)
                have fk := hrk.frozen 2
                by_cases he : k = letterB (j : Int)
                · have hb2 : ((bs k).toList == (ByteArray.extract ⟨#[45, 65, 76, 69, 73, 88]⟩ j (j + 1)).toList) = true := by rw [show (ByteArray.extract ⟨#[45, 65, 76, 69, 73, 88]⟩ j (j + 1)).toList = _ from aleix_at j, bs_toList, beq_iff_eq]; exact he
                  have HK := hide (kTo_hit ((kind_iff hj1 (by omega)).1 he))
                  clear he hg3k
                  go_wp2_with fail
                  go_quiet (fail)
                  go_wp2_with fail
                  go_roundw
                  case rel =>
                    refine ⟨j + 1, by omega, by omega, by go_num, ?_, only_setCell (only_drewN hgk nq) 2 _⟩
                    exact ((hrk.drewN nq).set_ 2 (.int .i64 (j : Int))).congr (fun q hq => by rw [HK.out]; rcases (show q = 0 ∨ q = 1 ∨ q = 2 ∨ q = 3 ∨ q = 4 by omega) with rfl | rfl | rfl | rfl | rfl <;> rfl)
                  case measure => simp [intOf]; omega
                · have hb2 : ((bs k).toList == (ByteArray.extract ⟨#[45, 65, 76, 69, 73, 88]⟩ j (j + 1)).toList) = false := by rw [show (ByteArray.extract ⟨#[45, 65, 76, 69, 73, 88]⟩ j (j + 1)).toList = _ from aleix_at j, bs_toList, beq_eq_false_iff_ne]; exact he
                  have HK := hide (kTo_miss (fun e => he ((kind_iff hj1 (by omega)).2 e)))
                  clear he hg3k
                  go_wp2_with fail
                  go_quiet (fail)
                  go_wp2_with fail
                  go_roundw
                  case rel => exact ⟨j + 1, by omega, by omega, by go_num, by rw [HK.out]; exact hrk.drewN nq, only_drewN hgk nq⟩
                  case measure => simp [intOf]; omega
              · have hj : j = 6 := by omega
                subst hj
                rw [kTo_six] at hrk
                have d4' := hg3k _ _ d4
                clear hg3k hr4 hlt hj1 hj6
                by_cases hp : p = [45]
                · have hp1 : ((bs p).toList == [45]) = true := by rw [bs_toList, hp]; rfl
                  obtain ⟨WX, hWX⟩ : ∃ WX, WX = wr := ⟨_, rfl⟩
                  have hrX := hrk
                  have hgX := hgk
                  rw [← hWX] at hrX hgX d4' ⊢
                  have HPP := hide hp
                  clear hrk hgk hWX hp
                  have hbF : Below w1.heap.size w1 WX := hb14.grown hgX (Nat.le_trans hw3 (Nat.le_of_lt hz4)) (fun q e => by injection e with e; omega)
                  have c0 : WX.cell? ⟨w3.heap.size, 0, none⟩ = some (.string (bs c)) := hrX.cell 0 (by omega)
                  have c1 : WX.cell? ⟨w3.heap.size, 1, none⟩ = some (.string (bs n)) := hrX.cell 1 (by omega)
                  have c2 : WX.cell? ⟨w3.heap.size, 2, none⟩ = some (.int .i64 (kindOf k)) := hrX.cell 2 (by omega)
                  have c3 : WX.cell? ⟨w3.heap.size, 3, none⟩ = some (.string (⟨#[]⟩)) := hrX.cell 3 (by omega)
                  have c4 : WX.cell? ⟨w3.heap.size, 4, none⟩ = some (.bool true) := hrX.cell 4 (by omega)
                  have d3X : WX.cell? ⟨b9, o9 + 3, none⟩ = some (.string (bs m)) := hgX.cell (hg4.cell d3 (by simp)) (fun (e : some b9 = some w3.heap.size) => by injection e with e; omega)
                  by_cases hk0 : kindOf k = 0
                  · have HF : Hid (parseR ps [] = ([], (i : Int), 2)) := by
                      show _ = _
                      rw [step_none HI.out HPI.out hlast HW.out (by rw [Hw.out]; exact if_pos hk0), hal]
                    have hk0b : (kindOf k == 0) = true := by rw [beq_iff_eq]; exact hk0
                    clear hk0
                    go_wp2_with fail
                    go_ret3
                    exact ⟨.slice none 0 0, by rw [HF.out]; rfl, by rw [HF.out]; exact Own.nil _ _ _ _ _, bthen hb1 (Nat.le_refl _) hbF⟩
                  · have hk0b : (kindOf k == 0) = false := by rw [beq_eq_false_iff_ne]; exact hk0
                    have hl : lineA (cutL 32 pi) = some ⟨bs c, bs n, kindOf k, ⟨#[]⟩, true⟩ := by
                      rw [Hw.out]
                      show (if _ then _ else _) = _
                      rw [if_neg hk0, if_neg (fun h => by exact h.1 HM.out), show decide (m = [109]) = true from decide_eq_true HM.out]
                      rw [if_pos HPP.out]
                    have hcz := cutL_part (c := 32) pi c (by rw [Hw.out]; simp)
                    have hnz := cutL_part (c := 32) pi n (by rw [Hw.out]; simp)
                    have hpz := HPS.out
                    have HS2 := hide (step_some HI.out HPI.out hlast HW.out hl)
                    clear hl hk0
                    by_cases h60 : i = 60
                    · have HF : Hid (parseR ps [] = ([], 60, 4)) := by
                        show _ = _
                        rw [HS2.out, if_pos (by omega), hal, h60]; rfl
                      have HF2 : Hid (parseR ps [] = ([], (i : Int), 4)) := by
                        show _ = _
                        rw [HS2.out, if_pos (by omega), hal]
                      have h60b : ((i : Int) == 60) = true := by rw [beq_iff_eq]; omega
                      go_wp2_with fail
                      go_ret3
                      exact ⟨.slice none 0 0, by first | (rw [HF.out]; rfl) | (rw [HF2.out]; rfl), by rw [HF.out]; exact Own.nil _ _ _ _ _, bthen hb1 (Nat.le_refl _) hbF⟩
                    · have h60b : ((i : Int) == 60) = false := by rw [beq_eq_false_iff_ne]; omega
                      have HP0 : Hid (parseR ps [] = if accF acc (⟨bs c, bs n, kindOf k, ⟨#[]⟩, true⟩ : Acc) = 0 then parseR (ps.drop (i + 1)) (acc ++ [(⟨bs c, bs n, kindOf k, ⟨#[]⟩, true⟩ : Acc)]) else ([], (acc.length : Int), accF acc (⟨bs c, bs n, kindOf k, ⟨#[]⟩, true⟩ : Acc))) := by
                        show _ = _
                        rw [HS2.out, if_neg (by omega)]
                      have hownX : Own WX w1.heap.size 29 5 Acc.enc u5 acc := hown4.grown hgX (none_or3 (fun b e => by have := hog b e; omega))
                      have hal2 : acc.length < 60 := by omega
                      have hXs : w1.heap.size ≤ WX.heap.size := hbF.size
                      have haok6 : AccOk (acc ++ [(⟨bs c, bs n, kindOf k, ⟨#[]⟩, true⟩ : Acc)]) := accok_snoc haok (by rw [bs_size]; omega) (by rw [bs_size]; omega)
                      clear h60 HS2
                      go_wp2_with (at_builtin; go_loud (refine wpList_push _ rfl _ _ 22 rfl w1.heap.size 29 i0 (.agg #[.string ⟨#[]⟩, .string ⟨#[]⟩, .int .i64 0, .string ⟨#[]⟩, .bool false]) 5 64 Tryd.underlying22 hi0 hz0 hz1 hz2 rfl (by decide) accEncR _ acc rfl (hownX.alloc _) _ 1 1 [(⟨bs c, bs n, kindOf k, ⟨#[]⟩, true⟩ : Acc)] rfl (Rd.boxed _ accEncR (⟨bs c, bs n, kindOf k, ⟨#[]⟩, true⟩ : Acc) _ _ rfl) (by intro h; cases h) (by simp only [maxLen]; omega) (by omega) (by simp; omega) ?_); intro v' w5 hown5 hg5 hat5; obtain ⟨A5, c5, rfl, hc5, hm5⟩ := hown5.form)
                      have hlen : (acc ++ [(⟨bs c, bs n, kindOf k, ⟨#[]⟩, true⟩ : Acc)]).length = i + 1 := by rw [List.length_append, hal]; rfl
                      have hE : accE (acc ++ [(⟨bs c, bs n, kindOf k, ⟨#[]⟩, true⟩ : Acc)]) i = accF acc (⟨bs c, bs n, kindOf k, ⟨#[]⟩, true⟩ : Acc) := by rw [← hal]; exact accE_last _ _
                      have hrd5 := hown5.rd accEncR
                      have hb5 : Below w1.heap.size w1 w5 := bpush hbF hXs hg5 (fun q hq => (hownX.block q hq).1)
                      rw [hlen] at hc5 hrd5
                      have hacc := refAccount_any (acc ++ [(⟨bs c, bs n, kindOf k, ⟨#[]⟩, true⟩ : Acc)]) A5 (i + 1) c5 i w5 (by omega) hc5 hrd5 haok6 (by omega)
                      rw [hE] at hacc
                      obtain ⟨ev, hev⟩ : ∃ ev, ev = accF acc (⟨bs c, bs n, kindOf k, ⟨#[]⟩, true⟩ : Acc) := ⟨_, rfl⟩
                      rw [← hev] at hacc HP0
                      clear hE hev hrd5 hg5 hat5 hownX
                      refine hacc.mono ?_
                      rintro e w6 ⟨rfl, hb6⟩
                      have hown6 := hown5.below hb6
                      have hb16 := bthen hb5 (Nat.le_refl _) hb6
                      clear hacc hown5 hb5
                      by_cases he : ev = 0
                      · have HP := hide (HP0.out.trans (if_pos he))
                        have heb : (ev != 0) = false := by rw [bne_eq_false_iff_eq]; exact he
                        clear he
                        go_wp2_with fail
                        go_roundw
                        case rel => exact ⟨acc ++ [(⟨bs c, bs n, kindOf k, ⟨#[]⟩, true⟩ : Acc)], i + 1, by go_num, .inl ⟨by have := HI.out; omega, hlen, by omega, haok6, HP.out⟩, by rw [hlen] at hown6; exact hown6, hb16⟩
                        case measure => have := HI.out; simp [intOf]; omega
                      · have HF : Hid (parseR ps [] = ([], (i : Int), ev)) := by
                          show _ = _
                          rw [HP0.out, if_neg he, hal]
                        have heb : (ev != 0) = true := by rw [bne_iff_ne]; exact he
                        have hbF := hb16
                        clear he
                        go_wp2_with fail
                        go_ret3
                        exact ⟨.slice none 0 0, by rw [HF.out]; rfl, by rw [HF.out]; exact Own.nil _ _ _ _ _, bthen hb1 (Nat.le_refl _) hbF⟩

                · have hp1 : ((bs p).toList == [45]) = false := by rw [bs_toList, beq_eq_false_iff_ne]; exact hp
                  have f3' := hrk.frozen 3
                  have c3' := hrk.cell 3 (by omega)
                  have hps9 : (bs p).size ≤ 9223372036854775807 := by
                    have h1 := cutL_part (c := 32) pi p (by rw [Hw.out]; simp)
                    have h2 := HPS.out
                    rw [bs_size]; omega
                  have hd := refDigits_any (bs p) 6
                  cases hdg : digitsB (bs p) 6 with
                  | false =>
                    rw [hdg] at hd
                    have HF : Hid (parseR ps [] = ([], (i : Int), 2)) := by
                      show _ = _
                      rw [step_none HI.out HPI.out hlast HW.out (by rw [Hw.out]; exact no_parent hp hdg), hal]
                    clear hdg hp
                    go_wp2_with fail
                    refine (hd _ hps9).mono ?_
                    rintro e w6 ⟨rfl, hw6⟩
                    subst hw6
                    have hbF : Below w1.heap.size w1 (wr.setCell ⟨w3.heap.size, 3, none⟩ (.string (bs p))) := hb14.grown (only_setCell hgk 3 _) (Nat.le_trans hw3 (Nat.le_of_lt hz4)) (fun q e => by injection e with e; omega)
                    go_wp2_with fail
                    go_ret3
                    exact ⟨.slice none 0 0, by rw [HF.out]; rfl, by rw [HF.out]; exact Own.nil _ _ _ _ _, bthen hb1 (Nat.le_refl _) hbF⟩
                  | true =>
                    rw [hdg] at hd
                    have HDG := hide hdg
                    have HPN := hide hp
                    clear hdg hp
                    have hrY := (hrk.set_ 3 (.string (bs p))).congr (F' := accRow c n (kindOf k) (bs p) true) (fun q hq => by rcases (show q = 0 ∨ q = 1 ∨ q = 2 ∨ q = 3 ∨ q = 4 by omega) with rfl | rfl | rfl | rfl | rfl <;> rfl)
                    have hgY := only_setCell hgk 3 (.string (bs p))
                    go_wp2_with fail
                    refine (hd _ hps9).mono ?_
                    rintro e w6 ⟨rfl, hw6⟩
                    subst hw6
                    obtain ⟨WX, hWX⟩ : ∃ WX, WX = wr.setCell ⟨w3.heap.size, 3, none⟩ (.string (bs p)) := ⟨_, rfl⟩
                    have hrX := hrY
                    have hgX := hgY
                    rw [← hWX] at hrX hgX ⊢
                    clear hrk hgk hWX hrY hgY c3' f3' hd d4'
                    have hbF : Below w1.heap.size w1 WX := hb14.grown hgX (Nat.le_trans hw3 (Nat.le_of_lt hz4)) (fun q e => by injection e with e; omega)
                    have c0 : WX.cell? ⟨w3.heap.size, 0, none⟩ = some (.string (bs c)) := hrX.cell 0 (by omega)
                    have c1 : WX.cell? ⟨w3.heap.size, 1, none⟩ = some (.string (bs n)) := hrX.cell 1 (by omega)
                    have c2 : WX.cell? ⟨w3.heap.size, 2, none⟩ = some (.int .i64 (kindOf k)) := hrX.cell 2 (by omega)
                    have c3 : WX.cell? ⟨w3.heap.size, 3, none⟩ = some (.string (bs p)) := hrX.cell 3 (by omega)
                    have c4 : WX.cell? ⟨w3.heap.size, 4, none⟩ = some (.bool true) := hrX.cell 4 (by omega)
                    have d3X : WX.cell? ⟨b9, o9 + 3, none⟩ = some (.string (bs m)) := hgX.cell (hg4.cell d3 (by simp)) (fun (e : some b9 = some w3.heap.size) => by injection e with e; omega)
                    by_cases hk0 : kindOf k = 0
                    · have HF : Hid (parseR ps [] = ([], (i : Int), 2)) := by
                        show _ = _
                        rw [step_none HI.out HPI.out hlast HW.out (by rw [Hw.out]; exact if_pos hk0), hal]
                      have hk0b : (kindOf k == 0) = true := by rw [beq_iff_eq]; exact hk0
                      clear hk0
                      go_wp2_with fail
                      go_ret3
                      exact ⟨.slice none 0 0, by rw [HF.out]; rfl, by rw [HF.out]; exact Own.nil _ _ _ _ _, bthen hb1 (Nat.le_refl _) hbF⟩
                    · have hk0b : (kindOf k == 0) = false := by rw [beq_eq_false_iff_ne]; exact hk0
                      have hl : lineA (cutL 32 pi) = some ⟨bs c, bs n, kindOf k, bs p, true⟩ := by
                        rw [Hw.out]
                        show (if _ then _ else _) = _
                        rw [if_neg hk0, if_neg (fun h => by exact h.1 HM.out), show decide (m = [109]) = true from decide_eq_true HM.out]
                        rw [if_neg HPN.out, if_neg (by rw [HDG.out]; decide)]
                      have hcz := cutL_part (c := 32) pi c (by rw [Hw.out]; simp)
                      have hnz := cutL_part (c := 32) pi n (by rw [Hw.out]; simp)
                      have hpz := HPS.out
                      have HS2 := hide (step_some HI.out HPI.out hlast HW.out hl)
                      clear hl hk0
                      by_cases h60 : i = 60
                      · have HF : Hid (parseR ps [] = ([], 60, 4)) := by
                          show _ = _
                          rw [HS2.out, if_pos (by omega), hal, h60]; rfl
                        have HF2 : Hid (parseR ps [] = ([], (i : Int), 4)) := by
                          show _ = _
                          rw [HS2.out, if_pos (by omega), hal]
                        have h60b : ((i : Int) == 60) = true := by rw [beq_iff_eq]; omega
                        go_wp2_with fail
                        go_ret3
                        exact ⟨.slice none 0 0, by first | (rw [HF.out]; rfl) | (rw [HF2.out]; rfl), by rw [HF.out]; exact Own.nil _ _ _ _ _, bthen hb1 (Nat.le_refl _) hbF⟩
                      · have h60b : ((i : Int) == 60) = false := by rw [beq_eq_false_iff_ne]; omega
                        have HP0 : Hid (parseR ps [] = if accF acc (⟨bs c, bs n, kindOf k, bs p, true⟩ : Acc) = 0 then parseR (ps.drop (i + 1)) (acc ++ [(⟨bs c, bs n, kindOf k, bs p, true⟩ : Acc)]) else ([], (acc.length : Int), accF acc (⟨bs c, bs n, kindOf k, bs p, true⟩ : Acc))) := by
                          show _ = _
                          rw [HS2.out, if_neg (by omega)]
                        have hownX : Own WX w1.heap.size 29 5 Acc.enc u5 acc := hown4.grown hgX (none_or3 (fun b e => by have := hog b e; omega))
                        have hal2 : acc.length < 60 := by omega
                        have hXs : w1.heap.size ≤ WX.heap.size := hbF.size
                        have haok6 : AccOk (acc ++ [(⟨bs c, bs n, kindOf k, bs p, true⟩ : Acc)]) := accok_snoc haok (by rw [bs_size]; omega) (by rw [bs_size]; omega)
                        clear h60 HS2
                        go_wp2_with (at_builtin; go_loud (refine wpList_push _ rfl _ _ 22 rfl w1.heap.size 29 i0 (.agg #[.string ⟨#[]⟩, .string ⟨#[]⟩, .int .i64 0, .string ⟨#[]⟩, .bool false]) 5 64 Tryd.underlying22 hi0 hz0 hz1 hz2 rfl (by decide) accEncR _ acc rfl (hownX.alloc _) _ 1 1 [(⟨bs c, bs n, kindOf k, bs p, true⟩ : Acc)] rfl (Rd.boxed _ accEncR (⟨bs c, bs n, kindOf k, bs p, true⟩ : Acc) _ _ rfl) (by intro h; cases h) (by simp only [maxLen]; omega) (by omega) (by simp; omega) ?_); intro v' w5 hown5 hg5 hat5; obtain ⟨A5, c5, rfl, hc5, hm5⟩ := hown5.form)
                        have hlen : (acc ++ [(⟨bs c, bs n, kindOf k, bs p, true⟩ : Acc)]).length = i + 1 := by rw [List.length_append, hal]; rfl
                        have hE : accE (acc ++ [(⟨bs c, bs n, kindOf k, bs p, true⟩ : Acc)]) i = accF acc (⟨bs c, bs n, kindOf k, bs p, true⟩ : Acc) := by rw [← hal]; exact accE_last _ _
                        have hrd5 := hown5.rd accEncR
                        have hb5 : Below w1.heap.size w1 w5 := bpush hbF hXs hg5 (fun q hq => (hownX.block q hq).1)
                        rw [hlen] at hc5 hrd5
                        have hacc := refAccount_any (acc ++ [(⟨bs c, bs n, kindOf k, bs p, true⟩ : Acc)]) A5 (i + 1) c5 i w5 (by omega) hc5 hrd5 haok6 (by omega)
                        rw [hE] at hacc
                        obtain ⟨ev, hev⟩ : ∃ ev, ev = accF acc (⟨bs c, bs n, kindOf k, bs p, true⟩ : Acc) := ⟨_, rfl⟩
                        rw [← hev] at hacc HP0
                        clear hE hev hrd5 hg5 hat5 hownX
                        refine hacc.mono ?_
                        rintro e w6 ⟨rfl, hb6⟩
                        have hown6 := hown5.below hb6
                        have hb16 := bthen hb5 (Nat.le_refl _) hb6
                        clear hacc hown5 hb5
                        by_cases he : ev = 0
                        · have HP := hide (HP0.out.trans (if_pos he))
                          have heb : (ev != 0) = false := by rw [bne_eq_false_iff_eq]; exact he
                          clear he
                          go_wp2_with fail
                          go_roundw
                          case rel => exact ⟨acc ++ [(⟨bs c, bs n, kindOf k, bs p, true⟩ : Acc)], i + 1, by go_num, .inl ⟨by have := HI.out; omega, hlen, by omega, haok6, HP.out⟩, by rw [hlen] at hown6; exact hown6, hb16⟩
                          case measure => have := HI.out; simp [intOf]; omega
                        · have HF : Hid (parseR ps [] = ([], (i : Int), ev)) := by
                            show _ = _
                            rw [HP0.out, if_neg he, hal]
                          have heb : (ev != 0) = true := by rw [bne_iff_ne]; exact he
                          have hbF := hb16
                          clear he
                          go_wp2_with fail
                          go_ret3
                          exact ⟨.slice none 0 0, by rw [HF.out]; rfl, by rw [HF.out]; exact Own.nil _ _ _ _ _, bthen hb1 (Nat.le_refl _) hbF⟩


          | false =>
            have hm1 : ((bs m).toList == [109]) = false := by rw [bs_toList, beq_eq_false_iff_ne]; exact of_decide_eq_false hmo
            have HM := hide (of_decide_eq_false hmo)
            clear hmo
            go_wp2_with fail
            have hn9 : b9 < w3.heap.size := World.block_lt_of_cell? _ _ d0
            have hz3 := (Below.refl w3.heap.size w3).alloc (Nat.le_refl _) (.cells #[.string ⟨#[]⟩, .string ⟨#[]⟩, .int .i64 0, .string ⟨#[]⟩, .bool false] 29)
            have e0 := below_cell hz3 hn9 d0
            have e1 := below_cell hz3 hn9 d1
            have e3 := below_cell hz3 hn9 d3
            go_region
            clear e0 e1 e3 hz3
            obtain ⟨w4, hw4⟩ : ∃ w4, w4 = (w3.alloc (.cells #[.string (bs c), .string (bs n), .int .i64 0, .string ⟨#[]⟩, .bool false] 29)).drew := ⟨_, rfl⟩
            rw [← hw4]
            have hg4 : w3.grownBy w4 none := by rw [hw4]; exact only_drewN (World.grownBy_alloc w3 _ none) 1
            have hr4 : VRow w4 w3.heap.size 29 5 (accRow c n (kTo k 1) ⟨#[]⟩ false) := by
              rw [hw4, kTo_one]; exact heap_alloc_new w3 _
            have hz4 : w3.heap.size < w4.heap.size := hr4.lt
            have hown4 := (hown.below hb3).grown hg4 (none_or2 _)
            have hb14 : Below w1.heap.size w1 w4 := (bthen hbr (Nat.le_refl _) hb3).grown hg4 (Nat.le_trans hbr.size hb3.size) (fun k e => by cases e)
            have hog : ∀ b, u5.ownBlock = some b → b < w3.heap.size := fun b e => ((hown.below hb3).block b e).2
            have hw3 := Nat.le_trans hbr.size hb3.size
            clear hw4 hown hbr hb3 q0 hcut2
            go_wp2_with fail
            go_loopw [11] (fun kv wk => ∃ j : Nat, 1 ≤ j ∧ j ≤ 6 ∧ kv = .int .i64 j ∧ VRow wk w3.heap.size 29 5 (accRow c n (kTo k j) ⟨#[]⟩ false) ∧ w4.grownBy wk (some w3.heap.size)) (fun kv _ => 6 - (intOf kv).toNat)
            case atStart => exact ⟨1, by omega, by omega, rfl, hr4, only_refl _ _⟩
            case round =>
              obtain ⟨j, hj1, hj6, rfl, hrk, hgk⟩ := hrel
              have hg3k : ∀ o u, w3.cell? ⟨b9, o, none⟩ = some u → wr.cell? ⟨b9, o, none⟩ = some u := fun o u h => hgk.cell (hg4.cell h (by simp)) (fun (e : some b9 = some w3.heap.size) => by injection e with e; omega)
              by_cases hlt : j < 6
              · have k0' : (0 : Int) ≤ (j : Int) := by omega
                have k1' : (j : Int) < 6 := by omega
                have k2' : (j : Int) ≤ (j : Int) + 1 := by omega
                have d2' := hg3k _ _ d2
                have ck := hrk.cell 2 (by omega)
                have fk := hrk.frozen 2
                by_cases he : k = letterB (j : Int)
                · have hb2 : ((bs k).toList == (ByteArray.extract ⟨#[45, 65, 76, 69, 73, 88]⟩ j (j + 1)).toList) = true := by rw [show (ByteArray.extract ⟨#[45, 65, 76, 69, 73, 88]⟩ j (j + 1)).toList = _ from aleix_at j, bs_toList, beq_iff_eq]; exact he
                  have HK := hide (kTo_hit ((kind_iff hj1 (by omega)).1 he))
                  clear he hg3k
                  go_wp2_with fail
                  go_quiet (fail)
                  go_wp2_with fail
                  go_roundw
                  case rel =>
                    refine ⟨j + 1, by omega, by omega, by go_num, ?_, only_setCell (only_drewN hgk nq) 2 _⟩
                    exact ((hrk.drewN nq).set_ 2 (.int .i64 (j : Int))).congr (fun q hq => by rw [HK.out]; rcases (show q = 0 ∨ q = 1 ∨ q = 2 ∨ q = 3 ∨ q = 4 by omega) with rfl | rfl | rfl | rfl | rfl <;> rfl)
                  case measure => simp [intOf]; omega
                · have hb2 : ((bs k).toList == (ByteArray.extract ⟨#[45, 65, 76, 69, 73, 88]⟩ j (j + 1)).toList) = false := by rw [show (ByteArray.extract ⟨#[45, 65, 76, 69, 73, 88]⟩ j (j + 1)).toList = _ from aleix_at j, bs_toList, beq_eq_false_iff_ne]; exact he
                  have HK := hide (kTo_miss (fun e => he ((kind_iff hj1 (by omega)).2 e)))
                  clear he hg3k
                  go_wp2_with fail
                  go_quiet (fail)
                  go_wp2_with fail
                  go_roundw
                  case rel => exact ⟨j + 1, by omega, by omega, by go_num, by rw [HK.out]; exact hrk.drewN nq, only_drewN hgk nq⟩
                  case measure => simp [intOf]; omega
              · have hj : j = 6 := by omega
                subst hj
                rw [kTo_six] at hrk
                have d4' := hg3k _ _ d4
                clear hg3k hr4 hlt hj1 hj6
                by_cases hp : p = [45]
                · have hp1 : ((bs p).toList == [45]) = true := by rw [bs_toList, hp]; rfl
                  obtain ⟨WX, hWX⟩ : ∃ WX, WX = wr := ⟨_, rfl⟩
                  have hrX := hrk
                  have hgX := hgk
                  rw [← hWX] at hrX hgX d4' ⊢
                  have HPP := hide hp
                  clear hrk hgk hWX hp
                  have hbF : Below w1.heap.size w1 WX := hb14.grown hgX (Nat.le_trans hw3 (Nat.le_of_lt hz4)) (fun q e => by injection e with e; omega)
                  have c0 : WX.cell? ⟨w3.heap.size, 0, none⟩ = some (.string (bs c)) := hrX.cell 0 (by omega)
                  have c1 : WX.cell? ⟨w3.heap.size, 1, none⟩ = some (.string (bs n)) := hrX.cell 1 (by omega)
                  have c2 : WX.cell? ⟨w3.heap.size, 2, none⟩ = some (.int .i64 (kindOf k)) := hrX.cell 2 (by omega)
                  have c3 : WX.cell? ⟨w3.heap.size, 3, none⟩ = some (.string (⟨#[]⟩)) := hrX.cell 3 (by omega)
                  have c4 : WX.cell? ⟨w3.heap.size, 4, none⟩ = some (.bool false) := hrX.cell 4 (by omega)
                  have d3X : WX.cell? ⟨b9, o9 + 3, none⟩ = some (.string (bs m)) := hgX.cell (hg4.cell d3 (by simp)) (fun (e : some b9 = some w3.heap.size) => by injection e with e; omega)
                  by_cases hk0 : kindOf k = 0
                  · have HF : Hid (parseR ps [] = ([], (i : Int), 2)) := by
                      show _ = _
                      rw [step_none HI.out HPI.out hlast HW.out (by rw [Hw.out]; exact if_pos hk0), hal]
                    have hk0b : (kindOf k == 0) = true := by rw [beq_iff_eq]; exact hk0
                    clear hk0
                    go_wp2_with fail
                    go_ret3
                    exact ⟨.slice none 0 0, by rw [HF.out]; rfl, by rw [HF.out]; exact Own.nil _ _ _ _ _, bthen hb1 (Nat.le_refl _) hbF⟩
                  · have hk0b : (kindOf k == 0) = false := by rw [beq_eq_false_iff_ne]; exact hk0
                    by_cases hM : m = [45]
                    · have hm2 : ((bs m).toList == [45]) = true := by rw [bs_toList, hM]; rfl
                      have HM2 := hide hM
                      clear hM
                      have hl : lineA (cutL 32 pi) = some ⟨bs c, bs n, kindOf k, ⟨#[]⟩, false⟩ := by
                        rw [Hw.out]
                        show (if _ then _ else _) = _
                        rw [if_neg hk0, if_neg (fun h => by exact h.2 HM2.out), show decide (m = [109]) = false from decide_eq_false HM.out]
                        rw [if_pos HPP.out]
                      have hcz := cutL_part (c := 32) pi c (by rw [Hw.out]; simp)
                      have hnz := cutL_part (c := 32) pi n (by rw [Hw.out]; simp)
                      have hpz := HPS.out
                      have HS2 := hide (step_some HI.out HPI.out hlast HW.out hl)
                      clear hl hk0
                      by_cases h60 : i = 60
                      · have HF : Hid (parseR ps [] = ([], 60, 4)) := by
                          show _ = _
                          rw [HS2.out, if_pos (by omega), hal, h60]; rfl
                        have HF2 : Hid (parseR ps [] = ([], (i : Int), 4)) := by
                          show _ = _
                          rw [HS2.out, if_pos (by omega), hal]
                        have h60b : ((i : Int) == 60) = true := by rw [beq_iff_eq]; omega
                        go_wp2_with fail
                        go_ret3
                        exact ⟨.slice none 0 0, by first | (rw [HF.out]; rfl) | (rw [HF2.out]; rfl), by rw [HF.out]; exact Own.nil _ _ _ _ _, bthen hb1 (Nat.le_refl _) hbF⟩
                      · have h60b : ((i : Int) == 60) = false := by rw [beq_eq_false_iff_ne]; omega
                        have HP0 : Hid (parseR ps [] = if accF acc (⟨bs c, bs n, kindOf k, ⟨#[]⟩, false⟩ : Acc) = 0 then parseR (ps.drop (i + 1)) (acc ++ [(⟨bs c, bs n, kindOf k, ⟨#[]⟩, false⟩ : Acc)]) else ([], (acc.length : Int), accF acc (⟨bs c, bs n, kindOf k, ⟨#[]⟩, false⟩ : Acc))) := by
                          show _ = _
                          rw [HS2.out, if_neg (by omega)]
                        have hownX : Own WX w1.heap.size 29 5 Acc.enc u5 acc := hown4.grown hgX (none_or3 (fun b e => by have := hog b e; omega))
                        have hal2 : acc.length < 60 := by omega
                        have hXs : w1.heap.size ≤ WX.heap.size := hbF.size
                        have haok6 : AccOk (acc ++ [(⟨bs c, bs n, kindOf k, ⟨#[]⟩, false⟩ : Acc)]) := accok_snoc haok (by rw [bs_size]; omega) (by rw [bs_size]; omega)
                        clear h60 HS2
                        go_wp2_with (at_builtin; go_loud (refine wpList_push _ rfl _ _ 22 rfl w1.heap.size 29 i0 (.agg #[.string ⟨#[]⟩, .string ⟨#[]⟩, .int .i64 0, .string ⟨#[]⟩, .bool false]) 5 64 Tryd.underlying22 hi0 hz0 hz1 hz2 rfl (by decide) accEncR _ acc rfl (hownX.alloc _) _ 1 1 [(⟨bs c, bs n, kindOf k, ⟨#[]⟩, false⟩ : Acc)] rfl (Rd.boxed _ accEncR (⟨bs c, bs n, kindOf k, ⟨#[]⟩, false⟩ : Acc) _ _ rfl) (by intro h; cases h) (by simp only [maxLen]; omega) (by omega) (by simp; omega) ?_); intro v' w5 hown5 hg5 hat5; obtain ⟨A5, c5, rfl, hc5, hm5⟩ := hown5.form)
                        have hlen : (acc ++ [(⟨bs c, bs n, kindOf k, ⟨#[]⟩, false⟩ : Acc)]).length = i + 1 := by rw [List.length_append, hal]; rfl
                        have hE : accE (acc ++ [(⟨bs c, bs n, kindOf k, ⟨#[]⟩, false⟩ : Acc)]) i = accF acc (⟨bs c, bs n, kindOf k, ⟨#[]⟩, false⟩ : Acc) := by rw [← hal]; exact accE_last _ _
                        have hrd5 := hown5.rd accEncR
                        have hb5 : Below w1.heap.size w1 w5 := bpush hbF hXs hg5 (fun q hq => (hownX.block q hq).1)
                        rw [hlen] at hc5 hrd5
                        have hacc := refAccount_any (acc ++ [(⟨bs c, bs n, kindOf k, ⟨#[]⟩, false⟩ : Acc)]) A5 (i + 1) c5 i w5 (by omega) hc5 hrd5 haok6 (by omega)
                        rw [hE] at hacc
                        obtain ⟨ev, hev⟩ : ∃ ev, ev = accF acc (⟨bs c, bs n, kindOf k, ⟨#[]⟩, false⟩ : Acc) := ⟨_, rfl⟩
                        rw [← hev] at hacc HP0
                        clear hE hev hrd5 hg5 hat5 hownX
                        refine hacc.mono ?_
                        rintro e w6 ⟨rfl, hb6⟩
                        have hown6 := hown5.below hb6
                        have hb16 := bthen hb5 (Nat.le_refl _) hb6
                        clear hacc hown5 hb5
                        by_cases he : ev = 0
                        · have HP := hide (HP0.out.trans (if_pos he))
                          have heb : (ev != 0) = false := by rw [bne_eq_false_iff_eq]; exact he
                          clear he
                          go_wp2_with fail
                          go_roundw
                          case rel => exact ⟨acc ++ [(⟨bs c, bs n, kindOf k, ⟨#[]⟩, false⟩ : Acc)], i + 1, by go_num, .inl ⟨by have := HI.out; omega, hlen, by omega, haok6, HP.out⟩, by rw [hlen] at hown6; exact hown6, hb16⟩
                          case measure => have := HI.out; simp [intOf]; omega
                        · have HF : Hid (parseR ps [] = ([], (i : Int), ev)) := by
                            show _ = _
                            rw [HP0.out, if_neg he, hal]
                          have heb : (ev != 0) = true := by rw [bne_iff_ne]; exact he
                          have hbF := hb16
                          clear he
                          go_wp2_with fail
                          go_ret3
                          exact ⟨.slice none 0 0, by rw [HF.out]; rfl, by rw [HF.out]; exact Own.nil _ _ _ _ _, bthen hb1 (Nat.le_refl _) hbF⟩
                    · have hm2 : ((bs m).toList == [45]) = false := by rw [bs_toList, beq_eq_false_iff_ne]; exact hM
                      have HF : Hid (parseR ps [] = ([], (i : Int), 2)) := by
                        show _ = _
                        rw [step_none HI.out HPI.out hlast HW.out (by rw [Hw.out]; show (if _ then _ else _) = _; rw [if_neg hk0, if_pos ⟨HM.out, hM⟩]), hal]
                      go_wp2_with fail
                      go_ret3
                      exact ⟨.slice none 0 0, by rw [HF.out]; rfl, by rw [HF.out]; exact Own.nil _ _ _ _ _, bthen hb1 (Nat.le_refl _) hbF⟩

                · have hp1 : ((bs p).toList == [45]) = false := by rw [bs_toList, beq_eq_false_iff_ne]; exact hp
                  have f3' := hrk.frozen 3
                  have c3' := hrk.cell 3 (by omega)
                  have hps9 : (bs p).size ≤ 9223372036854775807 := by
                    have h1 := cutL_part (c := 32) pi p (by rw [Hw.out]; simp)
                    have h2 := HPS.out
                    rw [bs_size]; omega
                  have hd := refDigits_any (bs p) 6
                  cases hdg : digitsB (bs p) 6 with
                  | false =>
                    rw [hdg] at hd
                    have HF : Hid (parseR ps [] = ([], (i : Int), 2)) := by
                      show _ = _
                      rw [step_none HI.out HPI.out hlast HW.out (by rw [Hw.out]; exact no_parent hp hdg), hal]
                    clear hdg hp
                    go_wp2_with fail
                    refine (hd _ hps9).mono ?_
                    rintro e w6 ⟨rfl, hw6⟩
                    subst hw6
                    have hbF : Below w1.heap.size w1 (wr.setCell ⟨w3.heap.size, 3, none⟩ (.string (bs p))) := hb14.grown (only_setCell hgk 3 _) (Nat.le_trans hw3 (Nat.le_of_lt hz4)) (fun q e => by injection e with e; omega)
                    go_wp2_with fail
                    go_ret3
                    exact ⟨.slice none 0 0, by rw [HF.out]; rfl, by rw [HF.out]; exact Own.nil _ _ _ _ _, bthen hb1 (Nat.le_refl _) hbF⟩
                  | true =>
                    rw [hdg] at hd
                    have HDG := hide hdg
                    have HPN := hide hp
                    clear hdg hp
                    have hrY := (hrk.set_ 3 (.string (bs p))).congr (F' := accRow c n (kindOf k) (bs p) false) (fun q hq => by rcases (show q = 0 ∨ q = 1 ∨ q = 2 ∨ q = 3 ∨ q = 4 by omega) with rfl | rfl | rfl | rfl | rfl <;> rfl)
                    have hgY := only_setCell hgk 3 (.string (bs p))
                    go_wp2_with fail
                    refine (hd _ hps9).mono ?_
                    rintro e w6 ⟨rfl, hw6⟩
                    subst hw6
                    obtain ⟨WX, hWX⟩ : ∃ WX, WX = wr.setCell ⟨w3.heap.size, 3, none⟩ (.string (bs p)) := ⟨_, rfl⟩
                    have hrX := hrY
                    have hgX := hgY
                    rw [← hWX] at hrX hgX ⊢
                    clear hrk hgk hWX hrY hgY c3' f3' hd d4'
                    have hbF : Below w1.heap.size w1 WX := hb14.grown hgX (Nat.le_trans hw3 (Nat.le_of_lt hz4)) (fun q e => by injection e with e; omega)
                    have c0 : WX.cell? ⟨w3.heap.size, 0, none⟩ = some (.string (bs c)) := hrX.cell 0 (by omega)
                    have c1 : WX.cell? ⟨w3.heap.size, 1, none⟩ = some (.string (bs n)) := hrX.cell 1 (by omega)
                    have c2 : WX.cell? ⟨w3.heap.size, 2, none⟩ = some (.int .i64 (kindOf k)) := hrX.cell 2 (by omega)
                    have c3 : WX.cell? ⟨w3.heap.size, 3, none⟩ = some (.string (bs p)) := hrX.cell 3 (by omega)
                    have c4 : WX.cell? ⟨w3.heap.size, 4, none⟩ = some (.bool false) := hrX.cell 4 (by omega)
                    have d3X : WX.cell? ⟨b9, o9 + 3, none⟩ = some (.string (bs m)) := hgX.cell (hg4.cell d3 (by simp)) (fun (e : some b9 = some w3.heap.size) => by injection e with e; omega)
                    by_cases hk0 : kindOf k = 0
                    · have HF : Hid (parseR ps [] = ([], (i : Int), 2)) := by
                        show _ = _
                        rw [step_none HI.out HPI.out hlast HW.out (by rw [Hw.out]; exact if_pos hk0), hal]
                      have hk0b : (kindOf k == 0) = true := by rw [beq_iff_eq]; exact hk0
                      clear hk0
                      go_wp2_with fail
                      go_ret3
                      exact ⟨.slice none 0 0, by rw [HF.out]; rfl, by rw [HF.out]; exact Own.nil _ _ _ _ _, bthen hb1 (Nat.le_refl _) hbF⟩
                    · have hk0b : (kindOf k == 0) = false := by rw [beq_eq_false_iff_ne]; exact hk0
                      by_cases hM : m = [45]
                      · have hm2 : ((bs m).toList == [45]) = true := by rw [bs_toList, hM]; rfl
                        have HM2 := hide hM
                        clear hM
                        have hl : lineA (cutL 32 pi) = some ⟨bs c, bs n, kindOf k, bs p, false⟩ := by
                          rw [Hw.out]
                          show (if _ then _ else _) = _
                          rw [if_neg hk0, if_neg (fun h => by exact h.2 HM2.out), show decide (m = [109]) = false from decide_eq_false HM.out]
                          rw [if_neg HPN.out, if_neg (by rw [HDG.out]; decide)]
                        have hcz := cutL_part (c := 32) pi c (by rw [Hw.out]; simp)
                        have hnz := cutL_part (c := 32) pi n (by rw [Hw.out]; simp)
                        have hpz := HPS.out
                        have HS2 := hide (step_some HI.out HPI.out hlast HW.out hl)
                        clear hl hk0
                        by_cases h60 : i = 60
                        · have HF : Hid (parseR ps [] = ([], 60, 4)) := by
                            show _ = _
                            rw [HS2.out, if_pos (by omega), hal, h60]; rfl
                          have HF2 : Hid (parseR ps [] = ([], (i : Int), 4)) := by
                            show _ = _
                            rw [HS2.out, if_pos (by omega), hal]
                          have h60b : ((i : Int) == 60) = true := by rw [beq_iff_eq]; omega
                          go_wp2_with fail
                          go_ret3
                          exact ⟨.slice none 0 0, by first | (rw [HF.out]; rfl) | (rw [HF2.out]; rfl), by rw [HF.out]; exact Own.nil _ _ _ _ _, bthen hb1 (Nat.le_refl _) hbF⟩
                        · have h60b : ((i : Int) == 60) = false := by rw [beq_eq_false_iff_ne]; omega
                          have HP0 : Hid (parseR ps [] = if accF acc (⟨bs c, bs n, kindOf k, bs p, false⟩ : Acc) = 0 then parseR (ps.drop (i + 1)) (acc ++ [(⟨bs c, bs n, kindOf k, bs p, false⟩ : Acc)]) else ([], (acc.length : Int), accF acc (⟨bs c, bs n, kindOf k, bs p, false⟩ : Acc))) := by
                            show _ = _
                            rw [HS2.out, if_neg (by omega)]
                          have hownX : Own WX w1.heap.size 29 5 Acc.enc u5 acc := hown4.grown hgX (none_or3 (fun b e => by have := hog b e; omega))
                          have hal2 : acc.length < 60 := by omega
                          have hXs : w1.heap.size ≤ WX.heap.size := hbF.size
                          have haok6 : AccOk (acc ++ [(⟨bs c, bs n, kindOf k, bs p, false⟩ : Acc)]) := accok_snoc haok (by rw [bs_size]; omega) (by rw [bs_size]; omega)
                          clear h60 HS2
                          go_wp2_with (at_builtin; go_loud (refine wpList_push _ rfl _ _ 22 rfl w1.heap.size 29 i0 (.agg #[.string ⟨#[]⟩, .string ⟨#[]⟩, .int .i64 0, .string ⟨#[]⟩, .bool false]) 5 64 Tryd.underlying22 hi0 hz0 hz1 hz2 rfl (by decide) accEncR _ acc rfl (hownX.alloc _) _ 1 1 [(⟨bs c, bs n, kindOf k, bs p, false⟩ : Acc)] rfl (Rd.boxed _ accEncR (⟨bs c, bs n, kindOf k, bs p, false⟩ : Acc) _ _ rfl) (by intro h; cases h) (by simp only [maxLen]; omega) (by omega) (by simp; omega) ?_); intro v' w5 hown5 hg5 hat5; obtain ⟨A5, c5, rfl, hc5, hm5⟩ := hown5.form)
                          have hlen : (acc ++ [(⟨bs c, bs n, kindOf k, bs p, false⟩ : Acc)]).length = i + 1 := by rw [List.length_append, hal]; rfl
                          have hE : accE (acc ++ [(⟨bs c, bs n, kindOf k, bs p, false⟩ : Acc)]) i = accF acc (⟨bs c, bs n, kindOf k, bs p, false⟩ : Acc) := by rw [← hal]; exact accE_last _ _
                          have hrd5 := hown5.rd accEncR
                          have hb5 : Below w1.heap.size w1 w5 := bpush hbF hXs hg5 (fun q hq => (hownX.block q hq).1)
                          rw [hlen] at hc5 hrd5
                          have hacc := refAccount_any (acc ++ [(⟨bs c, bs n, kindOf k, bs p, false⟩ : Acc)]) A5 (i + 1) c5 i w5 (by omega) hc5 hrd5 haok6 (by omega)
                          rw [hE] at hacc
                          obtain ⟨ev, hev⟩ : ∃ ev, ev = accF acc (⟨bs c, bs n, kindOf k, bs p, false⟩ : Acc) := ⟨_, rfl⟩
                          rw [← hev] at hacc HP0
                          clear hE hev hrd5 hg5 hat5 hownX
                          refine hacc.mono ?_
                          rintro e w6 ⟨rfl, hb6⟩
                          have hown6 := hown5.below hb6
                          have hb16 := bthen hb5 (Nat.le_refl _) hb6
                          clear hacc hown5 hb5
                          by_cases he : ev = 0
                          · have HP := hide (HP0.out.trans (if_pos he))
                            have heb : (ev != 0) = false := by rw [bne_eq_false_iff_eq]; exact he
                            clear he
                            go_wp2_with fail
                            go_roundw
                            case rel => exact ⟨acc ++ [(⟨bs c, bs n, kindOf k, bs p, false⟩ : Acc)], i + 1, by go_num, .inl ⟨by have := HI.out; omega, hlen, by omega, haok6, HP.out⟩, by rw [hlen] at hown6; exact hown6, hb16⟩
                            case measure => have := HI.out; simp [intOf]; omega
                          · have HF : Hid (parseR ps [] = ([], (i : Int), ev)) := by
                              show _ = _
                              rw [HP0.out, if_neg he, hal]
                            have heb : (ev != 0) = true := by rw [bne_iff_ne]; exact he
                            have hbF := hb16
                            clear he
                            go_wp2_with fail
                            go_ret3
                            exact ⟨.slice none 0 0, by rw [HF.out]; rfl, by rw [HF.out]; exact Own.nil _ _ _ _ _, bthen hb1 (Nat.le_refl _) hbF⟩
                      · have hm2 : ((bs m).toList == [45]) = false := by rw [bs_toList, beq_eq_false_iff_ne]; exact hM
                        have HF : Hid (parseR ps [] = ([], (i : Int), 2)) := by
                          show _ = _
                          rw [step_none HI.out HPI.out hlast HW.out (by rw [Hw.out]; show (if _ then _ else _) = _; rw [if_neg hk0, if_pos ⟨HM.out, hM⟩]), hal]
                        go_wp2_with fail
                        go_ret3
                        exact ⟨.slice none 0 0, by rw [HF.out]; rfl, by rw [HF.out]; exact Own.nil _ _ _ _ _, bthen hb1 (Nat.le_refl _) hbF⟩


        · have HF : Hid (parseR ps [] = ([], (i : Int), 2)) := by
            show _ = _
            rw [step_none hi HPI.out hlast HW.out (line_not5 h5), hal]
          have h5i : (((cutL 32 pi).length : Int) != 5) = true := by rw [bne_iff_ne]; omega
          rw [bs_data] at hcut2
          clear h5
          go_wp2_with fail
          refine hcut2.mono ?_
          rintro e w3 ⟨v9, rfl, hown9, hb3⟩
          obtain ⟨A9, c9, rfl, hc9, hm9⟩ := hown9.form
          rw [List.length_map]
          clear hown9
          go_wp2_with fail
          go_ret3
          exact ⟨.slice none 0 0, by rw [HF.out]; rfl, by rw [HF.out]; exact Own.nil _ _ _ _ _, bthen hb1 (Nat.le_refl _) (bthen hbr (Nat.le_refl _) hb3)⟩
    · have HF := hide hq
      have hlt : ¬ ((i : Int) < (ps.length : Int)) := by omega
      clear hq hi
      go_wp2_with fail
      go_ret3
      exact ⟨_, by rw [HF.out]; rfl, by rw [HF.out]; exact own_weak hown hb1.size, bthen hb1 (Nat.le_refl _) hbr⟩
end Go.Proofs.YthmjkhlndphldaaDoor
