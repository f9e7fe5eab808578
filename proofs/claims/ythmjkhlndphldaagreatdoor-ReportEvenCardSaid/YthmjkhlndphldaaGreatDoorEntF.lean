/- entry.Check: what it returns. -/
import Derived.Test.YthmjkhlndphldaaGreatDoorEntE
namespace Go.Proofs.YthmjkhlndphldaaGreatDoor
open Go Go.RowKit
set_option linter.unusedVariables false

/-- what is wrong with a line -/
def lineE (c : List Acc) (x : Line) : Int := if leafE c x.acc ≠ 0 then leafE c x.acc else if curB x.cur = false then 2 else if x.amt = 0 then 1 else if farB x = true then 1 else 0
/-- what is wrong with the first line that is -/
def linesE (c : List Acc) (l : List Line) : Int := match l.find? (fun x => lineE c x != 0) with | some x => lineE c x | none => 0
def LinesTo (c : List Acc) (l : List Line) (k : Nat) : Prop := ∀ (j : Nat) (h : j < l.length), j < k → lineE c l[j] = 0
theorem LinesTo.zero (c : List Acc) (l : List Line) : LinesTo c l 0 := fun _ _ h => absurd h (by omega)
theorem LinesTo.succ {c : List Acc} {l : List Line} {k : Nat} (h : LinesTo c l k) (hk : k < l.length) (hc : lineE c l[k] = 0) : LinesTo c l (k + 1) := by
  intro j hj hjk
  by_cases e : j = k
  · subst e; exact hc
  · exact h j hj (by omega)
theorem LinesTo.hit {c : List Acc} {l : List Line} {k : Nat} (h : LinesTo c l k) (hk : k < l.length) (hc : lineE c l[k] ≠ 0) : linesE c l = lineE c l[k] := by
  have : l.find? (fun x => lineE c x != 0) = some l[k] := by
    rw [List.find?_eq_some_iff_getElem]
    exact ⟨by simpa using hc, k, hk, rfl, fun j hj => by simpa using h j (by omega) hj⟩
  rw [linesE, this]
theorem LinesTo.all {c : List Acc} {l : List Line} {k : Nat} (h : LinesTo c l k) (hk : l.length ≤ k) : linesE c l = 0 := by
  have : l.find? (fun x => lineE c x != 0) = none := by
    rw [List.find?_eq_none]
    intro x hx
    obtain ⟨j, hj, rfl⟩ := List.getElem_of_mem hx
    simpa using h j hj (by omega)
  rw [linesE, this]
theorem linesE_0 {c : List Acc} {l : List Line} (h : linesE c l = 0) (x : Line) (hx : x ∈ l) : lineE c x = 0 := by
  unfold linesE at h
  cases hf : l.find? (fun x => lineE c x != 0) with
  | none =>
    rw [List.find?_eq_none] at hf
    simpa using hf x hx
  | some y =>
    rw [hf] at h
    have := List.find?_some hf
    simp [h] at this
theorem lineE_ok {c : List Acc} {x : Line} (h : lineE c x = 0) : leafE c x.acc = 0 ∧ curB x.cur = true ∧ x.amt ≠ 0 ∧ farB x = false := by
  unfold lineE at h
  by_cases h1 : leafE c x.acc = 0
  · rw [if_neg (by simpa using h1)] at h
    cases h2 : curB x.cur with
    | false => rw [if_pos h2] at h; cases h
    | true =>
      rw [if_neg (by rw [h2]; decide)] at h
      by_cases h3 : x.amt = 0
      · rw [if_pos h3] at h; cases h
      · rw [if_neg h3] at h
        cases h4 : farB x with
        | true => rw [if_pos h4] at h; cases h
        | false => exact ⟨h1, rfl, h3, rfl⟩
  · rw [if_pos h1] at h; exact absurd h h1

/-- what is wrong with an entry -/
def entE (c : List Acc) (ref : ByteArray) (ent per : Int) (l : List Line) : Int :=
  if chartE c ≠ 0 then chartE c else if refB ref = false then 2 else if inB 1 12 ent = false then 1 else if inB 1 120 per = false then 1 else if l.length < 2 then 3 else if 20 < l.length then 4 else
  if linesE c l ≠ 0 then linesE c l else if (canon (l.map blank)).any notZ = true then 11 else 0

section
variable {c : List Acc} {ref : ByteArray} {ent per : Int} {l : List Line}
theorem entE_1 (h : chartE c ≠ 0) : entE c ref ent per l = chartE c := by rw [entE, if_pos h]
theorem entE_2 (h : chartE c = 0) (h2 : refB ref = false) : entE c ref ent per l = 2 := by rw [entE, if_neg (by simpa using h), if_pos h2]
theorem entE_3 (h : chartE c = 0) (h2 : refB ref = true) (h3 : inB 1 12 ent = false) : entE c ref ent per l = 1 := by rw [entE, if_neg (by simpa using h), if_neg (by rw [h2]; decide), if_pos h3]
theorem entE_4 (h : chartE c = 0) (h2 : refB ref = true) (h3 : inB 1 12 ent = true) (h4 : inB 1 120 per = false) : entE c ref ent per l = 1 := by
  rw [entE, if_neg (by simpa using h), if_neg (by rw [h2]; decide), if_neg (by rw [h3]; decide), if_pos h4]
theorem entE_5 (h : chartE c = 0) (h2 : refB ref = true) (h3 : inB 1 12 ent = true) (h4 : inB 1 120 per = true) : entE c ref ent per l = if l.length < 2 then 3 else if 20 < l.length then 4 else
  if linesE c l ≠ 0 then linesE c l else if (canon (l.map blank)).any notZ = true then 11 else 0 := by
  rw [entE, if_neg (by simpa using h), if_neg (by rw [h2]; decide), if_neg (by rw [h3]; decide), if_neg (by rw [h4]; decide)]
end

/-- the texts of lines fit -/
def LinesOk (l : List Line) : Prop := ∀ x, x ∈ l → x.acc.size ≤ 9223372036854775807 ∧ x.cur.size ≤ 9223372036854775807

/-- an entry lies at a block's head -/
def EntAt (w : World) (g : Nat) (ref : ByteArray) (ent per : Int) (v : Value) : Prop :=
  w.cell? ⟨g, 0, none⟩ = some (.string ref) ∧ w.cell? ⟨g, 1, none⟩ = some (.int .i64 ent) ∧ w.cell? ⟨g, 2, none⟩ = some (.int .i64 per) ∧ w.cell? ⟨g, 3, none⟩ = some v
theorem EntAt.below {w w' : World} {g : Nat} {ref : ByteArray} {ent per : Int} {v : Value} (h : EntAt w g ref ent per v) (hb : Below w.heap.size w w') : EntAt w' g ref ent per v := by
  obtain ⟨h0, h1, h2, h3⟩ := h
  have hg := World.block_lt_of_cell? _ _ h0
  exact ⟨below_cell hb hg h0, below_cell hb hg h1, below_cell hb hg h2, below_cell hb hg h3⟩

set_option maxHeartbeats 4000000 in
set_option maxRecDepth 100000 in
theorem entCheck_any (c : List Acc) (CA : Option Addr) (cn ccap : Nat) (ref : ByteArray) (ent per : Int) (l : List Line) (A : Option Addr) (n cap : Nat) (w : World)
    (hcl : cn ≤ 9223372036854775807) (hcc : cn ≤ ccap) (hc : Accs w CA cn c) (hcok : AccOk c) (hr : ref.size ≤ 9223372036854775807)
    (hl : n ≤ 9223372036854775807) (ha : Rd w 3 lineEnc A n l) (hA : A = none → cap = 0) (hok : LinesOk l) :
    Calls Tryz.prog 14 #[.slice CA cn ccap, .agg #[.string ref, .int .i64 ent, .int .i64 per, .slice A n cap]] w
      fun e w' => e = .returned (errV (entE c ref ent per l)) ∧ Below w.heap.size w w' := by
  have hn : l.length = n := ha.1
  have Hn := hide hn
  have eg : ∀ args w, (callFunc 75 args).run Tryz.prog w = .ok (.enter 75 args) w := enters_of Tryz.func75 (by kernel_rfl) rfl
  clear hn
  go_enter Tryz.func14, Tryz.ntmps14
  go_wp2_with fail
  have hbx : Below w.heap.size w (w.alloc (.cells #[.string ref, .int .i64 ent, .int .i64 per, .slice A n cap] 25)) := (Below.refl _ _).alloc (Nat.le_refl _) _
  have hE0 : EntAt (w.alloc (.cells #[.string ref, .int .i64 ent, .int .i64 per, .slice A n cap] 25)) w.heap.size ref ent per (.slice A n cap) := by unfold EntAt; simp
  by_cases hce : chartE c = 0
  · have HC := hide hce
    clear hce
    refine (check_ok c _ _ _ _ hcl hcc (hc.below hbx) hcok HC.out).mono ?_
    rintro e w1 ⟨rfl, hb1⟩
    have hE1 := hE0.below hb1
    have hb1 := hbx.trans (hb1.mono hbx.size)
    obtain ⟨e0, e1, e2, e3⟩ := hE1
    go_wp2_with fail
    refine (ref_any ref _ hr).mono ?_
    rintro e w2 ⟨rfl, hb2⟩
    have hE2 := (show EntAt w1 w.heap.size ref ent per (.slice A n cap) from ⟨e0, e1, e2, e3⟩).below hb2
    have hb2 := bthen hb1 (Nat.le_refl _) hb2
    clear e0 e1 e2 e3
    obtain ⟨e0, e1, e2, e3⟩ := hE2
    cases h2 : refB ref with
    | false =>
      have HF := hide (entE_2 (ent := ent) (per := per) (l := l) HC.out h2)
      go_wp2_with fail
      go_ret
      exact ⟨by rw [HF.out]; rfl, hb2⟩
    | true =>
      have H2 := hide h2
      clear h2
      go_wp2_with fail
      refine (entity_any ent _).mono ?_
      rintro e w3 ⟨rfl, rfl⟩
      cases h3 : inB 1 12 ent with
      | false =>
        have HF := hide (entE_3 (per := per) (l := l) HC.out H2.out h3)
        clear h3
        go_wp2_with fail
        go_ret
        exact ⟨by rw [HF.out]; rfl, hb2⟩
      | true =>
        have H3 := hide h3
        clear h3
        go_wp2_with fail
        refine (period_any per _).mono ?_
        rintro e w3 ⟨rfl, rfl⟩
        cases h4 : inB 1 120 per with
        | false =>
          have HF := hide (entE_4 (l := l) HC.out H2.out H3.out h4)
          clear h4
          go_wp2_with fail
          go_ret
          exact ⟨by rw [HF.out]; rfl, hb2⟩
        | true =>
          have HF := hide (entE_5 (l := l) HC.out H2.out H3.out h4)
          clear h4
          by_cases h5 : n < 2
          · have h5' : (n : Int) < 2 := by omega
            have HG : Hid (entE c ref ent per l = 3) := by show _ = _; rw [HF.out, if_pos (by rw [Hn.out]; exact h5)]
            clear h5
            go_wp2_with fail
            go_ret
            exact ⟨by rw [HG.out]; rfl, hb2⟩
          · by_cases h6 : 20 < n
            · have h5' : ¬ (n : Int) < 2 := by omega
              have h6' : (20 : Int) < (n : Int) := by omega
              have HG : Hid (entE c ref ent per l = 4) := by show _ = _; rw [HF.out, if_neg (by rw [Hn.out]; exact h5), if_pos (by rw [Hn.out]; exact h6)]
              clear h5 h6
              go_wp2_with fail
              go_ret
              exact ⟨by rw [HG.out]; rfl, hb2⟩
            · have h5' : ¬ (n : Int) < 2 := by omega
              have h6' : ¬ (20 : Int) < (n : Int) := by omega
              have h5d : decide ((n : Int) < 2) = false := by simpa using h5'
              have h6d : decide ((20 : Int) < (n : Int)) = false := by simpa using h6'
              have HG : Hid (entE c ref ent per l = if linesE c l ≠ 0 then linesE c l else if (canon (l.map blank)).any notZ = true then 11 else 0) := by
                show _ = _; rw [HF.out, if_neg (by rw [Hn.out]; exact h5), if_neg (by rw [Hn.out]; exact h6)]
              have hn20 : n ≤ 20 := by omega
              clear h5 h6
              go_wp2_with fail
              go_loopw [49] (fun iv wr => ∃ k : Nat, k ≤ n ∧ iv = .int .i64 k ∧ LinesTo c l k ∧ EntAt wr w.heap.size ref ent per (.slice A n cap) ∧ Below w.heap.size w wr) (fun iv _ => n - (intOf iv).toNat)
              case atStart => exact ⟨0, by omega, rfl, LinesTo.zero _ _, ⟨e0, e1, e2, e3⟩, hb2⟩
              case round =>
                clear e0 e1 e2 e3
                obtain ⟨k, hk, rfl, hto, hE, hbr⟩ := hrel
                have HTo := hide hto
                clear hto
                by_cases hlt : k < n
                · have hkl : k < l.length := by have := Hn.out; omega
                  obtain ⟨b, off, rfl, hcs⟩ := (Rd.below ha hbr).2 (by omega)
                  have q0 := hcs k 0 _ hkl rfl
                  have q1 := hcs k 1 _ hkl rfl
                  have q2 := hcs k 2 _ hkl rfl
                  rw [Nat.add_zero] at q0
                  clear hcs
                  have hck := hc.below hbr
                  have hkx : l[k].cur.size ≤ 9223372036854775807 := (hok l[k] (List.getElem_mem _)).2
                  by_cases hle : leafE c l[k].acc = 0
                  · have HL := hide hle
                    clear hle
                    go_wp2_with fail
                    refine (leaf_ok c _ _ _ _ _ hcl (hck.alloc _) HL.out).mono ?_
                    rintro e w3 ⟨rfl, hb3'⟩
                    have y1 : w3.cell? ⟨wr.heap.size, 1, none⟩ = some (.string l[k].cur) := below_cell hb3' (by simp) (by simp)
                    have y2 : w3.cell? ⟨wr.heap.size, 2, none⟩ = some (.int .i64 l[k].amt) := below_cell hb3' (by simp) (by simp)
                    have hys : wr.heap.size < w3.heap.size := World.block_lt_of_cell? _ _ y1
                    have hb3 := bof_alloc hb3'
                    have hE3 := hE.below hb3
                    have hb3 := bthen hbr (Nat.le_refl _) hb3
                    go_wp2_with fail
                    refine (cur_any _ _ hkx).mono ?_
                    rintro e w4 ⟨rfl, hb4⟩
                    have y2 := below_cell hb4 hys y2
                    have hE4 := hE3.below hb4
                    have hb4 := bthen hb3 (Nat.le_refl _) hb4
                    clear y1 hb3'
                    cases h2 : curB l[k].cur with
                    | false =>
                      have HX : Hid (lineE c l[k] = 2) := by show _ = _; rw [lineE, if_neg (by rw [HL.out]; simp), if_pos h2]
                      have HR : Hid (entE c ref ent per l = 2) := by show _ = _; rw [HG.out, HTo.out.hit hkl (by rw [HX.out]; decide), HX.out]; rfl
                      clear h2
                      go_wp2_with fail
                      go_ret
                      exact ⟨by rw [HR.out]; rfl, hb4⟩
                    | true =>
                      have HU := hide h2
                      clear h2
                      by_cases hz : l[k].amt = 0
                      · have HX : Hid (lineE c l[k] = 1) := by show _ = _; rw [lineE, if_neg (by rw [HL.out]; simp), if_neg (by rw [HU.out]; decide), if_pos hz]
                        have HR : Hid (entE c ref ent per l = 1) := by show _ = _; rw [HG.out, HTo.out.hit hkl (by rw [HX.out]; decide), HX.out]; rfl
                        have hz1 : (l[k].amt == 0) = true := by simpa using hz
                        clear hz
                        go_wp2_with fail
                        go_ret
                        exact ⟨by rw [HR.out]; rfl, hb4⟩
                      · have HZ := hide hz
                        have hz1 : (l[k].amt == 0) = false := by simpa using hz
                        clear hz
                        go_wp2_with fail
                        refine (amount_any l[k].amt _).mono ?_
                        rintro e w5 ⟨rfl, rfl⟩
                        cases h3 : inB (-1000000000000000) 1000000000000000 l[k].amt with
                        | false =>
                          have HX : Hid (lineE c l[k] = 1) := by show _ = _; rw [lineE, if_neg (by rw [HL.out]; simp), if_neg (by rw [HU.out]; decide), if_neg HZ.out, if_pos (by rw [farB, h3]; rfl)]
                          have HR : Hid (entE c ref ent per l = 1) := by show _ = _; rw [HG.out, HTo.out.hit hkl (by rw [HX.out]; decide), HX.out]; rfl
                          clear h3
                          go_wp2_with fail
                          go_ret
                          exact ⟨by rw [HR.out]; rfl, hb4⟩
                        | true =>
                          have HX : Hid (lineE c l[k] = 0) := by show _ = _; rw [lineE, if_neg (by rw [HL.out]; simp), if_neg (by rw [HU.out]; decide), if_neg HZ.out, if_neg (by rw [farB, h3]; decide)]
                          clear h3
                          go_wp2_with fail
                          go_roundw
                          case rel => exact ⟨k + 1, by omega, by go_num, HTo.out.succ hkl HX.out, hE4, hb4⟩
                          case measure => simp [intOf]; omega
                  · have HL := hide hle
                    have HX : Hid (lineE c l[k] = leafE c l[k].acc) := by show _ = _; rw [lineE, if_pos hle]
                    have HR : Hid (entE c ref ent per l = leafE c l[k].acc) := by
                      show _ = _
                      have h1 := HTo.out.hit hkl (by rw [HX.out]; exact hle)
                      rw [HG.out, h1, HX.out, if_pos hle]
                    clear hle
                    go_wp2_with fail
                    refine (leaf_bad c _ _ _ _ _ hcl (hck.alloc _) HL.out).mono ?_
                    rintro e w3 ⟨rfl, hb3⟩
                    have hb3 := bthen hbr (Nat.le_refl _) (bof_alloc hb3)
                    go_wp2_with fail
                    go_ret
                    exact ⟨by rw [HR.out, errV_n HL.out]; rfl, hb3⟩
                · have hkn : k = n := by omega
                  subst hkn
                  have H0 := hide (HTo.out.all (by have := Hn.out; omega))
                  have HG2 : Hid (entE c ref ent per l = if (canon (l.map blank)).any notZ = true then 11 else 0) := by show _ = _; rw [HG.out, if_neg (by simpa using H0.out)]
                  have hbn : Bnd 1000000000000000 l := fun x hx => by
                    have := (lineE_ok (linesE_0 H0.out x hx)).2.2.2
                    simp only [farB, inB, Bool.not_eq_false', Bool.and_eq_true, decide_eq_true_eq] at this
                    exact this
                  have HS := hide (smallE_of (l := l) (by have := Hn.out; omega) hbn)
                  obtain ⟨e0, e1, e2, e3⟩ := hE
                  go_wp2_with fail
                  refine (sums_ok ref ent per l A k cap _ (Rd.below ha hbr) hA HS.out).mono ?_
                  rintro e w3 ⟨v, rfl, hown, hb3⟩
                  obtain ⟨VA, vc, rfl, hvc, hvm⟩ := hown.form
                  have hrd := hown.rd lineEnc_ok
                  have hb3 := bthen hbr (Nat.le_refl _) hb3
                  cases h7 : (canon (l.map blank)).any notZ with
                  | true =>
                    have H7 := hide h7
                    have HR : Hid (entE c ref ent per l = 11) := by show _ = _; rw [HG2.out, if_pos h7]
                    clear h7
                    go_wp2_with fail
                    refine (containsFunc_line (canon (l.map blank)) _ notZ asks_notZ eg _ _ _ _ (by unfold maxLen at hvm; omega) hrd).mono ?_
                    rintro e w4 ⟨rfl, hb4⟩
                    rw [H7.out]
                    go_wp2_with fail
                    go_ret
                    exact ⟨by rw [HR.out]; rfl, bthen hb3 (Nat.le_refl _) hb4⟩
                  | false =>
                    have H7 := hide h7
                    have HR : Hid (entE c ref ent per l = 0) := by show _ = _; rw [HG2.out, if_neg (by rw [h7]; decide)]
                    clear h7
                    go_wp2_with fail
                    refine (containsFunc_line (canon (l.map blank)) _ notZ asks_notZ eg _ _ _ _ (by unfold maxLen at hvm; omega) hrd).mono ?_
                    rintro e w4 ⟨rfl, hb4⟩
                    rw [H7.out]
                    go_wp2_with fail
                    go_ret
                    exact ⟨by rw [HR.out]; rfl, bthen hb3 (Nat.le_refl _) hb4⟩
  · have HC := hide hce
    have HF := hide (entE_1 (ref := ref) (ent := ent) (per := per) (l := l) hce)
    clear hce
    refine (check_bad c _ _ _ _ hcl hcc (hc.below hbx) hcok HC.out).mono ?_
    rintro e w1 ⟨rfl, hb1⟩
    go_wp2_with fail
    go_ret
    exact ⟨by rw [HF.out, errV_n HC.out]; rfl, hbx.trans (hb1.mono hbx.size)⟩
end Go.Proofs.YthmjkhlndphldaaGreatDoor
