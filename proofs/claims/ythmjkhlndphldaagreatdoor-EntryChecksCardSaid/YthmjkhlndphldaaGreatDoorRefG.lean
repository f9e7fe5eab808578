/- dayref1.Sums, dayref1.Entry: what each returns. -/
import Derived.Test.YthmjkhlndphldaaGreatDoorRefF
import Derived.Test.YthmjkhlndphldaaGreatDoorRefD
import Derived.Deep.RegionHeld3
import Derived.Deep.AppendLies
namespace Go.Proofs.YthmjkhlndphldaaGreatDoor
open Go Go.RowKit
set_option linter.unusedVariables false

theorem step_push {P : Program} (w : World) {α : Type} {enc : α → List Value} {ops : Array Oper} {o : Oper} {a : Act} {K : Act → World → Prop} {Q : Exit → Act → World → Prop} {E : Prop} (hgd : o.guard = none) (s x : Operand) (t : TypeId)
    (ho : o.op = .call { callee := .builtin .append, args := #[s, x], argTypes := #[t, t] })
    (B : Nat) (e : TypeId) (i : TypeInfo) (z : Value) (sz bytes : Nat) (ht : P.underlying t = some (.slice e)) (hi : P.info? e = some i) (hz : i.zero = some z)
    (hsize : i.size = sz) (hby : i.bytes = bytes) (hzs : z.cells.size = sz) (hsz : 0 < sz) (he : Enc sz enc) (v : Value) (l : List α) (hs : a.eval s = v) (hown : Own w B e sz enc v l)
    (A : Option Addr) (m c : Nat) (ys : List α) (hx : a.eval x = .slice A m c) (hr : Rd w sz enc A m ys) (hA : A = none → c = 0)
    (h63 : l.length + m ≤ maxLen) (hbytes : (l.length + m) * bytes ≤ 140737488355328) (hbase : B ≤ w.heap.size)
    (h : ∀ v' w', Own w' B e sz enc v' (l ++ ys) → w.grownBy w' v.ownBlock → (v'.ownBlock = v.ownBlock ∨ v'.ownBlock = some w.heap.size) → K (a.put o.dst v') w') :
    if Region.wanted o (yielded ops a.tmps) = true then Oper.wp P o a w K Q else E := by
  have hw : Region.wanted o (yielded ops a.tmps) = true := by simp [Region.wanted, hgd]
  rw [if_pos hw]
  exact wp_push w s x t ho B e i z sz bytes ht hi hz hsize hby hzs hsz he v l hs hown A m c ys hx hr hA h63 hbytes hbase h

theorem take_map_succ {α β : Type} (f : α → β) (l : List α) (k : Nat) (h : k < l.length) : (l.take (k + 1)).map f = (l.take k).map f ++ [f l[k]] := by
  rw [List.take_succ_eq_append_getElem h, List.map_append]; rfl

set_option maxHeartbeats 1000000 in
set_option maxRecDepth 100000 in
theorem refSums_ok (ref : ByteArray) (ent per : Int) (l : List Line) (A : Option Addr) (n cap : Nat) (w : World) (ha : Rd w 3 lineEnc A n l) (hl : n ≤ 20) (hbn : Bnd 1000000000000000 l) :
    Calls Tryz.prog 65 #[.agg #[.string ref, .int .i64 ent, .int .i64 per, .slice A n cap]] w
      fun e w' => ∃ v, e = .returned v ∧ Own w' w.heap.size 35 3 lineEnc v (canon (l.map blank)) ∧ Below w.heap.size w w' := by
  obtain ⟨i0, hi0, hz0, hz1, hz2⟩ := info_parts line_info
  have Hn := hide ha.1
  go_enter Tryz.func65, Tryz.ntmps65
  go_wp2_with fail
  have hbx : Below w.heap.size w (w.alloc (.cells #[.string ref, .int .i64 ent, .int .i64 per, .slice A n cap] 25)) := (Below.refl _ _).alloc (Nat.le_refl _) _
  have hE0 : EntAt (w.alloc (.cells #[.string ref, .int .i64 ent, .int .i64 per, .slice A n cap] 25)) w.heap.size ref ent per (.slice A n cap) := by unfold EntAt; simp
  have hxs : w.heap.size < (w.alloc (.cells #[.string ref, .int .i64 ent, .int .i64 per, .slice A n cap] 25)).heap.size := by simp
  generalize w.alloc (.cells #[.string ref, .int .i64 ent, .int .i64 per, .slice A n cap] 25) = W1 at hbx hE0 hxs ⊢
  go_loopw [3, 4] (fun ov iv wr => ∃ k : Nat, k ≤ n ∧ iv = .int .i64 k ∧ Own wr W1.heap.size 35 3 lineEnc ov ((l.take k).map blank) ∧ Below W1.heap.size W1 wr) (fun _ iv _ => n - (intOf iv).toNat)
  case atStart => exact ⟨0, by omega, rfl, Own.nil _ _ _ _ _, Below.refl _ _⟩
  case round =>
    obtain ⟨k, hk, rfl, hown, hbr⟩ := hrel
    obtain ⟨e0, e1, e2, e3⟩ := hE0.below hbr
    by_cases hlt : k < n
    · have hkl : k < l.length := by have := Hn.out; omega
      obtain ⟨b, off, rfl, hcs⟩ := (Rd.below (Rd.below ha hbx) hbr).2 (by omega)
      have q0 := hcs k 0 _ hkl rfl
      have q1 := hcs k 1 _ hkl rfl
      have q2 := hcs k 2 _ hkl rfl
      rw [Nat.add_zero] at q0
      clear hcs
      have k0 : (0 : Int) ≤ (k : Int) := by omega
      have k1 : (k : Int) < (n : Int) := by omega
      have hT := take_map_succ blank l k hkl
      have hlen : ((l.take k).map blank).length ≤ 20 := by rw [List.length_map, List.length_take]; omega
      go_wp2_with fail
      have hwl : w.heap.size < wr.heap.size := World.block_lt_of_cell? _ _ e3
      have hbl : b < wr.heap.size := World.block_lt_of_cell? _ _ q1
      have hbl0 : b < W1.heap.size := by
        obtain ⟨b', off', eb, hc'⟩ := (Rd.below ha hbx).2 (by omega)
        injection eb with eb
        injection eb with e1' e2'
        subst e1'
        exact World.block_lt_of_cell? _ _ (hc' k 0 _ hkl rfl)
      have vlow := fun q hq => (hown.block q hq).1
      have hsz := hbr.size
      go_region_held3 (fun w' => w'.cell? ⟨w.heap.size, 3, none⟩ = some (.slice (some ⟨b, off, none⟩) n cap) ∧ w'.cell? ⟨b, off + k * 3 + 1, none⟩ = some (.string l[k].cur) ∧ w'.cell? ⟨b, off + k * 3 + 2, none⟩ = some (.int .i64 l[k].amt))
        (first
          | go_keep
          | (go_split_ands
             refine ⟨?_, ?_, ?_⟩
             · (exact hg3.cell (by assumption) (fun e => by have := vlow _ e.symm; simp only at this; omega))
             · (exact hg3.cell (by assumption) (fun e => by have := vlow _ e.symm; simp only at this; omega))
             · (exact hg3.cell (by assumption) (fun e => by have := vlow _ e.symm; simp only at this; omega))))
        ((refine step_push _ (by rfl) _ _ 23 (by rfl) W1.heap.size 35 i0 zeroLine 3 40 Tryz.underlying23 hi0 hz0 hz1 hz2 rfl (by omega) lineEnc_ok _ ((l.take k).map blank) (by rfl) ((hown.alloc _).below (bdrewN (Below.refl _ _) 1)) _ 1 1 [blank l[k]] (by rfl) (Rd.boxedAt _ lineEnc_ok (blank l[k]) _ _ rfl _ rfl) (by intro h; cases h) (by simp only [maxLen]; omega) (by omega) (by simp; omega) ?_; intro v' w3 hown3 hg3 hat3))
      go_wp2_with fail
      go_roundw
      case rel => exact ⟨k + 1, by omega, by go_num, by rw [hT]; exact hown3, ((bdrewN hbr 1).alloc hbr.size _).grown hg3 (by have := hbr.size; simp; omega) (fun q e => (hown.block q e).1)⟩
      case measure => simp [intOf]; omega
    · have hkn : k = n := by omega
      subst hkn
      have HL : Hid ((l.take k).map blank = l.map blank) := by show _ = _; rw [← Hn.out, List.take_length]
      obtain ⟨VA, vc, rfl, hvc, hvm⟩ := hown.form
      have hrd := hown.rd lineEnc_ok
      rw [HL.out, List.length_map] at hrd hvc
      rw [HL.out, List.length_map]
      have hl20 : l.length ≤ 20 := by have := Hn.out; omega
      go_wp2_with fail
      refine (refGrouped_any (l.map blank) _ l.length _ _ hrd hl20 (blank_bnd hbn)).mono ?_
      rintro e w3 ⟨v, rfl, hown3, hb3⟩
      go_wp2_with fail
      go_ret
      exact ⟨v, rfl, Own.wider hown3 (Nat.le_trans hbx.size hbr.size), (hbx.trans (hbr.mono hbx.size)).trans (hb3.mono (Nat.le_trans hbx.size hbr.size))⟩

/-- the round's word: none of those ahead is other than 0 -/
theorem any_false {l : List Line} {p : Line → Bool} {k : Nat} (h : NoneP l p k) (hk : l.length ≤ k) : l.any p = false := by
  rw [List.any_eq_false]
  intro x hx
  obtain ⟨j, hj, rfl⟩ := List.getElem_of_mem hx
  rw [h j hj (by omega)]; decide
theorem any_true {l : List Line} {p : Line → Bool} {k : Nat} (hk : k < l.length) (h : p l[k] = true) : l.any p = true := List.any_eq_true.2 ⟨_, List.getElem_mem hk, h⟩

set_option maxHeartbeats 4000000 in
set_option maxRecDepth 100000 in
theorem refEntry_any (c : List Acc) (CA : Option Addr) (cn ccap : Nat) (ref : ByteArray) (ent per : Int) (l : List Line) (A : Option Addr) (n cap : Nat) (w : World)
    (hcl : cn ≤ 9223372036854775807) (hcc : cn ≤ ccap) (hc : Accs w CA cn c) (hcok : AccOk c) (hr : ref.size ≤ 9223372036854775807)
    (hl : n ≤ 9223372036854775807) (ha : Rd w 3 lineEnc A n l) (hok : LinesOk l) :
    Calls Tryz.prog 12 #[.slice CA cn ccap, .agg #[.string ref, .int .i64 ent, .int .i64 per, .slice A n cap]] w
      fun e w' => e = .returned (.int .i64 (entE c ref ent per l)) ∧ Below w.heap.size w w' := by
  have hn : l.length = n := ha.1
  have Hn := hide hn
  clear hn
  go_enter Tryz.func12, Tryz.ntmps12
  go_wp2_with fail
  have hbx : Below w.heap.size w (w.alloc (.cells #[.string ref, .int .i64 ent, .int .i64 per, .slice A n cap] 25)) := (Below.refl _ _).alloc (Nat.le_refl _) _
  have hE0 : EntAt (w.alloc (.cells #[.string ref, .int .i64 ent, .int .i64 per, .slice A n cap] 25)) w.heap.size ref ent per (.slice A n cap) := by unfold EntAt; simp
  refine (refChart_any c _ _ _ _ hcl hcc (hc.below hbx) hcok).mono ?_
  rintro e w1 ⟨rfl, hb1⟩
  have hE1 := hE0.below hb1
  have hb1 := hbx.trans (hb1.mono hbx.size)
  by_cases hce : chartE c = 0
  · have HC := hide hce
    rw [hce]
    clear hce
    obtain ⟨e0, e1, e2, e3⟩ := hE1
    go_wp2_with fail
    refine (refRef_any ref _ hr).mono ?_
    rintro e w2 ⟨rfl, rfl⟩
    cases h2 : refB ref with
    | false =>
      have HF := hide (entE_2 (ent := ent) (per := per) (l := l) HC.out h2)
      go_wp2_with fail
      go_ret
      exact ⟨by rw [HF.out]; rfl, hb1⟩
    | true =>
      have H2 := hide h2
      clear h2
      go_wp2_with fail
      refine (refEntity_any ent _).mono ?_
      rintro e w3 ⟨rfl, rfl⟩
      go_wp2_with fail
      refine (refPeriod_any per _).mono ?_
      rintro e w3 ⟨rfl, rfl⟩
      cases h3 : inB 1 12 ent with
      | false =>
        have HF := hide (entE_3 (per := per) (l := l) HC.out H2.out h3)
        clear h3
        go_wp2_with fail
        go_ret
        exact ⟨by rw [HF.out]; rfl, hb1⟩
      | true =>
        have H3 := hide h3
        clear h3
        cases h4 : inB 1 120 per with
        | false =>
          have HF := hide (entE_4 (l := l) HC.out H2.out H3.out h4)
          clear h4
          go_wp2_with fail
          go_ret
          exact ⟨by rw [HF.out]; rfl, hb1⟩
        | true =>
          have HF := hide (entE_5 (l := l) HC.out H2.out H3.out h4)
          clear h4
          by_cases h5 : n < 2
          · have h5' : (n : Int) < 2 := by omega
            have HG : Hid (entE c ref ent per l = 3) := by show _ = _; rw [HF.out, if_pos (by rw [Hn.out]; exact h5)]
            clear h5
            go_wp2_with fail
            go_ret
            exact ⟨by rw [HG.out]; rfl, hb1⟩
          · by_cases h6 : 20 < n
            · have h5' : ¬ (n : Int) < 2 := by omega
              have h6' : (20 : Int) < (n : Int) := by omega
              have HG : Hid (entE c ref ent per l = 4) := by show _ = _; rw [HF.out, if_neg (by rw [Hn.out]; exact h5), if_pos (by rw [Hn.out]; exact h6)]
              clear h5 h6
              go_wp2_with fail
              go_ret
              exact ⟨by rw [HG.out]; rfl, hb1⟩
            · have h5' : ¬ (n : Int) < 2 := by omega
              have h6' : ¬ (20 : Int) < (n : Int) := by omega
              have h5d : decide ((n : Int) < 2) = false := by simpa using h5'
              have h6d : decide ((20 : Int) < (n : Int)) = false := by simpa using h6'
              have HG : Hid (entE c ref ent per l = if linesE c l ≠ 0 then linesE c l else if (canon (l.map blank)).any notZ = true then 11 else 0) := by
                show _ = _; rw [HF.out, if_neg (by rw [Hn.out]; exact h5), if_neg (by rw [Hn.out]; exact h6)]
              have hn20 : n ≤ 20 := by omega
              clear h5 h6
              go_wp2_with fail
              go_loopw [9] (fun iv wr => ∃ k : Nat, k ≤ n ∧ iv = .int .i64 k ∧ LinesTo c l k ∧ EntAt wr w.heap.size ref ent per (.slice A n cap) ∧ Below w.heap.size w wr) (fun iv _ => n - (intOf iv).toNat)
              case atStart => exact ⟨0, by omega, rfl, LinesTo.zero _ _, ⟨e0, e1, e2, e3⟩, hb1⟩
              case round =>
                clear e0 e1 e2 e3
                obtain ⟨k, hk, rfl, hto, hE, hbr⟩ := hrel
                have HTo := hide hto
                clear hto
                obtain ⟨e0, e1, e2, e3⟩ := hE
                by_cases hlt : k < n
                · have hkl : k < l.length := by have := Hn.out; omega
                  obtain ⟨b, off, rfl, hcs⟩ := (Rd.below ha hbr).2 (by omega)
                  have q0 := hcs k 0 _ hkl rfl
                  have q1 := hcs k 1 _ hkl rfl
                  have q2 := hcs k 2 _ hkl rfl
                  rw [Nat.add_zero] at q0
                  clear hcs
                  have k0 : (0 : Int) ≤ (k : Int) := by omega
                  have k1 : (k : Int) < (n : Int) := by omega
                  have hck := hc.below hbr
                  have hkx : l[k].cur.size ≤ 9223372036854775807 := (hok l[k] (List.getElem_mem _)).2
                  have hE : EntAt wr w.heap.size ref ent per (.slice (some ⟨b, off, none⟩) n cap) := ⟨e0, e1, e2, e3⟩
                  go_wp2_with fail
                  refine (refLeaf_any c _ _ _ _ _ hcl (hck.alloc _)).mono ?_
                  rintro e w3 ⟨rfl, rfl⟩
                  by_cases hle : leafE c l[k].acc = 0
                  · have HL := hide hle
                    rw [hle]
                    clear hle
                    go_wp2_with fail
                    refine (refCur_any _ _ hkx).mono ?_
                    rintro e w4 ⟨rfl, rfl⟩
                    cases h2 : curB l[k].cur with
                    | false =>
                      have HX : Hid (lineE c l[k] = 2) := by show _ = _; rw [lineE, if_neg (by rw [HL.out]; simp), if_pos h2]
                      have HR : Hid (entE c ref ent per l = 2) := by show _ = _; rw [HG.out, HTo.out.hit hkl (by rw [HX.out]; decide), HX.out]; rfl
                      clear h2
                      go_wp2_with fail
                      go_ret
                      exact ⟨by rw [HR.out]; rfl, hbr.alloc hbr.size _⟩
                    | true =>
                      have HU := hide h2
                      clear h2
                      go_wp2_with fail
                      refine (refAmount_any l[k].amt _).mono ?_
                      rintro e w5 ⟨rfl, rfl⟩
                      by_cases hz : l[k].amt = 0
                      · have HX : Hid (lineE c l[k] = 1) := by show _ = _; rw [lineE, if_neg (by rw [HL.out]; simp), if_neg (by rw [HU.out]; decide), if_pos hz]
                        have HR : Hid (entE c ref ent per l = 1) := by show _ = _; rw [HG.out, HTo.out.hit hkl (by rw [HX.out]; decide), HX.out]; rfl
                        have hz1 : (l[k].amt == 0) = true := by simpa using hz
                        have h3 : inB (-1000000000000000) 1000000000000000 l[k].amt = true := by rw [hz]; decide
                        rw [h3]
                        clear hz h3
                        go_wp2_with fail
                        go_ret
                        exact ⟨by rw [HR.out]; rfl, hbr.alloc hbr.size _⟩
                      · have HZ := hide hz
                        have hz1 : (l[k].amt == 0) = false := by simpa using hz
                        clear hz
                        cases h3 : inB (-1000000000000000) 1000000000000000 l[k].amt with
                        | false =>
                          have HX : Hid (lineE c l[k] = 1) := by show _ = _; rw [lineE, if_neg (by rw [HL.out]; simp), if_neg (by rw [HU.out]; decide), if_neg HZ.out, if_pos (by rw [farB, h3]; rfl)]
                          have HR : Hid (entE c ref ent per l = 1) := by show _ = _; rw [HG.out, HTo.out.hit hkl (by rw [HX.out]; decide), HX.out]; rfl
                          clear h3
                          go_wp2_with fail
                          go_ret
                          exact ⟨by rw [HR.out]; rfl, hbr.alloc hbr.size _⟩
                        | true =>
                          have HX : Hid (lineE c l[k] = 0) := by show _ = _; rw [lineE, if_neg (by rw [HL.out]; simp), if_neg (by rw [HU.out]; decide), if_neg HZ.out, if_neg (by rw [farB, h3]; decide)]
                          clear h3
                          go_wp2_with fail
                          go_roundw
                          case rel => exact ⟨k + 1, by omega, by go_num, HTo.out.succ hkl HX.out, hE.below ((Below.refl _ _).alloc (Nat.le_refl _) _), hbr.alloc hbr.size _⟩
                          case measure => simp [intOf]; omega
                  · have HL := hide hle
                    have hz1 : (leafE c l[k].acc == 0) = false := by simpa using hle
                    have HX : Hid (lineE c l[k] = leafE c l[k].acc) := by show _ = _; rw [lineE, if_pos hle]
                    have HR : Hid (entE c ref ent per l = leafE c l[k].acc) := by
                      show _ = _
                      have h1 := HTo.out.hit hkl (by rw [HX.out]; exact hle)
                      rw [HG.out, h1, HX.out, if_pos hle]
                    clear hle
                    go_wp2_with fail
                    go_ret
                    exact ⟨by rw [HR.out]; rfl, hbr.alloc hbr.size _⟩
                · have hkn : k = n := by omega
                  subst hkn
                  have H0 := hide (HTo.out.all (by have := Hn.out; omega))
                  have HG2 : Hid (entE c ref ent per l = if (canon (l.map blank)).any notZ = true then 11 else 0) := by show _ = _; rw [HG.out, if_neg (by simpa using H0.out)]
                  have hbn : Bnd 1000000000000000 l := fun x hx => by
                    have := (lineE_ok (linesE_0 H0.out x hx)).2.2.2
                    simp only [farB, inB, Bool.not_eq_false', Bool.and_eq_true, decide_eq_true_eq] at this
                    exact this
                  go_wp2_with fail
                  refine (refSums_ok ref ent per l A k cap _ (Rd.below ha hbr) hn20 hbn).mono ?_
                  rintro e w3 ⟨v, rfl, hown, hb3⟩
                  obtain ⟨VA, vc, rfl, hvc, hvm⟩ := hown.form
                  have hrd := hown.rd lineEnc_ok
                  have hb3 := bthen hbr (Nat.le_refl _) hb3
                  generalize canon (l.map blank) = s at hvc hrd hown HG2 ⊢
                  have hs63 : s.length ≤ 9223372036854775807 := by unfold maxLen at hvm; omega
                  go_wp2_with fail
                  go_loop [12] (fun iv => ∃ j : Nat, j ≤ s.length ∧ iv = .int .i64 j ∧ NoneP s notZ j) (fun iv => s.length - (intOf iv).toNat)
                  case atStart => exact ⟨0, by omega, rfl, NoneP.zero _ _⟩
                  case round =>
                    obtain ⟨j, hj, rfl, hno⟩ := hrel
                    have HN := hide hno
                    clear hno
                    by_cases hjs : j < s.length
                    · obtain ⟨b, off, rfl, hcs⟩ := hrd.2 (by omega)
                      have q2 := hcs j 2 _ hjs rfl
                      clear hcs
                      have j0 : (0 : Int) ≤ (j : Int) := by omega
                      have j1 : (j : Int) < (s.length : Int) := by omega
                      cases h7 : notZ s[j] with
                      | true =>
                        have HR : Hid (entE c ref ent per l = 11) := by show _ = _; rw [HG2.out, if_pos (any_true hjs h7)]
                        have hz1 : (s[j].amt != 0) = true := h7
                        clear h7
                        go_wp2_with fail
                        go_ret
                        exact ⟨by rw [HR.out]; rfl, hb3⟩
                      | false =>
                        have HS := hide (HN.out.succ hjs h7)
                        have hz1 : (s[j].amt != 0) = false := h7
                        clear h7
                        go_wp2_with fail
                        go_round
                        case rel => exact ⟨j + 1, by omega, by go_num, HS.out⟩
                        case measure => simp [intOf]; omega
                    · have HR : Hid (entE c ref ent per l = 0) := by show _ = _; rw [HG2.out, if_neg (by rw [any_false HN.out (by omega)]; decide)]
                      go_wp2_with fail
                      go_ret
                      exact ⟨by rw [HR.out]; rfl, hb3⟩
  · have HF := hide (entE_1 (ref := ref) (ent := ent) (per := per) (l := l) hce)
    have hz1 : (chartE c == 0) = false := by simpa using hce
    have hz2 : (chartE c != 0) = true := by simpa using hce
    clear hce
    go_wp2_with fail
    go_ret
    exact ⟨by rw [HF.out]; rfl, hb1⟩
end Go.Proofs.YthmjkhlndphldaaGreatDoor
