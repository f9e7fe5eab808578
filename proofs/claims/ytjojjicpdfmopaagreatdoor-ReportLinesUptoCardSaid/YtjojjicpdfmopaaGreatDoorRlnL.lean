/- daylaw5.ReportLines: it returns true. -/
import Derived.Test.YtjojjicpdfmopaaGreatDoorTrlE
import Derived.Test.YtjojjicpdfmopaaGreatDoorRefE
import Derived.BigQuiet
namespace Go.Proofs.YtjojjicpdfmopaaGreatDoor
open Go Go.RowKit
set_option linter.unusedVariables false

theorem count_succ {l : List UInt8} {i : Nat} (hi : i < l.length) : (l.take (i + 1)).count 10 = (l.take i).count 10 + (if l[i] = 10 then 1 else 0) := by
  rw [List.take_succ_eq_append_getElem hi, List.count_append]
  by_cases h : l[i] = 10
  · rw [h, if_pos rfl]; rfl
  · rw [if_neg h]
    congr 1
    rw [List.count_eq_zero]
    intro hm
    exact h (List.mem_singleton.1 hm).symm
/-- none of the first j is the entity's, in currency c -/
def firstB (S : List Bal) (e : Int) (c : ByteArray) (j : Nat) : Bool := (S.take j).all fun y => decide (y.ent ≠ e) || decide (y.cur ≠ c)
theorem firstB_0 (S : List Bal) (e : Int) (c : ByteArray) : firstB S e c 0 = true := by simp [firstB]
theorem firstB_succ {S : List Bal} {e : Int} {c : ByteArray} {j : Nat} (hj : j < S.length) : firstB S e c (j + 1) = (firstB S e c j && (decide (S[j].ent ≠ e) || decide (S[j].cur ≠ c))) := by
  unfold firstB
  rw [List.take_succ_eq_append_getElem hj, List.all_append]
  simp
theorem firstB_iff {S : List Bal} {e : Int} {c : ByteArray} {j : Nat} : firstB S e c j = true ↔ c ∉ curIn e (S.take j) := by
  rw [curIn_mem]
  unfold firstB
  rw [List.all_eq_true]
  constructor
  · rintro h ⟨x, hx, h1, h2⟩
    have := h x hx
    simp [h1, h2] at this
  · intro h x hx
    by_cases h1 : x.ent = e
    · by_cases h2 : x.cur = c
      · exact absurd ⟨x, hx, h1, h2⟩ h
      · simp [h2]
    · simp [h1]
theorem want_first {S : List Bal} {e : Int} {i : Nat} (hi : i < S.length) (h : S[i].ent = e) : wantN S e (i + 1) = wantN S e i + 1 + (if firstB S e S[i].cur i = true then 1 else 0) := by
  rw [want_succ hi, if_pos h]
  by_cases h1 : S[i].cur ∈ curIn e (S.take i)
  · rw [if_pos h1, if_neg (fun h2 => (firstB_iff.1 h2) h1)]
  · rw [if_neg h1, if_pos (firstB_iff.2 h1)]
theorem want_not {S : List Bal} {e : Int} {i : Nat} (hi : i < S.length) (h : S[i].ent ≠ e) : wantN S e (i + 1) = wantN S e i := by
  rw [want_succ hi, if_neg h]; rfl
theorem want_le (S : List Bal) (e : Int) (i : Nat) : wantN S e i ≤ 2 * i := by
  unfold wantN
  have h1 := List.length_filter_le (fun x : Bal => decide (x.ent = e)) (S.take i)
  have h2 := curIn_len (e := e) (S := S.take i)
  rw [List.length_take] at h1 h2
  omega

set_option maxHeartbeats 4000000 in
set_option maxRecDepth 100000 in
theorem reportLines_any (c : List Acc) (S : List Bal) (CA A : Option Addr) (cn ccap n cap : Nat) (e : Int) (w : World) (hcl : cn ≤ 9223372036854775807) (hcc : cn ≤ ccap) (hc : Accs w CA cn c) (hcok : AccOk c) (hl : n ≤ 9223372036854775807) (ha : Rd w 4 balEnc A n S)
    (hz : ∀ x, x ∈ S → x.acc.size ≤ 1048576 ∧ x.cur.size ≤ 1048576) (hz2 : ∀ a, a ∈ c → a.name.size ≤ 1048576) (hlf : w.cell? ⟨2, 0, none⟩ = some (.int .i64 8)) :
    Calls Tryz.prog 3 #[.slice CA cn ccap, .slice A n cap, .int .i64 e] w fun en w' => en = .returned (.bool true) ∧ Below w.heap.size w w' := by
  have HN := hide ha.1
  have HZ := hide hz
  have hlw := World.block_lt_of_cell? _ _ hlf
  have HL := hide hl
  go_enter Tryz.func3, Tryz.ntmps3
  go_wp2_with fail
  refine (accountsL_any w).mono ?_
  rintro en w1 ⟨g1, rfl, hA1, hb1⟩
  have hl1 := below_cell hb1 hlw hlf
  have hs1 := hb1.size
  go_wp2_with fail
  refine (trial_fact _ (some ⟨w1.heap.size, 0, none⟩) _ (hA1.alloc _) (Rd.lit w1 balEnc_ok [balL8] 1 rfl _ _ rfl) (below_cell ((Below.refl w1.heap.size w1).alloc (Nat.le_refl _) _) (by omega) hl1)).mono ?_
  rintro en w2 ⟨rfl, hb2⟩
  have hB2 := bthen hb1 (Nat.le_refl _) (bof_alloc hb2)
  have hfa : factL.toList = [49, 48, 32, 99, 97, 115, 104, 32, 69, 85, 82, 32, 67, 32, 48, 46, 48, 56, 10, 116, 111, 116, 97, 108, 32, 69, 85, 82, 32, 48, 46, 48, 48, 32, 48, 46, 48, 56, 10] := by decide +kernel
  clear hA1 hb1 hb2 hl1 hs1
  have hl2 := below_cell hB2 hlw hlf
  go_wp2_with fail
  refine (trial_any c S CA A cn ccap n cap e 0 w2 hcl hcc (hc.below hB2) hcok hl (ha.below hB2) (by omega) hz hz2 hl2).mono ?_
  rintro en w3 ⟨⟨r, rfl, ⟨m, hm, rfl, _⟩ | ⟨hg, ks, hks, rfl⟩⟩, hb3⟩
  · have hB3 := bthen hB2 (Nat.le_refl _) hb3
    rw [errV_n hm]
    clear hfa
    go_wp2_with fail
    go_ret
    exact ⟨rfl, hB3⟩
  have hB3 := bthen hB2 (Nat.le_refl _) hb3
  have HG := hide hg
  have HKS := hide hks
  obtain ⟨T, hT⟩ : ∃ T : ByteArray, T = ⟨(accT c 0 e S ++ totT 0 e S ks).toArray⟩ := ⟨_, rfl⟩
  rw [← hT]
  have hTl : T.data.toList = accT c 0 e S ++ totT 0 e S ks := by rw [hT]
  have hTs : T.data.toList.length = T.size := Array.length_toList
  have hTz : T.size ≤ 100000000000 := by
    have hsz : Sized c S := ⟨fun x hx => ⟨(hz x hx).1, (hz x hx).2, by
      have h1 := balsE_may (rcE_0 hg.1).2.1 x hx
      unfold mayB inB at h1
      simp at h1; omega⟩, hz2⟩
    have hS : S.length ≤ 200 := by
      have h2 := (rcE_0 hg.1).2.1
      unfold balsE at h2
      by_cases h3 : 200 < S.length
      · rw [if_pos h3] at h2; cases h2
      · omega
    have h1 := accT_len (p := 0) (e := e) hsz (by omega)
    have h2 := totT_len (p := 0) (e := e) (S := S) (ks := ks) (fun z hzk => ⟨by
      obtain ⟨x, hx, _, rfl⟩ := (curIn_mem e S z).1 (hks.mem_iff.1 hzk)
      exact (hz x hx).2, hg.2.2 z (hks.mem_iff.1 hzk)⟩) (by omega)
    have h3 : ks.length ≤ 200 := by rw [hks.length_eq]; exact Nat.le_trans curIn_len hS
    rw [← hTs, hTl, List.length_append]
    have h4 : ks.length * 5300000 ≤ 200 * 5300000 := Nat.mul_le_mul_right _ h3
    have h5 : S.length * 5300000 ≤ 200 * 5300000 := Nat.mul_le_mul_right _ hS
    exact Nat.le_trans (Nat.add_le_add (Nat.le_trans h1 h5) (Nat.le_trans h2 h4)) (by decide)
  have HTL := hide hTl
  have HTS := hide hTs
  have hn200 : n ≤ 200 := by
    have h2 := (rcE_0 hg.1).2.1
    unfold balsE at h2
    by_cases h3 : 200 < S.length
    · rw [if_pos h3] at h2; cases h2
    · have := HN.out; omega
  clear hT hTl hfa hg hks hB2 hb3 hl2
  go_wp2_with fail
  go_loopw [11, 12] (fun lv iv wr => w3 = wr ∧ ∃ i : Nat, i ≤ T.size ∧ iv = .int .i64 i ∧ lv = .int .i64 ((T.data.toList.take i).count 10 : Nat)) (fun _ iv _ => T.size - (intOf iv).toNat)
  case atStart => exact ⟨rfl, 0, by omega, rfl, by simp⟩
  case round =>
    obtain ⟨rfl, i, hi, rfl, rfl⟩ := hrel
    by_cases hlt : i < T.size
    · have i0 : (0 : Int) ≤ (i : Int) := by omega
      have i1 : (i : Int) < (T.size : Int) := by omega
      have hil : i < T.data.toList.length := by have := HTS.out; omega
      have hcs := hide (count_succ hil)
      have hcl := List.count_le_length (a := (10 : UInt8)) (l := T.data.toList.take i)
      rw [List.length_take] at hcl
      have hgt : T.data.toList[i] = T[i] := rfl
      by_cases h10 : T[i].toNat = 10
      · have hx : T[i] = 10 := UInt8.toNat_inj.1 h10
        have hxi : (T[i].toNat : Int) = 10 := by omega
        go_wp2_with fail
        go_roundw
        case rel => exact ⟨trivial, i + 1, by omega, by go_num, by rw [hcs.out, hgt, if_pos hx]; go_num⟩
        case measure => simp [intOf]; omega
      · have hx : ¬ T[i] = 10 := fun h => h10 (by rw [h]; rfl)
        have hxi : ¬ (T[i].toNat : Int) = 10 := by omega
        have hxb : ((T[i].toNat : Int) == 10) = false := by simpa using hxi
        go_wp2_with fail
        go_roundw
        case rel => exact ⟨trivial, i + 1, by omega, by go_num, by rw [hcs.out, hgt, if_neg hx]; go_num⟩
        case measure => simp [intOf]; omega
    · have hie : i = T.size := by omega
      have htk : T.data.toList.take i = T.data.toList := by rw [hie, ← HTS.out, List.take_length]
      rw [htk]
      obtain ⟨L, hL⟩ : ∃ L : Nat, L = T.data.toList.count 10 := ⟨_, rfl⟩
      rw [← hL]
      have HLC := hide hL
      clear hL htk hi hie
      go_wp2_with fail
      go_loopw [13, 14] (fun nv iv wr => ∃ i : Nat, i ≤ n ∧ iv = .int .i64 i ∧ nv = .int .i64 (wantN S e i : Nat) ∧ Hid (∀ x, x ∈ S.take i → x.ent = e → curB x.cur = true) ∧ Below w3.heap.size w3 wr) (fun _ iv _ => n - (intOf iv).toNat)
      case atStart => exact ⟨0, by omega, rfl, by rw [want_0]; rfl, (fun x hx => absurd hx (by simp)), Below.refl _ _⟩
      case round =>
        obtain ⟨i, hi, rfl, rfl, HC, hbr⟩ := hrel
        have hbw := bthen hB3 (Nat.le_refl _) hbr
        by_cases hlt : i < n
        · have hil : i < S.length := by have := HN.out; omega
          obtain ⟨b, off, rfl, hcs⟩ := (Rd.below ha hbw).2 (by omega)
          have q0 := hcs i 0 _ hil rfl
          have q2 := hcs i 2 _ hil rfl
          rw [Nat.add_zero] at q0
          have HCS := hide hcs
          clear hcs
          have hw0 := want_le S e i
          by_cases hx : S[i].ent = e
          · have HX := hide hx
            have hwf := hide (want_first hil hx)
            obtain ⟨W0, hW0⟩ : ∃ W0, W0 = wantN S e i := ⟨_, rfl⟩
            rw [← hW0] at hw0 ⊢
            have HW0 := hide hW0
            clear hW0
            obtain ⟨y, hy⟩ : ∃ y, y = S[i].cur := ⟨_, rfl⟩
            rw [← hy] at q2
            have HY := hide hy
            clear hy
            have hysz : y.size ≤ 9223372036854775807 := by
              have := (HZ.out S[i] (List.getElem_mem hil)).2
              rw [← HY.out] at this; omega
            go_wp2_with fail
            go_loopw [15, 16] (fun fv jv wi => ∃ j : Nat, j ≤ i ∧ jv = .int .i64 j ∧ fv = .bool (firstB S e y j) ∧ Below wr.heap.size wr wi) (fun _ jv _ => i - (intOf jv).toNat)
            case atStart => exact ⟨0, by omega, rfl, by rw [firstB_0], Below.refl _ _⟩
            case round =>
              obtain ⟨j, hj, rfl, rfl, hbj⟩ := hrel
              have hbwj := bthen hbw (Nat.le_refl _) hbj
              by_cases hlj : j < i
              · have hjl : j < S.length := by omega
                obtain ⟨b2, off2, e2, hcs2⟩ := (Rd.below ha hbwj).2 (by omega)
                cases e2
                have r0 := hcs2 j 0 _ hjl rfl
                have r2 := hcs2 j 2 _ hjl rfl
                have s2 := hcs2 i 2 _ hil rfl
                rw [Nat.add_zero] at r0
                replace s2 : _ = some (Value.string S[i].cur) := s2
                rw [← HY.out] at s2
                replace r2 : _ = some (Value.string S[j].cur) := r2
                replace r0 : _ = some (Value.int .i64 S[j].ent) := r0
                clear hcs2
                have hfs := hide (firstB_succ (e := e) (c := y) hjl)
                have j0 : (0 : Int) ≤ (j : Int) := by omega
                have j1 : (j : Int) < (i : Int) := by omega
                have j2 : (j : Int) < (n : Int) := by omega
                have i2 : (i : Int) < (n : Int) := by omega
                have i3 : (0 : Int) ≤ (i : Int) := by omega
                cases hF : firstB S e y j with
                | false =>
                  rw [hF] at hfs
                  go_wp2_with fail
                  go_quiet (fail)
                  go_wp2_with fail
                  go_roundw
                  case rel => exact ⟨j + 1, by omega, by go_num, by rw [hfs.out]; rfl, bdrewN hbj _⟩
                  case measure => simp [intOf]; omega
                | true =>
                  rw [hF] at hfs
                  by_cases hje : S[j].ent = e
                  · by_cases hjc : S[j].cur = y
                    · have HR : Hid (firstB S e y (j + 1) = false) := by show _ = _; rw [hfs.out]; simp [hje, hjc]
                      rw [hje] at r0
                      rw [hjc] at r2
                      have b1 : (e != e) = false := by simp
                      have b2 : (y.toList == y.toList) = true := by simp
                      have b3 : (y.toList != y.toList) = false := by simp
                      clear hfs
                      go_wp2_with fail
                      go_quiet (fail)
                      go_wp2_with fail
                      go_roundw
                      case rel => exact ⟨j + 1, by omega, by go_num, by rw [HR.out], bdrewN hbj _⟩
                      case measure => simp [intOf]; omega
                    · have HR : Hid (firstB S e y (j + 1) = true) := by show _ = _; rw [hfs.out]; simp [hjc]
                      rw [hje] at r0
                      have b1 : (e != e) = false := by simp
                      have b2 : (S[j].cur.toList == y.toList) = false := by rw [beq_toList]; simp [hjc]
                      have b3 : (S[j].cur.toList != y.toList) = true := by rw [bne, b2]; rfl
                      clear hfs
                      go_wp2_with fail
                      go_quiet (fail)
                      go_wp2_with fail
                      go_roundw
                      case rel => exact ⟨j + 1, by omega, by go_num, by rw [HR.out], bdrewN hbj _⟩
                      case measure => simp [intOf]; omega
                  · have HR : Hid (firstB S e y (j + 1) = true) := by show _ = _; rw [hfs.out]; simp [hje]
                    have b1 : (S[j].ent != e) = true := by simpa using hje
                    have b2 : (S[j].ent == e) = false := by simpa using hje
                    clear hfs
                    go_wp2_with fail
                    go_quiet (fail)
                    go_wp2_with fail
                    go_roundw
                    case rel => exact ⟨j + 1, by omega, by go_num, by rw [HR.out], bdrewN hbj _⟩
                    case measure => simp [intOf]; omega
              · have hji : j = i := by omega
                obtain ⟨b2, off2, e2, hcs2⟩ := (Rd.below ha hbwj).2 (by omega)
                cases e2
                have s2 := hcs2 i 2 _ hil rfl
                replace s2 : _ = some (Value.string S[i].cur) := s2
                rw [← HY.out] at s2
                clear hcs2
                have i2 : (i : Int) < (n : Int) := by omega
                have i3 : (0 : Int) ≤ (i : Int) := by omega
                subst hji
                cases hF : firstB S e y j with
                | false =>
                  have HF1 : Hid ((if firstB S e y j = true then 1 else 0) = 0) := by show _ = _; rw [hF]; rfl
                  cases hcb : curB y with
                  | false =>
                    go_wp2_with fail
                    refine (refCur_any y _ hysz).mono ?_
                    rintro en w5 ⟨rfl, rfl⟩
                    rw [hcb]
                    go_wp2_with fail
                    go_ret
                    exact ⟨rfl, bthen hbw (Nat.le_refl _) hbj⟩
                  | true =>
                    go_wp2_with fail
                    refine (refCur_any y _ hysz).mono ?_
                    rintro en w5 ⟨rfl, rfl⟩
                    rw [hcb]
                    have HCB := hide hcb
                    clear hcb
                    go_wp2_with fail
                    go_roundw
                    case rel =>
                      refine ⟨j + 1, by omega, by go_num, ?_, ?_, bthen hbr (Nat.le_refl _) hbj⟩
                      · rw [hwf.out, ← HY.out, HF1.out, ← HW0.out]; go_num
                      · intro x hxm he
                        rw [List.take_succ_eq_append_getElem hil] at hxm
                        rcases List.mem_append.1 hxm with h | h
                        · exact HC.out x h he
                        · obtain rfl := List.mem_singleton.1 h; rw [← HY.out]; exact HCB.out
                    case measure => simp [intOf]; omega
                | true =>
                  have HF1 : Hid ((if firstB S e y j = true then 1 else 0) = 1) := by show _ = _; rw [hF]; rfl
                  cases hcb : curB y with
                  | false =>
                    go_wp2_with fail
                    refine (refCur_any y _ hysz).mono ?_
                    rintro en w5 ⟨rfl, rfl⟩
                    rw [hcb]
                    go_wp2_with fail
                    go_ret
                    exact ⟨rfl, bthen hbw (Nat.le_refl _) hbj⟩
                  | true =>
                    go_wp2_with fail
                    refine (refCur_any y _ hysz).mono ?_
                    rintro en w5 ⟨rfl, rfl⟩
                    rw [hcb]
                    have HCB := hide hcb
                    clear hcb
                    go_wp2_with fail
                    go_roundw
                    case rel =>
                      refine ⟨j + 1, by omega, by go_num, ?_, ?_, bthen hbr (Nat.le_refl _) hbj⟩
                      · rw [hwf.out, ← HY.out, HF1.out, ← HW0.out]; go_num
                      · intro x hxm he
                        rw [List.take_succ_eq_append_getElem hil] at hxm
                        rcases List.mem_append.1 hxm with h | h
                        · exact HC.out x h he
                        · obtain rfl := List.mem_singleton.1 h; rw [← HY.out]; exact HCB.out
                    case measure => simp [intOf]; omega
          · have HX := hide hx
            have hwf := hide (want_not hil hx)
            go_wp2_with fail
            go_roundw
            case rel =>
              refine ⟨i + 1, by omega, by go_num, by rw [hwf.out], ?_, hbr⟩
              intro x hxm he
              rw [List.take_succ_eq_append_getElem hil] at hxm
              rcases List.mem_append.1 hxm with h | h
              · exact HC.out x h he
              · obtain rfl := List.mem_singleton.1 h; exact absurd he HX.out
            case measure => simp [intOf]; omega
        · have hin : i = n := by omega
          have hfin : L = wantN S e i := by
            have h1 := trial_count (p := 0) (rcE_0 HG.out.1).1 HG.out.2.1 (fun x hx he => HC.out x (by rw [hin, ← HN.out, List.take_length]; exact hx) he) HKS.out
            rw [HLC.out, HTL.out, h1, hin, HN.out]
          rw [hfin]
          go_wp2_with fail
          go_ret
          exact ⟨by simp, hbw⟩
end Go.Proofs.YtjojjicpdfmopaaGreatDoor
