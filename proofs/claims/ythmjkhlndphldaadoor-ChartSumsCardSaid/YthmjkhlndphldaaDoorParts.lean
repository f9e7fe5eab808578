/- The statement ChartParts, walked: it returns true. -/
import Derived.Test.YthmjkhlndphldaaDoorChartP
import Derived.Deep.QuietTactic
import Derived.BigQuiet
namespace Go.Proofs.YthmjkhlndphldaaDoor
open Go Go.RowKit
set_option linter.unusedVariables false

theorem accEnc_ok : Enc 5 Acc.enc := ⟨fun _ => rfl, fun a u hu => by
  simp only [Acc.enc, List.mem_cons, List.mem_nil_iff, or_false] at hu
  rcases hu with rfl | rfl | rfl | rfl | rfl <;> rfl⟩

def fact0 : List Acc := [⟨⟨#[49]⟩, ⟨#[97]⟩, 1, ⟨#[]⟩, false⟩, ⟨⟨#[50]⟩, ⟨#[98]⟩, 1, ⟨#[49]⟩, false⟩]
theorem fact0_ok : chartE fact0 = 0 := by decide +kernel
theorem fact0_leaves : leavesTo fact0 2 = [⟨#[50]⟩] := by decide +kernel
theorem fact0_fits : AccOk fact0 := by
  intro i h
  have h2 : i < 2 := h
  rcases (show i = 0 ∨ i = 1 by omega) with rfl | rfl <;> exact ⟨Nat.le_of_ble_eq_true rfl, Nat.le_of_ble_eq_true rfl⟩

theorem leaves_fact (A : Option Addr) (w : World) (ha : Accs w A 2 fact0) :
    Calls Tryd.prog 10 #[.slice A 2 2] w fun e w' => ∃ b off c, e = .returned (.tuple #[.slice (some ⟨b, off, none⟩) 1 c, .nilIface]) ∧ w'.cell? ⟨b, off, none⟩ = some (.string ⟨#[50]⟩) ∧ Below w.heap.size w w' := by
  refine (leaves_ok fact0 A 2 2 w (by omega) (by omega) ha fact0_fits fact0_ok).mono ?_
  rintro e w' ⟨A', c, he, _, _, hr, hb⟩
  rw [fact0_leaves] at he hr
  obtain ⟨b, off, rfl, hc⟩ := hr.2 (by decide)
  exact ⟨b, off, c, he, by have := hc 0 0 (.string ⟨#[50]⟩) (by decide) rfl; simpa using this, hb⟩

/-- the post of a walk that returns true and leaves what was there as it was -/
def SaysTrue (w : World) (e : Ending) (w' : World) : Prop := e = .returned (.bool true) ∧ Below w.heap.size w w'

set_option maxRecDepth 100000 in
theorem parts_bad (l : List Acc) (A : Option Addr) (n cap : Nat) (w : World) (hl : n ≤ 9223372036854775807) (hcap : n ≤ cap) (ha : Accs w A n l) (hok : AccOk l) (he : chartE l ≠ 0) :
    Calls Tryd.prog 3 #[.slice A n cap] w (SaysTrue w) := by
  have HE := hide he
  clear he
  go_enter Tryd.func3, Tryd.ntmps3
  go_wp2_with fail
  refine (leaves_fact _ _ (Rd.lit _ accEnc_ok fact0 2 rfl _ _ rfl)).mono ?_
  rintro e w1 ⟨b1, o1, c1, rfl, hf1, hb1⟩
  have hb1' := bof_alloc hb1
  go_wp2_with fail
  refine (leaves_bad l _ _ _ _ hl hcap (ha.below hb1') hok HE.out).mono ?_
  rintro e w2 ⟨rfl, hb2⟩
  go_wp2_with fail
  go_ret
  exact ⟨rfl, bthen hb1' (Nat.le_refl _) hb2⟩

theorem int_info : (Tryd.prog.info? 3).map (fun i => (i.zero, i.size, i.bytes)) = some (some (.int .i64 0), 1, 8) := by kernel_rfl
theorem make_ints (n : Nat) (hn : n ≤ 1048576) (w : World) :
    (Instr.makeSlice 30 (.int .i64 (n : Int)) (.int .i64 (n : Int))).run Tryd.prog w = .ok (.slice (some ⟨w.heap.size, 0, none⟩) n n) (w.alloc (.cells (Array.replicate n (.int .i64 0)) 3)) := by
  obtain ⟨i0, hi0, hz0, hz1, hz2⟩ := info_parts int_info
  have h := run_mk 30 3 i0 (.int .i64 0) Tryd.underlying30 hi0 hz0 n (by rw [hz2]; omega) (by omega) w
  simpa only [hz1, Nat.mul_one, show (Value.int .i64 0).cells = #[.int .i64 0] from rfl, madeCells_one] using h

theorem under_at (l : List Acc) (i : Nat) (A : Option Addr) (cap : Nat) (w : World) (hcap : l.length ≤ cap) (ha : Accs w A l.length l) (hok : AccOk l) (he : chartE l = 0) (hi : i < l.length) :
    Calls Tryd.prog 11 #[.slice A l.length cap, .string l[i].code] w fun e w' => ∃ b off c, e = .returned (.tuple #[.slice (some ⟨b, off, none⟩) (uIdx l i).length c, .nilIface]) ∧
      (∀ k, (hk : k < (uIdx l i).length) → w'.cell? ⟨b, off + k, none⟩ = some (.string (l[(uIdx l i)[k]]'(uIdx_lt (List.getElem_mem hk))).code)) ∧ Below w.heap.size w w' := by
  have hl := chartE_len he
  refine (under_ok l l[i].code i A l.length cap w hl hcap ha hok he (ch_idx he i hi)).mono ?_
  rintro e w' ⟨A', c, he, _, _, hr, hb⟩
  rw [under_len] at he hr
  obtain ⟨b, off, rfl, hc⟩ := hr.2 (uIdx_pos hi)
  refine ⟨b, off, c, he, fun k hk => ?_, hb⟩
  have hg := under_get l i k hk
  obtain ⟨hk', hg'⟩ := List.getElem?_eq_some_iff.1 hg
  have := hc k 0 (.string (underTo l i l.length)[k]) hk' rfl
  rw [Nat.mul_one, Nat.add_zero, hg'] at this
  exact this

theorem refAt_at (l : List Acc) (c : ByteArray) (k : Nat) (A : Option Addr) (n cap : Nat) (w : World) (hl : n ≤ 9223372036854775807) (ha : Accs w A n l) (hk : idxO l c = some k) :
    Calls Tryd.prog 13 #[.slice A n cap, .string c] w fun e w' => e = .returned (.int .i64 k) ∧ w = w' := by
  have := refAt_any l c A n cap w hl ha
  rw [show idxI l c = k from by simp [idxI, hk]] at this
  exact this

def seenF (f : Nat → Nat) : Nat → Value := fun t => .int .i64 (f t : Int)

theorem uIdx_le (l : List Acc) (i : Nat) : (uIdx l i).length ≤ l.length := by
  unfold uIdx
  exact Nat.le_trans (List.length_filter_le _ _) (by simp)
theorem seen_step {l : List Acc} {i j t : Nat} (h : topB l i = true) (hj : j < (uIdx l i).length) (ht : t = (uIdx l i)[j]) :
    ∀ x, x < l.length → (if x = t then Value.int .i64 ((seenIn l i j t : Int) + 1) else seenF (seenIn l i j) x) = seenF (seenIn l i (j + 1)) x := by
  intro x _
  unfold seenF
  rw [seenIn_step h hj]
  by_cases e : x = t
  · rw [if_pos e, if_pos (e.trans ht), e, Int.natCast_add]; rfl
  · rw [if_neg e, if_neg (fun h => e (h.trans ht.symm))]

set_option maxHeartbeats 4000000 in
set_option maxRecDepth 100000 in
theorem parts_ok (l : List Acc) (A : Option Addr) (cap : Nat) (w : World) (hcap : l.length ≤ cap) (ha : Accs w A l.length l) (hok : AccOk l) (he : chartE l = 0) :
    Calls Tryd.prog 3 #[.slice A l.length cap] w (SaysTrue w) := by
  have HE := hide he
  have hl : l.length ≤ 60 := chartE_len he
  have hmk := make_ints l.length (by omega)
  clear he
  go_enter Tryd.func3, Tryd.ntmps3
  go_wp2_with fail
  refine (leaves_fact _ _ (Rd.lit _ accEnc_ok fact0 2 rfl _ _ rfl)).mono ?_
  rintro e w1 ⟨b1, o1, c1, rfl, hf1, hb1⟩
  have hb1' := bof_alloc hb1
  go_wp2_with fail
  refine (leaves_ok l _ _ _ _ hl hcap (ha.below hb1') hok HE.out).mono ?_
  rintro e w2 ⟨A2, c2, rfl, hc2, hm2, hr2, hb2⟩
  have hb12 := bthen hb1' (Nat.le_refl _) hb2
  go_wp2_with fail
  go_loopw [8, 9] (fun kv iv wr => ∃ i : Nat, i ≤ l.length ∧ iv = .int .i64 i ∧ kv = .int .i64 (leavesTo l i).length ∧ VRow wr w2.heap.size 3 l.length (seenF (seenTo l i)) ∧ Below w2.heap.size w2 wr) (fun _ iv _ => l.length - (intOf iv).toNat)
  case atStart => exact ⟨0, by omega, rfl, rfl, (VRow.made _ _ _ _).congr (fun j _ => by simp [seenF, seenTo]), (Below.refl _ _).alloc (Nat.le_refl _) _⟩
  case round =>
    obtain ⟨i, hi, rfl, rfl, hrow, hbr⟩ := hrel
    by_cases hlt : i < l.length
    · have hbw := bthen hb12 (Nat.le_refl _) hbr
      have har := ha.below hbw
      obtain ⟨b, off, rfl, hcs⟩ := har.at_ (by omega)
      have hcode := (hcs i hlt).1
      clear hcs
      go_wp2_with fail
      refine (under_at l i _ _ _ hcap har hok HE.out hlt).mono ?_
      rintro e w3 ⟨b3, o3, c3, rfl, hu, hb3⟩
      have hpos := uIdx_pos hlt
      have hz : (((uIdx l i).length : Int) == 0) = false := by rw [beq_eq_false_iff_ne]; omega
      have hcode3 := below_cell hb3 (World.block_lt_of_cell? _ _ hcode) hcode
      have hrow3 := hrow.below hb3
      have hb23 := bthen hbr (Nat.le_refl _) hb3
      have hw23 := bthen hb12 (Nat.le_refl _) hb23
      by_cases hleaf : leafE l l[i].code = 0
      · have h1 : (uIdx l i).length = 1 := (leaf_iff HE.out i hlt).2 hleaf
        have hlg := leaves_get hlt hlt hleaf
        obtain ⟨hll, hlg'⟩ := List.getElem?_eq_some_iff.1 hlg
        have h1' : (((uIdx l i).length : Int) == 1) = true := by rw [h1]; rfl
        obtain ⟨b2, o2, rfl, hcl⟩ := hr2.2 (by omega)
        have hlc := hcl (leavesTo l i).length 0 (.string l[i].code) hll (by rw [strEnc, hlg']; rfl)
        rw [Nat.mul_one, Nat.add_zero] at hlc
        have hlc3 := below_cell hb23 (World.block_lt_of_cell? _ _ hlc) hlc
        have d0 : decide ((leavesTo l l.length).length ≤ (leavesTo l i).length) = false := by simp; omega
        have d1 : (0 : Int) ≤ ((leavesTo l i).length : Int) := by omega
        have d2 : ((leavesTo l i).length : Int) < ((leavesTo l l.length).length : Int) := by omega
        clear hlg hlg' hcl h1
        have HL := hide hleaf
        clear hleaf
        have d3 : (leavesTo l i).length ≤ 60 := by have := leavesTo_len l i; omega
        go_wp2_with fail
        go_quiet (fail)
        go_wp2_with fail
        go_loopw [12] (fun jv wi => ∃ j : Nat, j ≤ (uIdx l i).length ∧ jv = .int .i64 j ∧ VRow wi w2.heap.size 3 l.length (seenF (seenIn l i j)) ∧ w3.grownBy wi (some w2.heap.size)) (fun jv _ => (uIdx l i).length - (intOf jv).toNat)
        case atStart => exact ⟨0, by omega, rfl, VRow.congr (hrow3.drewN _) (fun t _ => by simp [seenF, seenIn_zero]), only_drewN (only_refl _ _) _⟩
        case round =>
          obtain ⟨j, hj, rfl, hrowi, honly⟩ := hrel
          have hwi := below_only hw23 (Nat.le_refl _) hb12.size honly
          by_cases hjl : j < (uIdx l i).length
          · obtain ⟨t, ht⟩ : ∃ t, t = (uIdx l i)[j] := ⟨_, rfl⟩
            have htl : t < l.length := by rw [ht]; exact uIdx_lt (List.getElem_mem hjl)
            have hkd : l[t].kind = l[i].kind := (bel_kind HE.out i t htl (by rw [ht]; exact uIdx_bel (List.getElem_mem hjl))).2
            have hk1 : (l[t].kind == l[i].kind) = true := by simp [hkd]
            have hk2 : (l[t].kind != l[i].kind) = false := by simp [hkd]
            have hbg := VRow.ne hrow3 (hu 0 hpos) (fun j => by simp [seenF])
            have hux := only_cell honly hbg (hu j hjl)
            have hux' : _ = some (Value.string l[t].code) := hux.trans (by simp only [← ht])
            have har5 := ha.below hwi
            have HT := hide ht
            have j0 : (0 : Int) ≤ (j : Int) := by omega
            have j2 : (uIdx l i).length ≤ 60 := by have := uIdx_le l i; omega
            have j1 : (j : Int) < ((uIdx l i).length : Int) := by omega
            clear hux hkd ht
            go_wp2_with fail
            refine (find_ok l _ t _ _ _ _ hl hcap har5 hok HE.out (ch_idx HE.out t htl) htl).mono ?_
            rintro e w5 ⟨rfl, hb5⟩
            have har6 := har5.below hb5
            obtain ⟨b', off', hbb, hcs⟩ := har6.at_ (by omega)
            obtain ⟨rfl, rfl⟩ : b = b' ∧ off = off' := by simpa using hbb
            obtain ⟨_, _, q2, q3, _⟩ := hcs i hlt
            have hux5 := below_cell hb5 (World.block_lt_of_cell? _ _ hux') hux'
            have hrow5 := hrowi.below hb5
            have r0 := hrow5.cell t htl
            have r1 := hrow5.frozen t
            unfold seenF at r0
            have s0 : (0 : Int) ≤ (seenIn l i j t : Int) := by omega
            have s1 : (seenIn l i j t : Int) ≤ 61 := by have := seenIn_le l i j t; omega
            have t0 : (0 : Int) ≤ (t : Int) := by omega
            have t1 : (t : Int) < (l.length : Int) := by omega
            have z1 : b < w5.heap.size := World.block_lt_of_cell? _ _ q2
            have z2 : b3 < w5.heap.size := World.block_lt_of_cell? _ _ hux5
            have z3 : w2.heap.size < w5.heap.size := hrow5.lt
            clear hcs hbb
            cases htop : l[i].parent.toList.isEmpty with
            | true =>
              have HTop : Hid (topB l i = true) := by show topB l i = true; simp [topB, hlt, htop]
              go_wp2_with fail
              go_quiet (fail)
              go_wp2_with (go_at_call 13; refine (refAt_at l _ t _ _ _ _ (by omega) (har6.below (bdrewN ((Below.refl _ _).alloc (Nat.le_refl _) _) _)) (ch_idx HE.out t htl)).mono ?_; rintro e w6 ⟨rfl, rfl⟩)
              go_roundw
              case rel => exact ⟨j + 1, by omega, by go_num, VRow.congr (VRow.set_ ((hrow5.below ((Below.refl _ _).alloc (Nat.le_refl _) _)).drewN _) t _) (seen_step HTop.out hjl HT.out), only_setCell (only_drewN (only_below (only_below honly hb5) ((Below.refl _ _).alloc (Nat.le_refl _) _)) _) _ _⟩
              case measure => simp [intOf]; omega
            | false =>
              have HTop : Hid (topB l i = false) := by show topB l i = false; simp [topB, hlt, htop]
              go_wp2_with fail
              go_quiet (fail)
              go_wp2_with fail
              go_roundw
              case rel => exact ⟨j + 1, by omega, by go_num, VRow.congr ((hrow5.below ((Below.refl _ _).alloc (Nat.le_refl _) _)).drewN _) (fun x _ => by unfold seenF; rw [seenIn_no HTop.out, seenIn_no HTop.out]), only_drewN (only_below (only_below honly hb5) ((Below.refl _ _).alloc (Nat.le_refl _) _)) _⟩
              case measure => simp [intOf]; omega
          · go_wp2_with fail
            have hjm : j = (uIdx l i).length := by omega
            subst hjm
            go_roundw
            case rel => exact ⟨i + 1, by omega, by go_num, by rw [leavesTo_yes hlt HL.out, List.length_append, List.length_singleton, Int.natCast_add]; rfl, VRow.congr hrowi (fun x hx => by unfold seenF; rw [seenIn_all x hx]), below_only hb23 (Nat.le_refl _) (Nat.le_refl _) honly⟩
            case measure => simp [intOf]; omega
      · have h1 : (uIdx l i).length ≠ 1 := fun h => hleaf ((leaf_iff HE.out i hlt).1 h)
        have h1' : (((uIdx l i).length : Int) == 1) = false := by rw [beq_eq_false_iff_ne]; omega
        have HL := hide hleaf
        clear hleaf h1
        go_wp2_with fail
        go_loopw [12] (fun jv wi => ∃ j : Nat, j ≤ (uIdx l i).length ∧ jv = .int .i64 j ∧ VRow wi w2.heap.size 3 l.length (seenF (seenIn l i j)) ∧ w3.grownBy wi (some w2.heap.size)) (fun jv _ => (uIdx l i).length - (intOf jv).toNat)
        case atStart => exact ⟨0, by omega, rfl, VRow.congr (hrow3) (fun t _ => by simp [seenF, seenIn_zero]), only_refl _ _⟩
        case round =>
          obtain ⟨j, hj, rfl, hrowi, honly⟩ := hrel
          have hwi := below_only hw23 (Nat.le_refl _) hb12.size honly
          by_cases hjl : j < (uIdx l i).length
          · obtain ⟨t, ht⟩ : ∃ t, t = (uIdx l i)[j] := ⟨_, rfl⟩
            have htl : t < l.length := by rw [ht]; exact uIdx_lt (List.getElem_mem hjl)
            have hkd : l[t].kind = l[i].kind := (bel_kind HE.out i t htl (by rw [ht]; exact uIdx_bel (List.getElem_mem hjl))).2
            have hk1 : (l[t].kind == l[i].kind) = true := by simp [hkd]
            have hk2 : (l[t].kind != l[i].kind) = false := by simp [hkd]
            have hbg := VRow.ne hrow3 (hu 0 hpos) (fun j => by simp [seenF])
            have hux := only_cell honly hbg (hu j hjl)
            have hux' : _ = some (Value.string l[t].code) := hux.trans (by simp only [← ht])
            have har5 := ha.below hwi
            have HT := hide ht
            have j0 : (0 : Int) ≤ (j : Int) := by omega
            have j2 : (uIdx l i).length ≤ 60 := by have := uIdx_le l i; omega
            have j1 : (j : Int) < ((uIdx l i).length : Int) := by omega
            clear hux hkd ht
            go_wp2_with fail
            refine (find_ok l _ t _ _ _ _ hl hcap har5 hok HE.out (ch_idx HE.out t htl) htl).mono ?_
            rintro e w5 ⟨rfl, hb5⟩
            have har6 := har5.below hb5
            obtain ⟨b', off', hbb, hcs⟩ := har6.at_ (by omega)
            obtain ⟨rfl, rfl⟩ : b = b' ∧ off = off' := by simpa using hbb
            obtain ⟨_, _, q2, q3, _⟩ := hcs i hlt
            have hux5 := below_cell hb5 (World.block_lt_of_cell? _ _ hux') hux'
            have hrow5 := hrowi.below hb5
            have r0 := hrow5.cell t htl
            have r1 := hrow5.frozen t
            unfold seenF at r0
            have s0 : (0 : Int) ≤ (seenIn l i j t : Int) := by omega
            have s1 : (seenIn l i j t : Int) ≤ 61 := by have := seenIn_le l i j t; omega
            have t0 : (0 : Int) ≤ (t : Int) := by omega
            have t1 : (t : Int) < (l.length : Int) := by omega
            have z1 : b < w5.heap.size := World.block_lt_of_cell? _ _ q2
            have z2 : b3 < w5.heap.size := World.block_lt_of_cell? _ _ hux5
            have z3 : w2.heap.size < w5.heap.size := hrow5.lt
            clear hcs hbb
            cases htop : l[i].parent.toList.isEmpty with
            | true =>
              have HTop : Hid (topB l i = true) := by show topB l i = true; simp [topB, hlt, htop]
              go_wp2_with fail
              go_quiet (fail)
              go_wp2_with (go_at_call 13; refine (refAt_at l _ t _ _ _ _ (by omega) (har6.below (bdrewN ((Below.refl _ _).alloc (Nat.le_refl _) _) _)) (ch_idx HE.out t htl)).mono ?_; rintro e w6 ⟨rfl, rfl⟩)
              go_roundw
              case rel => exact ⟨j + 1, by omega, by go_num, VRow.congr (VRow.set_ ((hrow5.below ((Below.refl _ _).alloc (Nat.le_refl _) _)).drewN _) t _) (seen_step HTop.out hjl HT.out), only_setCell (only_drewN (only_below (only_below honly hb5) ((Below.refl _ _).alloc (Nat.le_refl _) _)) _) _ _⟩
              case measure => simp [intOf]; omega
            | false =>
              have HTop : Hid (topB l i = false) := by show topB l i = false; simp [topB, hlt, htop]
              go_wp2_with fail
              go_quiet (fail)
              go_wp2_with fail
              go_roundw
              case rel => exact ⟨j + 1, by omega, by go_num, VRow.congr ((hrow5.below ((Below.refl _ _).alloc (Nat.le_refl _) _)).drewN _) (fun x _ => by unfold seenF; rw [seenIn_no HTop.out, seenIn_no HTop.out]), only_drewN (only_below (only_below honly hb5) ((Below.refl _ _).alloc (Nat.le_refl _) _)) _⟩
              case measure => simp [intOf]; omega
          · go_wp2_with fail
            have hjm : j = (uIdx l i).length := by omega
            subst hjm
            go_roundw
            case rel => exact ⟨i + 1, by omega, by go_num, by rw [leavesTo_no hlt HL.out], VRow.congr hrowi (fun x hx => by unfold seenF; rw [seenIn_all x hx]), below_only hb23 (Nat.le_refl _) (Nat.le_refl _) honly⟩
            case measure => simp [intOf]; omega
    · have hil : i = l.length := by omega
      subst hil
      go_wp2_with fail
      go_loop [15] (fun tv => ∃ t : Nat, t ≤ l.length ∧ tv = .int .i64 t) (fun tv => l.length - (intOf tv).toNat)
      case atStart => exact ⟨0, by omega, rfl⟩
      case round =>
        obtain ⟨t, ht, rfl⟩ := hrel
        by_cases htl : t < l.length
        · have r0 := hrow.cell t htl
          unfold seenF at r0
          rw [seen_one HE.out t htl] at r0
          have t0 : (0 : Int) ≤ (t : Int) := by omega
          have t1 : (t : Int) < (l.length : Int) := by omega
          go_wp2_with fail
          go_round
          case rel => exact ⟨t + 1, by omega, by go_num⟩
          case measure => simp [intOf]; omega
        · go_wp2_with fail
          go_ret
          exact ⟨ret_bool (by simp), bthen hb12 (Nat.le_refl _) hbr⟩
end Go.Proofs.YthmjkhlndphldaaDoor
