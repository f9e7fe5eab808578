/- entry.grouped, walked. -/
import Derived.Test.YthmjkhlndphldaaGreatDoorEntB
namespace Go.Proofs.YthmjkhlndphldaaGreatDoor
open Go Go.RowKit
set_option linter.unusedVariables false

theorem Rd.boxedAt {α : Type} {enc : α → List Value} (w : World) {sz : Nat} (he : Enc sz enc) (x : α) (cs : Array Value) (e : TypeId) (hcs : cs.toList = enc x) (g : Nat) (hg : g = w.heap.size) : Rd (w.alloc (.cells cs e)) sz enc (some ⟨g, 0, none⟩) 1 [x] := by
  subst hg; exact Rd.boxed w he x cs e hcs

theorem grpStep_same {o : List Line} {y x : Line} {p : Nat} (hg : o.getLast? = some y) (hp : o.length = p + 1) (hk : y.key = x.key) : grpStep o x = o.set p { y with amt := y.amt + x.amt } := by
  unfold grpStep
  rw [hg]
  dsimp only
  rw [if_pos hk]
  have hd : o.dropLast.length = p := by rw [List.length_dropLast, hp]; rfl
  conv => rhs; rw [getLast_split hg, List.set_append_right _ _ (by omega), hd, Nat.sub_self]
  rfl
theorem grpStep_new {o : List Line} {y x : Line} (hg : o.getLast? = some y) (hk : ¬ y.key = x.key) : grpStep o x = o ++ [x] := by
  unfold grpStep
  rw [hg]
  dsimp only
  rw [if_neg hk]

theorem Own.wider {α : Type} {w : World} {B C e sz : Nat} {enc : α → List Value} {v : Value} {l : List α} (h : Own w C e sz enc v l) (hB : B ≤ C) : Own w B e sz enc v l := by
  refine ⟨h.1, ?_⟩
  rcases h.2 with h2 | ⟨g, cap, cur, h1, h2, h3⟩
  · exact .inl h2
  · exact .inr ⟨g, cap, cur, h1, Nat.le_trans hB h2, h3⟩

theorem grp_canon_to {l s : List Line} (hp : s.Perm l) (hw : WSort s) : grpTo s s.length = canon l := by
  unfold grpTo
  rw [List.take_length]
  exact grp_canon hp hw

set_option maxHeartbeats 4000000 in
set_option maxRecDepth 100000 in
theorem grouped_any (l : List Line) (A : Option Addr) (n c : Nat) (w : World) (h : Rd w 3 lineEnc A n l) (hn : n ≤ 20) (hA : A = none → c = 0) (hb : Bnd 1000000000000000 l) :
    Calls Tryz.prog 78 #[.slice A n c] w fun e w' => ∃ v, e = .returned v ∧ Own w' w.heap.size 35 3 lineEnc v (canon l) ∧ Below w.heap.size w w' := by
  obtain ⟨i0, hi0, hz0, hz1, hz2⟩ := info_parts line_info
  have Hn := hide h.1
  go_enter Tryz.func78, Tryz.ntmps78
  go_wp2_with fail
  refine (clone_lines l A n c _ h hn hA).mono ?_
  rintro e w1 ⟨v, rfl, hown1, hb1⟩
  go_wp2_with fail
  refine (sort_lines l _ v _ hown1 hb1.size (by rw [Hn.out]; exact hn)).mono ?_
  rintro e w2 ⟨rfl, s, hp, hs, hown2, hb2⟩
  have hb2 := hb1.trans hb2
  have hsn : s.length ≤ 20 := by rw [hp.length_eq, Hn.out]; exact hn
  have HF := hide (grp_canon_to hp hs)
  have hbs : Bnd 1000000000000000 s := fun x hx => hb x (hp.mem_iff.1 hx)
  clear hown1 hp hs
  obtain ⟨VA, vc, rfl, hvc, hvm⟩ := hown2.form
  go_wp2_with fail
  go_loopw [2, 12] (fun ov iv wr => ∃ k : Nat, k ≤ s.length ∧ iv = .int .i64 k ∧ Own wr w2.heap.size 35 3 lineEnc ov (grpTo s k) ∧ Below w2.heap.size w2 wr) (fun _ iv _ => s.length - (intOf iv).toNat)
  case atStart => exact ⟨0, by omega, rfl, Own.nil _ _ _ _ _, Below.refl _ _⟩
  case round =>
    obtain ⟨k, hk, rfl, hown, hbr⟩ := hrel
    by_cases hlt : k < s.length
    · obtain ⟨b, off, rfl, hcs⟩ := (hown2.rd lineEnc_ok).2 (by omega)
      have q0 := below_cell hbr (World.block_lt_of_cell? _ _ (hcs k 0 _ hlt rfl)) (hcs k 0 _ hlt rfl)
      have q1 := below_cell hbr (World.block_lt_of_cell? _ _ (hcs k 1 _ hlt rfl)) (hcs k 1 _ hlt rfl)
      have q2 := below_cell hbr (World.block_lt_of_cell? _ _ (hcs k 2 _ hlt rfl)) (hcs k 2 _ hlt rfl)
      rw [Nat.add_zero] at q0
      clear hcs
      have hstep := grpTo_succ s k hlt
      have hgl := grpTo_len s k hk
      have hgb := grpTo_bnd s _ (by omega) hbs k hk
      have hxb := hbs s[k] (List.getElem_mem _)
      have hk0 : (0 : Int) ≤ (k : Int) := by omega
      have hk1 : (k : Int) < (s.length : Int) := by omega
      obtain ⟨UA, uc, rfl, huc, hum⟩ := hown.form
      generalize grpTo s k = o at hstep hgl hgb hown huc ⊢
      cases hg : o.getLast? with
      | none =>
        have ho : o = [] := by simpa using hg
        subst ho
        have hd : decide ((0 : Int) ≤ (-1 : Int)) = false := by decide
        go_wp2_with fail
        go_quiet (fail)
        go_wp2_with (first | (at_builtin; go_loud (refine wpList_push _ rfl _ _ 23 rfl w2.heap.size 35 i0 zeroLine 3 40 Tryz.underlying23 hi0 hz0 hz1 hz2 rfl (by decide) lineEnc_ok _ [] rfl (Own.below hown ((bdrewN ((Below.refl _ _).alloc (Nat.le_refl _) _) _).alloc (by simp) _)) _ 1 1 [s[k]] rfl (Rd.boxedAt _ lineEnc_ok s[k] _ _ rfl _ (by simp)) (by intro h; cases h) (by simp [maxLen]) (by simp) (by have := hbr.size; simp; omega) ?_); intro v' w3 hown3 hg3 hat3))
        go_roundw
        case rel => exact ⟨k + 1, by omega, by go_num, by rw [hstep]; exact hown3, (hbr.trans (((bdrewN ((Below.refl _ _).alloc hbr.size _) _).alloc (by have := hbr.size; simp; omega) _).grown hg3 (by have := hbr.size; simp; omega) (fun k e => (hown.block k e).1)))⟩
        case measure => simp [intOf]; omega
      | some y =>
        have hy : o ≠ [] := by rintro rfl; cases hg
        obtain ⟨p, hp⟩ : ∃ p, o.length = p + 1 := ⟨o.length - 1, by have := List.length_pos_iff.2 hy; omega⟩
        have hyp : o[p]'(by omega) = y := by
          rw [List.getLast?_eq_getElem?, hp, Nat.add_sub_cancel, List.getElem?_eq_getElem (by omega)] at hg
          injection hg
        obtain ⟨gu, hUA⟩ : ∃ gu, UA = some ⟨gu, 0, none⟩ := by
          rcases hown.2 with ⟨hv, h0⟩ | ⟨g', cap, cur, hv, _⟩
          · omega
          · injection hv with e1; exact ⟨g', e1⟩
        subst hUA
        have c0 := hown.cells lineEnc_ok p 0 (.string y.acc) (by omega) (by rw [hyp]; rfl)
        have c1 := hown.cells lineEnc_ok p 1 (.string y.cur) (by omega) (by rw [hyp]; rfl)
        have c2 := hown.cells lineEnc_ok p 2 (.int .i64 y.amt) (by omega) (by rw [hyp]; rfl)
        rw [Nat.add_zero] at c0
        have hyb := hgb y (List.mem_of_getLast? hg)
        have hgu : gu < wr.heap.size := World.block_lt_of_cell? _ _ c0.1
        rw [hp] at hown ⊢
        have HG := hide hg
        have HP := hide hp
        have HY := hide hyp
        have HS := hide hstep
        have p0 : (0 : Int) ≤ (p : Int) := by omega
        have p1 : p ≤ 20 := by omega
        have p2 : (p : Int) < (p : Int) + 1 := by omega
        clear hg hstep hy
        have x0 : (wr.alloc (.cells #[.string s[k].acc, .string s[k].cur, .int .i64 s[k].amt] 35)).cell? ⟨wr.heap.size, 0, none⟩ = some (.string s[k].acc) := by simp
        have x1 : (wr.alloc (.cells #[.string s[k].acc, .string s[k].cur, .int .i64 s[k].amt] 35)).cell? ⟨wr.heap.size, 1, none⟩ = some (.string s[k].cur) := by simp
        have x2 : (wr.alloc (.cells #[.string s[k].acc, .string s[k].cur, .int .i64 s[k].amt] 35)).cell? ⟨wr.heap.size, 2, none⟩ = some (.int .i64 s[k].amt) := by simp
        have hbx : Below wr.heap.size wr (wr.alloc (.cells #[.string s[k].acc, .string s[k].cur, .int .i64 s[k].amt] 35)) := (Below.refl _ _).alloc (Nat.le_refl _) _
        have d0 := below_cell hbx hgu c0.1
        have d1 := below_cell hbx hgu c1.1
        have d2 := below_cell hbx hgu c2.1
        have hxs : wr.heap.size < (wr.alloc (.cells #[.string s[k].acc, .string s[k].cur, .int .i64 s[k].amt] 35)).heap.size := by simp
        go_wp2_with fail
        generalize (wr.alloc (.cells #[.string s[k].acc, .string s[k].cur, .int .i64 s[k].amt] 35)) = W1 at x0 x1 x2 hbx d0 d1 d2 hxs ⊢
        refine wp_region_still_tail 8 (by kernel_rfl) (by kernel_rfl) ?_
        simp only [List.take_succ_cons, List.take_zero, List.drop_succ_cons, List.drop_zero]
        change wpStill _ _ W1.drew _ _ _
        repeat still_step
        refine wpStill_nil ?_
        change wpList _ _ _ _ _ W1.drew
        by_cases hkey : y.key = s[k].key
        · have e1 : (cmpL y s[k] == 0) = true := by rw [beq_iff_eq]; exact (cmpL_0 _ _).2 hkey
          have HK := hide hkey
          clear hkey
          go_wp2_with (first | (go_at_call 122; refine (compare_below y s[k] _).mono ?_; rintro e w4 ⟨rfl, hb4⟩))
          have hb14 : Below wr.heap.size wr w4 := (show Below wr.heap.size wr W1.drew from bdrewN hbx 1).trans (hb4.mono (Nat.le_of_lt hxs))
          have d24 : w4.cell? ⟨gu, p * 3 + 2, none⟩ = some (.int .i64 y.amt) := below_cell hb14 hgu c2.1
          have f24 : w4.frozen? ⟨gu, p * 3 + 2, none⟩ = false := (hb14.frozen (p := ⟨gu, p * 3 + 2, none⟩) hgu).trans c2.2
          have x24 : w4.cell? ⟨wr.heap.size, 2, none⟩ = some (.int .i64 s[k].amt) := below_cell hb4 hxs x2
          have a0 : -30000000000000000 ≤ y.amt := by omega
          have a1 : y.amt ≤ 30000000000000000 := by omega
          have a2 : -30000000000000000 ≤ s[k].amt := by omega
          have a3 : s[k].amt ≤ 30000000000000000 := by omega
          clear d0 d1 d2 x0 x1 x2 c0 c1
          refine wp_region_still_tail 10 (by kernel_rfl) (by kernel_rfl) ?_
          simp only [List.take_succ_cons, List.take_zero, List.drop_succ_cons, List.drop_zero]
          change wpStill _ _ w4.drew _ _ _
          repeat still_step
          refine wpStill_nil ?_
          change wpList _ _ _ _ _ w4.drew
          go_wp2_with fail
          go_roundw
          case rel =>
            have hd4 : Below wr.heap.size wr w4.drew := bdrewN hb14 1
            have hst := Own.store lineEnc_ok (hown.below hd4) p 2 { y with amt := y.amt + s[k].amt } (.int .i64 (y.amt + s[k].amt)) (by have := HP.out; omega) (by omega) (by have e : o[p]'(by have := HP.out; omega) = y := HY.out; rw [e]; rfl)
            exact ⟨k + 1, by omega, by go_num, by rw [HS.out, grpStep_same HG.out HP.out HK.out]; exact hst, (hbr.trans (hd4.mono hbr.size)).setCell (hown.block gu rfl).1 _⟩
          case measure => simp [intOf]; omega
        · have e1 : (cmpL y s[k] == 0) = false := by rw [beq_eq_false_iff_ne]; exact fun h => hkey ((cmpL_0 _ _).1 h)
          have HK := hide hkey
          clear hkey
          have hol : o.length ≤ 20 := by omega
          go_wp2_with (first | (at_builtin; go_loud (refine wpList_push _ rfl _ _ 23 rfl w2.heap.size 35 i0 zeroLine 3 40 Tryz.underlying23 hi0 hz0 hz1 hz2 rfl (by decide) lineEnc_ok _ o rfl (Own.below hown (hb14.trans ((Below.refl _ _).alloc hb14.size _))) _ 1 1 [s[k]] rfl (Rd.boxedAt _ lineEnc_ok s[k] _ _ rfl _ (by simp)) (by intro h; cases h) (by simp only [maxLen]; omega) (by omega) (by simp; omega) ?_); intro v' w5 hown5 hg5 hat5) | (go_at_call 122; refine (compare_below y s[k] _).mono ?_; rintro e w4 ⟨rfl, hb4⟩; have hb14 : Below wr.heap.size wr w4 := (show Below wr.heap.size wr W1.drew from bdrewN hbx 1).trans (hb4.mono (Nat.le_of_lt hxs)); have y0 : w4.cell? ⟨wr.heap.size, 0, none⟩ = some (.string s[k].acc) := below_cell hb4 hxs x0; have y1 : w4.cell? ⟨wr.heap.size, 1, none⟩ = some (.string s[k].cur) := below_cell hb4 hxs x1; have y2 : w4.cell? ⟨wr.heap.size, 2, none⟩ = some (.int .i64 s[k].amt) := below_cell hb4 hxs x2; have hs4 := hbr.size; have hs5 := hb14.size))
          go_roundw
          case rel => exact ⟨k + 1, by omega, by go_num, by rw [HS.out, grpStep_new HG.out HK.out]; exact hown5, (((hbr.trans (hb14.mono hbr.size)).alloc (by omega) _).grown hg5 (by simp; omega) (fun k e => (hown.block k e).1))⟩
          case measure => simp [intOf]; omega
    · go_wp2_with fail
      have hks : k = s.length := by omega
      subst hks
      go_ret
      exact ⟨_, rfl, by rw [← HF.out]; exact Own.wider hown hb2.size, hb2.trans (hbr.mono hb2.size)⟩
end Go.Proofs.YthmjkhlndphldaaGreatDoor
