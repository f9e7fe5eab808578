/- dayref2.Full, Put: what each returns. -/
import Derived.Test.YtafgceikjomnpaaGreatDoorLedZ
import Derived.Test.YtafgceikjomnpaaGreatDoorBalX
import Derived.Test.YtafgceikjomnpaaGreatDoorRefX
namespace Go.Proofs.YtafgceikjomnpaaGreatDoor
open Go Go.RowKit
set_option linter.unusedVariables false

def zeroBal : Value := .agg #[.int .i64 0, .string ⟨#[]⟩, .string ⟨#[]⟩, .int .i64 0]
theorem bal_info : (Tryz.prog.info? 36).map (fun i => (i.zero, i.size, i.bytes)) = some (some zeroBal, 4, 48) := by kernel_rfl

set_option maxHeartbeats 1000000 in
set_option maxRecDepth 100000 in
theorem refFull_any (l : List Bal) (A : Option Addr) (n cap : Nat) (w : World) (hl : n ≤ 1000) (ha : Rd w 4 balEnc A n l) :
    Calls Tryz.prog 8 #[.slice A n cap] w fun e w' => ∃ v, e = .returned v ∧ Own w' w.heap.size 36 4 balEnc v (fullB l) ∧ Below w.heap.size w w' := by
  obtain ⟨i0, hi0, hz0, hz1, hz2⟩ := info_parts bal_info
  have Hn := hide ha.1
  go_enter Tryz.func8, Tryz.ntmps8
  go_wp2_with fail
  go_loopw [3, 4] (fun ov iv wr => ∃ k : Nat, k ≤ n ∧ iv = .int .i64 k ∧ Own wr w.heap.size 36 4 balEnc ov (fullTo l k) ∧ Below w.heap.size w wr) (fun _ iv _ => n - (intOf iv).toNat)
  case atStart => exact ⟨0, by omega, rfl, Own.nil _ _ _ _ _, Below.refl _ _⟩
  case round =>
    obtain ⟨k, hk, rfl, hown, hbr⟩ := hrel
    by_cases hlt : k < n
    · have hkl : k < l.length := by have := Hn.out; omega
      obtain ⟨b, off, rfl, hcs⟩ := (Rd.below ha hbr).2 (by omega)
      have q0 := hcs k 0 _ hkl rfl
      have q1 := hcs k 1 _ hkl rfl
      have q2 := hcs k 2 _ hkl rfl
      have q3 := hcs k 3 _ hkl rfl
      rw [Nat.add_zero] at q0
      clear hcs
      have k0 : (0 : Int) ≤ (k : Int) := by omega
      have k1 : (k : Int) < (n : Int) := by omega
      have hfl := fullTo_len l k
      obtain ⟨UA, uc, rfl, huc, hum⟩ := hown.form
      by_cases hz : l[k].amt = 0
      · have hzc : (l[k].amt != 0) = false := by simp [hz]
        have HF := hide (fullTo_succ_no hkl hz)
        clear hz
        go_wp2_with fail
        go_roundw
        case rel => exact ⟨k + 1, by omega, by go_num, by rw [HF.out]; exact hown, hbr⟩
        case measure => simp [intOf]; omega
      · have hzc : (l[k].amt != 0) = true := by simp [hz]
        have HF := hide (fullTo_succ_yes hkl hz)
        clear hz
        go_wp2_with (first | (at_builtin; go_loud (refine wpList_push _ rfl _ _ 24 rfl w.heap.size 36 i0 zeroBal 4 48 Tryz.underlying24 hi0 hz0 hz1 hz2 rfl (by decide) balEnc_ok _ (fullTo l k) rfl (hown.alloc _) _ 1 1 [l[k]] rfl (Rd.boxedAt _ balEnc_ok l[k] _ _ rfl _ (by simp)) (by intro h; cases h) (by unfold maxLen; omega) (by omega) (by have := hbr.size; simp; omega) ?_); intro v2 w2 hown2 hg2 hat2; have hb2 := (hbr.alloc hbr.size _).grown hg2 (by have := hbr.size; simp; omega) (fun k e => (hown.block k e).1)))
        go_roundw
        case rel => exact ⟨k + 1, by omega, by go_num, by rw [HF.out]; exact hown2, hb2⟩
        case measure => simp [intOf]; omega
    · go_wp2_with fail
      have HF := hide (fullTo_all (l := l) (k := k) (by have := Hn.out; omega))
      go_ret
      exact ⟨_, rfl, by rw [← HF.out]; exact hown, hbr⟩
end Go.Proofs.YtafgceikjomnpaaGreatDoor

namespace Go.Proofs.YtafgceikjomnpaaGreatDoor
open Go Go.RowKit
set_option linter.unusedVariables false

/-- those ahead of k stand ahead of x -/
def AheadBTo (l : List Bal) (x : Bal) (k : Nat) : Prop := ∀ (j : Nat) (hj : j < l.length), j < k → Pl.lt l[j].pl x.pl = true
theorem AheadBTo.zero (l : List Bal) (x : Bal) : AheadBTo l x 0 := fun _ _ h => absurd h (by omega)
theorem AheadBTo.succ {l : List Bal} {x : Bal} {k : Nat} (h : AheadBTo l x k) (hk : k < l.length) (hc : aheadB l[k] x = true) : AheadBTo l x (k + 1) := by
  intro j hj hjk
  by_cases e : j = k
  · subst e; exact hc
  · exact h j hj (by omega)
theorem put_add {l : List Bal} {x : Bal} {k : Nat} (h : AheadBTo l x k) (hk : k < l.length) (h1 : aheadB l[k] x = false) (h2 : aheadB x l[k] = false) : insB l x = l.set k { l[k] with amt := l[k].amt + x.amt } ∧ l[k].pl = x.pl :=
  ⟨insB_add h hk (Pl.tri h1 h2), Pl.tri h1 h2⟩
theorem put_new {l : List Bal} {x : Bal} {k : Nat} (h : AheadBTo l x k) (hk : k < l.length) (h2 : aheadB x l[k] = true) : insB l x = l.take k ++ [x] ++ l.drop k := insB_new h (by omega) (fun _ => h2)
theorem put_end {l : List Bal} {x : Bal} {k : Nat} (h : AheadBTo l x k) (hk : k = l.length) : insB l x = l.take k ++ [x] ++ l.drop k := insB_new h (by omega) (fun _ => by omega)

set_option maxHeartbeats 4000000 in
set_option maxRecDepth 100000 in
theorem refPut_any (l : List Bal) (x : Bal) (A : Option Addr) (n cap : Nat) (w : World) (hn : n ≤ 1000) (hnc : n ≤ cap) (hcm : cap ≤ maxLen) (ha : Rd w 4 balEnc A n l) (hA : (A = none ∧ cap = 0) ∨ ∃ b off, A = some ⟨b, off, none⟩)
    (hfit : ∀ y, y ∈ l → y.pl = x.pl → -9223372036854775808 ≤ y.amt + x.amt ∧ y.amt + x.amt ≤ 9223372036854775807) :
    Calls Tryz.prog 6 #[.slice A n cap, .agg #[.int .i64 x.ent, .string x.acc, .string x.cur, .int .i64 x.amt]] w fun e w' => ∃ v, e = .returned v ∧ Own w' w.heap.size 36 4 balEnc v (insB l x) ∧ Below w.heap.size w w' := by
  obtain ⟨i0, hi0, hz0, hz1, hz2⟩ := info_parts bal_info
  have Hn := hide ha.1
  have x0 : (w.alloc (.cells #[.int .i64 x.ent, .string x.acc, .string x.cur, .int .i64 x.amt] 36)).cell? ⟨w.heap.size, 0, none⟩ = some (.int .i64 x.ent) := by simp
  have x1 : (w.alloc (.cells #[.int .i64 x.ent, .string x.acc, .string x.cur, .int .i64 x.amt] 36)).cell? ⟨w.heap.size, 1, none⟩ = some (.string x.acc) := by simp
  have x2 : (w.alloc (.cells #[.int .i64 x.ent, .string x.acc, .string x.cur, .int .i64 x.amt] 36)).cell? ⟨w.heap.size, 2, none⟩ = some (.string x.cur) := by simp
  have x3 : (w.alloc (.cells #[.int .i64 x.ent, .string x.acc, .string x.cur, .int .i64 x.amt] 36)).cell? ⟨w.heap.size, 3, none⟩ = some (.int .i64 x.amt) := by simp
  have hbx : Below w.heap.size w (w.alloc (.cells #[.int .i64 x.ent, .string x.acc, .string x.cur, .int .i64 x.amt] 36)) := (Below.refl _ _).alloc (Nat.le_refl _) _
  have hxs : w.heap.size < (w.alloc (.cells #[.int .i64 x.ent, .string x.acc, .string x.cur, .int .i64 x.amt] 36)).heap.size := by simp
  go_enter Tryz.func6, Tryz.ntmps6
  go_wp2_with fail
  generalize w.alloc (.cells #[.int .i64 x.ent, .string x.acc, .string x.cur, .int .i64 x.amt] 36) = W1 at x0 x1 x2 x3 hbx hxs ⊢
  have ha1 := ha.below hbx
  have hcm2 : cap ≤ 9223372036854775807 := hcm
  go_loopw [5] (fun kv wi => ∃ k : Nat, k ≤ n ∧ kv = .int .i64 k ∧ AheadBTo l x k ∧ Below W1.heap.size W1 wi) (fun kv _ => n - (intOf kv).toNat)
  case atStart => exact ⟨0, by omega, rfl, AheadBTo.zero _ _, Below.refl _ _⟩
  case round =>
    obtain ⟨k, hk, rfl, hah, hbi⟩ := hrel
    have HA := hide hah
    clear hah
    have har := ha1.below hbi
    have y0 := below_cell hbi hxs x0
    have y1 := below_cell hbi hxs x1
    have y2 := below_cell hbi hxs x2
    have y3 := below_cell hbi hxs x3
    have hws := hbi.size
    have hwx := Nat.lt_of_lt_of_le hxs hws
    have hbw : Below w.heap.size w wr := hbx.trans (hbi.mono hbx.size)
    have tok0 : True := trivial
    have tok1 : True := trivial
    have tok2 : True := trivial
    by_cases hko : k < n
    · obtain ⟨b, off, rfl, hcs⟩ := har.2 (by omega)
      have hkl : k < l.length := by have := Hn.out; omega
      have p0 := hcs k 0 _ hkl rfl
      have p1 := hcs k 1 _ hkl rfl
      have p2 := hcs k 2 _ hkl rfl
      have p3 := hcs k 3 _ hkl rfl
      rw [Nat.add_zero] at p0
      clear hcs
      have hbs : b < wr.heap.size := World.block_lt_of_cell? _ _ p0
      have k0 : (0 : Int) ≤ (k : Int) := by omega
      have k1 : (k : Int) < (n : Int) := by omega
      have hku : (k : Int) ≤ (cap : Int) := by omega
      have hkc : ¬ cap = k := by omega
      have hkm : (k : Int) ≤ (n : Int) := by omega
      cases ho : aheadB l[k] x with
      | true =>
        have HO := hide ho
        clear ho
        go_wp2_with fail
        refine wp_region_still_tail 10 (by kernel_rfl) (by kernel_rfl) ?_
        simp only [List.take_succ_cons, List.take_zero, List.drop_succ_cons, List.drop_zero]
        change wpStill _ _ wr.drew _ _ _
        repeat still_step
        refine wpStill_nil ?_
        change wpList _ _ _ _ _ wr.drew
        go_wp2_with (first | (go_at_call 16; refine (ahead_any l[k] x _).mono ?_; rintro e w4 ⟨rfl, hb4⟩; rw [HO.out]))
        have hb4 : Below wr.heap.size wr w4 := (bdrewN (Below.refl _ wr) 1).trans hb4
        go_roundw
        case rel => exact ⟨k + 1, by omega, by go_num, HA.out.succ hkl HO.out, hbi.trans (hb4.mono hbi.size)⟩
        case measure => simp [intOf]; omega
      | false =>
        have HO := hide ho
        clear ho
        go_wp2_with fail
        refine wp_region_still_tail 10 (by kernel_rfl) (by kernel_rfl) ?_
        simp only [List.take_succ_cons, List.take_zero, List.drop_succ_cons, List.drop_zero]
        change wpStill _ _ wr.drew _ _ _
        repeat still_step
        refine wpStill_nil ?_
        change wpList _ _ _ _ _ wr.drew
        go_wp2_with (first | (go_at_call 16; refine (ahead_any l[k] x _).mono ?_; rintro e w4 ⟨rfl, hb4⟩; rw [HO.out]; have hb4 : Below wr.heap.size wr w4 := (bdrewN (Below.refl _ wr) 1).trans hb4; have har4 := har.below hb4; have hs4 := hb4.size) | (at_builtin; (have _t0 := tok0); go_loud (refine wpList_push _ rfl _ _ 24 rfl wr.heap.size 36 i0 zeroBal 4 48 Tryz.underlying24 hi0 hz0 hz1 hz2 rfl (by decide) balEnc_ok _ ([] : List Bal) rfl (Own.nil _ _ _ _ _) _ n cap l rfl har4 (by intro h; cases h) (by first | (simp only [maxLen, List.length_nil]; omega) | simp [maxLen]) (by first | (simp only [List.length_nil]; omega) | simp) (by omega) ?_); clear tok0; intro v5 w5 hown5 hg5 hat5; rw [List.nil_append] at hown5; have hb5 : Below wr.heap.size wr w5 := hb4.grown hg5 hb4.size (fun k e => by cases e)))
        have har5 := har.below hb5
        have hs5 := hb5.size
        have s0 := below_cell hb5 hbs p0
        have z0 := below_cell hb5 hwx y0
        have s1 := below_cell hb5 hbs p1
        have z1 := below_cell hb5 hwx y1
        have s2 := below_cell hb5 hbs p2
        have z2 := below_cell hb5 hwx y2
        have s3 := below_cell hb5 hbs p3
        have z3 := below_cell hb5 hwx y3
        obtain ⟨VA, vc, rfl, hvc, hvm⟩ := hown5.form
        rw [Hn.out] at hown5 hvc ⊢
        have hb5w : Below w.heap.size w w5 := hbw.trans (hb5.mono hbw.size)
        cases ho2 : aheadB x l[k] with
        | false =>
          have HX := hide (put_add HA.out hkl HO.out ho2)
          have HP := hide ho2
          clear ho2
          have hft := hfit l[k] (List.getElem_mem _) HX.out.2
          have hf1 := hft.1
          have hf2 := hft.2
          clear hft
          obtain ⟨gv, rfl⟩ : ∃ gv, VA = some ⟨gv, 0, none⟩ := by
            rcases hown5.2 with ⟨hv, h0⟩ | ⟨g9, cap9, cur9, hv, _⟩
            · injection hv with e1 e2 e3; omega
            · injection hv with e1; exact ⟨g9, e1⟩
          have hwa : IntKind.i64.wrap (l[k].amt + x.amt) = l[k].amt + x.amt := IntWalk.i64_in _ (by omega)
          refine wp_region_still_tail 10 (by kernel_rfl) (by kernel_rfl) ?_
          simp only [List.take_succ_cons, List.take_zero, List.drop_succ_cons, List.drop_zero]
          change wpStill _ _ w5.drew _ _ _
          repeat still_step
          refine wpStill_nil ?_
          change wpList _ _ _ _ _ w5.drew
          go_wp2_with (first | (go_at_call 16; refine (ahead_any x l[k] _).mono ?_; rintro e w6 ⟨rfl, hb4⟩; rw [HP.out]; have hb6 : Below w5.heap.size w5 w6 := (bdrewN (Below.refl _ w5) 1).trans hb4; have hown6 := hown5.below hb6; have c3 := hown6.cells balEnc_ok k 3 (.int .i64 l[k].amt) hkl rfl; have g3 := c3.2; have c3 := c3.1; have zz3 := below_cell hb6 (Nat.lt_of_lt_of_le hwx hs5) z3))
          have hb6w : Below w.heap.size w w6 := hb5w.trans (hb6.mono hb5w.size)
          refine wp_region_still_tail 12 (by kernel_rfl) (by kernel_rfl) ?_
          simp only [List.take_succ_cons, List.take_zero, List.drop_succ_cons, List.drop_zero]
          change wpStill _ _ w6.drew _ _ _
          repeat still_step
          refine wpStill_nil ?_
          change wpList _ _ _ _ _ w6.drew
          go_wp2_with fail
          go_ret
          have hst := Own.store balEnc_ok (hown6.below (bdrewN (Below.refl _ w6) 1)) k 3 { l[k] with amt := l[k].amt + x.amt } (.int .i64 (l[k].amt + x.amt)) hkl (by omega) rfl
          exact ⟨_, rfl, by rw [HX.out.1]; exact Own.wider hst hbw.size, (bdrewN hb6w 1).setCell (Nat.le_trans hbw.size (hown5.block gv rfl).1) _⟩
        | true =>
          have HX := hide (put_new HA.out hkl ho2)
          have HP := hide ho2
          clear ho2
          have hL5 : (([] : List Bal) ++ l.take k).length ≤ 1000 := by simp; omega
          have hL6 : ((([] : List Bal) ++ l.take k) ++ [x]).length ≤ 1001 := by simp; omega
          refine wp_region_still_tail 10 (by kernel_rfl) (by kernel_rfl) ?_
          simp only [List.take_succ_cons, List.take_zero, List.drop_succ_cons, List.drop_zero]
          change wpStill _ _ w5.drew _ _ _
          repeat still_step
          refine wpStill_nil ?_
          change wpList _ _ _ _ _ w5.drew
          go_wp2_with (first | (go_at_call 16; refine (ahead_any x l[k] _).mono ?_; rintro e w6 ⟨rfl, hb4⟩; rw [HP.out]; have hb6 : Below wr.heap.size wr w6 := hb5.trans (((bdrewN (Below.refl _ w5) 1).trans hb4).mono hb5.size)) | (at_builtin; (have _t3 := hown9); go_loud (refine wpList_push _ rfl _ _ 24 rfl wr.heap.size 36 i0 zeroBal 4 48 Tryz.underlying24 hi0 hz0 hz1 hz2 rfl (by decide) balEnc_ok _ (([] ++ l.take k) ++ [x]) rfl hown9 _ (n - k) (cap - k) (l.drop k) rfl ((har.below hb9).drop k hk) (by intro h; cases h) (by first | (unfold maxLen; omega) | simp [maxLen]) (by first | omega | simp) (by have := hb9.size; omega) ?_); intro v10 w10 hown10 hg10 hat10; have hb10 := hb9.grown hg10 (by have := hb9.size; omega) (fun k e => (hown9.block k e).1)) | (at_builtin; (have _t2 := tok2); (have _t5 := hown8); go_loud (refine wpList_push _ rfl _ _ 24 rfl wr.heap.size 36 i0 zeroBal 4 48 Tryz.underlying24 hi0 hz0 hz1 hz2 rfl (by decide) balEnc_ok _ ([] ++ l.take k) rfl (hown8.alloc _) _ 1 1 [x] rfl (Rd.boxedAt _ balEnc_ok x _ _ rfl _ (by simp)) (by intro h; cases h) (by first | (unfold maxLen; omega) | simp [maxLen]) (by first | omega | simp) (by have := hb8.size; simp; omega) ?_); clear tok2; intro v9 w9 hown9 hg9 hat9; have hb9 := (hb8.alloc hb8.size _).grown hg9 (by have := hb8.size; simp; omega) (fun k e => (hown8.block k e).1)) | (at_builtin; (have _t1 := tok1); go_loud (refine wpList_push _ rfl _ _ 24 rfl wr.heap.size 36 i0 zeroBal 4 48 Tryz.underlying24 hi0 hz0 hz1 hz2 rfl (by decide) balEnc_ok _ ([] : List Bal) rfl (Own.nil _ _ _ _ _) _ k cap (l.take k) rfl ((har.below hb6).take hk) (by intro h; cases h) (by first | (simp only [maxLen, List.length_nil]; omega) | simp [maxLen]) (by first | (simp only [List.length_nil]; omega) | simp) (by have := hb6.size; omega) ?_); clear tok1; intro v8 w8 hown8 hg8 hat8; have hb8 := hb6.grown hg8 hb6.size (fun k e => by cases e); have z0 := below_cell hb8 hwx y0; have z1 := below_cell hb8 hwx y1; have z2 := below_cell hb8 hwx y2; have z3 := below_cell hb8 hwx y3))
          go_ret
          exact ⟨_, rfl, by rw [HX.out]; rw [List.nil_append] at hown10; exact Own.wider hown10 (by have := hbx.size; omega), hbw.trans (hb10.mono hbw.size)⟩
    · obtain rfl : k = n := by omega
      have HX := hide (put_end HA.out Hn.out.symm)
      have hd : decide ((k : Int) < (k : Int)) = false := by simp
      have k0 : (0 : Int) ≤ (k : Int) := by omega
      have hku : (k : Int) ≤ (cap : Int) := by omega
      have hL5 : (([] : List Bal) ++ l.take k).length ≤ 1000 := by simp; omega
      have hL6 : ((([] : List Bal) ++ l.take k) ++ [x]).length ≤ 1001 := by simp; omega
      rcases hA with ⟨rfl, rfl⟩ | ⟨b, off, rfl⟩
      · obtain rfl : k = 0 := by omega
        go_wp2_with fail
        go_quiet (fail)
        go_wp2_with (first | (at_builtin; (have _t0 := tok0); go_loud (refine wpList_push _ rfl _ _ 24 rfl wr.heap.size 36 i0 zeroBal 4 48 Tryz.underlying24 hi0 hz0 hz1 hz2 rfl (by decide) balEnc_ok _ ([] : List Bal) rfl (Own.nil _ _ _ _ _) _ 0 0 l rfl (har.below (bdrewN (Below.refl _ wr) _)) (by intro h; rfl) (by first | (simp only [maxLen, List.length_nil]; omega) | simp [maxLen]) (by first | (simp only [List.length_nil]; omega) | simp) (by simp) ?_); clear tok0; intro v5 w5 hown5 hg5 hat5; have hb5 : Below wr.heap.size wr w5 := (bdrewN (Below.refl _ wr) _).grown hg5 (Nat.le_refl _) (fun k e => by cases e); clear hown5 hat5 hg5))
        go_quiet (fail)
        have hb6 := bdrewN hb5 nq
        go_wp2_with (first | (at_builtin; (have _t3 := hown9); go_loud (refine wpList_push _ rfl _ _ 24 rfl wr.heap.size 36 i0 zeroBal 4 48 Tryz.underlying24 hi0 hz0 hz1 hz2 rfl (by decide) balEnc_ok _ (([] ++ l.take 0) ++ [x]) rfl hown9 _ 0 0 (l.drop 0) rfl ⟨by rw [List.length_drop, Hn.out] <;> omega, fun h => by omega⟩ (by intro h; first | rfl | cases h) (by first | (unfold maxLen; omega) | simp [maxLen]) (by first | omega | simp) (by have := hb9.size; omega) ?_); intro v10 w10 hown10 hg10 hat10; have hb10 := hb9.grown hg10 (by have := hb9.size; omega) (fun k e => (hown9.block k e).1)) | (at_builtin; (have _t2 := tok2); (have _t5 := hown8); go_loud (refine wpList_push _ rfl _ _ 24 rfl wr.heap.size 36 i0 zeroBal 4 48 Tryz.underlying24 hi0 hz0 hz1 hz2 rfl (by decide) balEnc_ok _ ([] ++ l.take 0) rfl (hown8.alloc _) _ 1 1 [x] rfl (Rd.boxedAt _ balEnc_ok x _ _ rfl _ (by simp)) (by intro h; cases h) (by first | (unfold maxLen; omega) | simp [maxLen]) (by first | omega | simp) (by have := hb8.size; simp; omega) ?_); clear tok2; intro v9 w9 hown9 hg9 hat9; have hb9 := (hb8.alloc hb8.size _).grown hg9 (by have := hb8.size; simp; omega) (fun k e => (hown8.block k e).1)) | (at_builtin; (have _t1 := tok1); go_loud (refine wpList_push _ rfl _ _ 24 rfl wr.heap.size 36 i0 zeroBal 4 48 Tryz.underlying24 hi0 hz0 hz1 hz2 rfl (by decide) balEnc_ok _ ([] : List Bal) rfl (Own.nil _ _ _ _ _) _ 0 0 (l.take 0) rfl ((har.below hb6).take (Nat.le_refl _)) (by intro h; rfl) (by first | (simp only [maxLen, List.length_nil]; omega) | simp [maxLen]) (by first | (simp only [List.length_nil]; omega) | simp) (by have := hb6.size; omega) ?_); clear tok1; intro v8 w8 hown8 hg8 hat8; have hb8 := hb6.grown hg8 hb6.size (fun k e => by cases e); have z0 := below_cell hb8 hwx y0; have z1 := below_cell hb8 hwx y1; have z2 := below_cell hb8 hwx y2; have z3 := below_cell hb8 hwx y3))
        go_ret
        exact ⟨_, rfl, by rw [HX.out]; rw [List.nil_append] at hown10; exact Own.wider hown10 (by have := hbx.size; omega), hbw.trans (hb10.mono hbw.size)⟩
      · by_cases hkc : cap = k
        · subst hkc
          go_wp2_with fail
          go_quiet (fail)
          go_wp2_with (first | (at_builtin; (have _t0 := tok0); go_loud (refine wpList_push _ rfl _ _ 24 rfl wr.heap.size 36 i0 zeroBal 4 48 Tryz.underlying24 hi0 hz0 hz1 hz2 rfl (by decide) balEnc_ok _ ([] : List Bal) rfl (Own.nil _ _ _ _ _) _ cap cap l rfl (har.below (bdrewN (Below.refl _ wr) _)) (by intro h; cases h) (by first | (simp only [maxLen, List.length_nil]; omega) | simp [maxLen]) (by first | (simp only [List.length_nil]; omega) | simp) (by simp) ?_); clear tok0; intro v5 w5 hown5 hg5 hat5; have hb5 : Below wr.heap.size wr w5 := (bdrewN (Below.refl _ wr) _).grown hg5 (Nat.le_refl _) (fun k e => by cases e); clear hown5 hat5 hg5))
          go_quiet (fail)
          have hb6 := bdrewN hb5 nq
          go_wp2_with (first | (at_builtin; (have _t3 := hown9); go_loud (refine wpList_push _ rfl _ _ 24 rfl wr.heap.size 36 i0 zeroBal 4 48 Tryz.underlying24 hi0 hz0 hz1 hz2 rfl (by decide) balEnc_ok _ (([] ++ l.take cap) ++ [x]) rfl hown9 _ 0 0 (l.drop cap) rfl ⟨by rw [List.length_drop, Hn.out] <;> omega, fun h => by omega⟩ (by intro h; first | rfl | cases h) (by first | (unfold maxLen; omega) | simp [maxLen]) (by first | omega | simp) (by have := hb9.size; omega) ?_); intro v10 w10 hown10 hg10 hat10; have hb10 := hb9.grown hg10 (by have := hb9.size; omega) (fun k e => (hown9.block k e).1)) | (at_builtin; (have _t2 := tok2); (have _t5 := hown8); go_loud (refine wpList_push _ rfl _ _ 24 rfl wr.heap.size 36 i0 zeroBal 4 48 Tryz.underlying24 hi0 hz0 hz1 hz2 rfl (by decide) balEnc_ok _ ([] ++ l.take cap) rfl (hown8.alloc _) _ 1 1 [x] rfl (Rd.boxedAt _ balEnc_ok x _ _ rfl _ (by simp)) (by intro h; cases h) (by first | (unfold maxLen; omega) | simp [maxLen]) (by first | omega | simp) (by have := hb8.size; simp; omega) ?_); clear tok2; intro v9 w9 hown9 hg9 hat9; have hb9 := (hb8.alloc hb8.size _).grown hg9 (by have := hb8.size; simp; omega) (fun k e => (hown8.block k e).1)) | (at_builtin; (have _t1 := tok1); go_loud (refine wpList_push _ rfl _ _ 24 rfl wr.heap.size 36 i0 zeroBal 4 48 Tryz.underlying24 hi0 hz0 hz1 hz2 rfl (by decide) balEnc_ok _ ([] : List Bal) rfl (Own.nil _ _ _ _ _) _ cap cap (l.take cap) rfl ((har.below hb6).take (Nat.le_refl _)) (by intro h; cases h) (by first | (simp only [maxLen, List.length_nil]; omega) | simp [maxLen]) (by first | (simp only [List.length_nil]; omega) | simp) (by have := hb6.size; omega) ?_); clear tok1; intro v8 w8 hown8 hg8 hat8; have hb8 := hb6.grown hg8 hb6.size (fun k e => by cases e); have z0 := below_cell hb8 hwx y0; have z1 := below_cell hb8 hwx y1; have z2 := below_cell hb8 hwx y2; have z3 := below_cell hb8 hwx y3))
          go_ret
          exact ⟨_, rfl, by rw [HX.out]; rw [List.nil_append] at hown10; exact Own.wider hown10 (by have := hbx.size; omega), hbw.trans (hb10.mono hbw.size)⟩
        · skip
          go_wp2_with fail
          go_quiet (fail)
          go_wp2_with (first | (at_builtin; (have _t0 := tok0); go_loud (refine wpList_push _ rfl _ _ 24 rfl wr.heap.size 36 i0 zeroBal 4 48 Tryz.underlying24 hi0 hz0 hz1 hz2 rfl (by decide) balEnc_ok _ ([] : List Bal) rfl (Own.nil _ _ _ _ _) _ k cap l rfl (har.below (bdrewN (Below.refl _ wr) _)) (by intro h; cases h) (by first | (simp only [maxLen, List.length_nil]; omega) | simp [maxLen]) (by first | (simp only [List.length_nil]; omega) | simp) (by simp) ?_); clear tok0; intro v5 w5 hown5 hg5 hat5; have hb5 : Below wr.heap.size wr w5 := (bdrewN (Below.refl _ wr) _).grown hg5 (Nat.le_refl _) (fun k e => by cases e); clear hown5 hat5 hg5))
          go_quiet (fail)
          have hb6 := bdrewN hb5 nq
          go_wp2_with (first | (at_builtin; (have _t3 := hown9); go_loud (refine wpList_push _ rfl _ _ 24 rfl wr.heap.size 36 i0 zeroBal 4 48 Tryz.underlying24 hi0 hz0 hz1 hz2 rfl (by decide) balEnc_ok _ (([] ++ l.take k) ++ [x]) rfl hown9 _ 0 (cap - k) (l.drop k) rfl ⟨by rw [List.length_drop, Hn.out] <;> omega, fun h => by omega⟩ (by intro h; first | rfl | cases h) (by first | (unfold maxLen; omega) | simp [maxLen]) (by first | omega | simp) (by have := hb9.size; omega) ?_); intro v10 w10 hown10 hg10 hat10; have hb10 := hb9.grown hg10 (by have := hb9.size; omega) (fun k e => (hown9.block k e).1)) | (at_builtin; (have _t2 := tok2); (have _t5 := hown8); go_loud (refine wpList_push _ rfl _ _ 24 rfl wr.heap.size 36 i0 zeroBal 4 48 Tryz.underlying24 hi0 hz0 hz1 hz2 rfl (by decide) balEnc_ok _ ([] ++ l.take k) rfl (hown8.alloc _) _ 1 1 [x] rfl (Rd.boxedAt _ balEnc_ok x _ _ rfl _ (by simp)) (by intro h; cases h) (by first | (unfold maxLen; omega) | simp [maxLen]) (by first | omega | simp) (by have := hb8.size; simp; omega) ?_); clear tok2; intro v9 w9 hown9 hg9 hat9; have hb9 := (hb8.alloc hb8.size _).grown hg9 (by have := hb8.size; simp; omega) (fun k e => (hown8.block k e).1)) | (at_builtin; (have _t1 := tok1); go_loud (refine wpList_push _ rfl _ _ 24 rfl wr.heap.size 36 i0 zeroBal 4 48 Tryz.underlying24 hi0 hz0 hz1 hz2 rfl (by decide) balEnc_ok _ ([] : List Bal) rfl (Own.nil _ _ _ _ _) _ k cap (l.take k) rfl ((har.below hb6).take (Nat.le_refl _)) (by intro h; cases h) (by first | (simp only [maxLen, List.length_nil]; omega) | simp [maxLen]) (by first | (simp only [List.length_nil]; omega) | simp) (by have := hb6.size; omega) ?_); clear tok1; intro v8 w8 hown8 hg8 hat8; have hb8 := hb6.grown hg8 hb6.size (fun k e => by cases e); have z0 := below_cell hb8 hwx y0; have z1 := below_cell hb8 hwx y1; have z2 := below_cell hb8 hwx y2; have z3 := below_cell hb8 hwx y3))
          go_ret
          exact ⟨_, rfl, by rw [HX.out]; rw [List.nil_append] at hown10; exact Own.wider hown10 (by have := hbx.size; omega), hbw.trans (hb10.mono hbw.size)⟩
end Go.Proofs.YtafgceikjomnpaaGreatDoor

namespace Go.Proofs.YtafgceikjomnpaaGreatDoor
open Go Go.RowKit
set_option linter.unusedVariables false

/-- what is merged so far, none too far -/
def mayTo (l : List Bal) (k : Nat) : Prop := ∀ (j : Nat) (hj : j < l.length), j < k → mayB l[j].amt = true
theorem mayTo.zero (l : List Bal) : mayTo l 0 := fun _ _ h => absurd h (by omega)
theorem mayTo.succ {l : List Bal} {k : Nat} (h : mayTo l k) (hk : k < l.length) (hc : mayB l[k].amt = true) : mayTo l (k + 1) := by
  intro j hj hjk
  by_cases e : j = k
  · subst e; exact hc
  · exact h j hj (by omega)
theorem mayTo.all {l : List Bal} {k : Nat} (h : mayTo l k) (hk : l.length ≤ k) : l.all (fun x => mayB x.amt) = true := by
  rw [List.all_eq_true]
  intro x hx
  obtain ⟨j, hj, rfl⟩ := List.getElem_of_mem hx
  exact h j hj (by omega)
theorem all_no {l : List Bal} {k : Nat} (hk : k < l.length) (hc : mayB l[k].amt = false) : l.all (fun x => mayB x.amt) = false := by
  cases h : l.all (fun x => mayB x.amt) with
  | false => rfl
  | true => have := List.all_eq_true.1 h _ (List.getElem_mem hk); rw [hc] at this; cases this
theorem Own.addrOr {α : Type} {w : World} {B e sz n c : Nat} {A : Option Addr} {enc : α → List Value} {l : List α} (h : Own w B e sz enc (.slice A n c) l) : (A = none ∧ c = 0) ∨ ∃ b off, A = some ⟨b, off, none⟩ := by
  rcases h.2 with ⟨hv, _⟩ | ⟨g', c', cur, hv, _⟩
  · injection hv with e1 e2 e3; exact .inl ⟨e1, e3⟩
  · injection hv with e1; exact .inr ⟨g', 0, e1⟩

end Go.Proofs.YtafgceikjomnpaaGreatDoor
