/- money.Add of balances, pair.Left, dayref2.Left: what they return. -/
import Derived.Test.YthmjkhlndphldaaGreatDoorPairX
import Derived.Test.YthmjkhlndphldaaGreatDoorRollAll
import Derived.Deep.RegionHeld3
namespace Go.Proofs.YthmjkhlndphldaaGreatDoor
open Go Go.RowKit
set_option linter.unusedVariables false

theorem two_sum {x y : Int} (hx : mayB x = true) (hy : mayB y = true) : smV ([x, y] : List Int).sum = x + y ∧ smE ([x, y] : List Int).sum = 0 := by
  have h1 := may_le hx
  have h2 := may_le hy
  have hs : ([x, y] : List Int).sum = x + y := by simp
  rw [hs]
  have hin : in64 (x + y) = true := by simp [in64]; omega
  unfold smV smE
  rw [hin]
  exact ⟨rfl, rfl⟩
theorem two_64 {x y : Int} (hx : mayB x = true) (hy : mayB y = true) : Ints64 [x, y] := by
  have h1 := may_le hx
  have h2 := may_le hy
  intro z hz
  simp at hz
  rcases hz with rfl | rfl <;> omega
set_option maxRecDepth 100000 in
theorem madd_any (x y : Int) (w : World) (hx : mayB x = true) (hy : mayB y = true) :
    Calls Tryz.prog 95 #[.int .i64 x, .int .i64 y] w fun e w' => e = .returned (.tuple #[.int .i64 (x + y), .nilIface]) ∧ Below w.heap.size w w' := by
  have hs := two_sum hx hy
  have h64 := two_64 hx hy
  have HS := hide hs
  clear hs
  go_enter Tryz.func95, Tryz.ntmps95
  go_wp2_with fail
  refine (msum_any [x, y] _ 2 2 _ (Rd.lit _ intEnc2_ok [x, y] 2 rfl _ _ rfl) (by omega) h64).mono ?_
  rintro e w1 ⟨rfl, hb1⟩
  rw [HS.out.1, HS.out.2, errV_0 rfl]
  go_wp2_with fail
  go_ret2
  exact ⟨rfl, bof_alloc hb1⟩

/-- what is left, up to k -/
def leftTo (l : List Pr) (b : List Bal) (cur : ByteArray) (k : Nat) : List Int := (l.take k).map (leftAt b cur)
theorem leftTo_succ {l : List Pr} {b : List Bal} {cur : ByteArray} {k : Nat} (hk : k < l.length) : leftTo l b cur (k + 1) = leftTo l b cur k ++ [leftAt b cur l[k]] := by
  unfold leftTo
  rw [List.take_succ_eq_append_getElem hk, List.map_append]
  rfl
theorem leftTo_len {l : List Pr} {b : List Bal} {cur : ByteArray} {k : Nat} (hk : k ≤ l.length) : (leftTo l b cur k).length = k := by
  unfold leftTo
  rw [List.length_map, List.length_take]; omega
theorem leftE_1 {l : List Pr} {b : List Bal} {cur : ByteArray} (h : 20 < l.length) : leftE l b cur = 4 := if_pos h
theorem leftE_2 {l : List Pr} {b : List Bal} {cur : ByteArray} (h : ¬ 20 < l.length) (h2 : balsE b ≠ 0) : leftE l b cur = balsE b := by rw [leftE, if_neg h, if_pos h2]
theorem leftE_3 {l : List Pr} {b : List Bal} {cur : ByteArray} (h : ¬ 20 < l.length) (h2 : balsE b = 0) (h3 : curB cur = false) : leftE l b cur = 2 := by rw [leftE, if_neg h, if_neg (by simpa using h2), if_pos h3]
theorem leftE_4 {l : List Pr} {b : List Bal} {cur : ByteArray} (h : ¬ 20 < l.length) (h2 : balsE b = 0) (h3 : curB cur = true) : leftE l b cur = 0 := by rw [leftE, if_neg h, if_neg (by simpa using h2), if_neg (by rw [h3]; decide)]

theorem cells4 {w w' : World} {g : Nat} {u0 u1 u2 u3 : Value} (hg : g < w.heap.size) (hb : Below w.heap.size w w') (h : w.cell? ⟨g, 0, none⟩ = some u0 ∧ w.cell? ⟨g, 1, none⟩ = some u1 ∧ w.cell? ⟨g, 2, none⟩ = some u2 ∧ w.cell? ⟨g, 3, none⟩ = some u3) :
    w'.cell? ⟨g, 0, none⟩ = some u0 ∧ w'.cell? ⟨g, 1, none⟩ = some u1 ∧ w'.cell? ⟨g, 2, none⟩ = some u2 ∧ w'.cell? ⟨g, 3, none⟩ = some u3 :=
  ⟨below_cell hb hg h.1, below_cell hb hg h.2.1, below_cell hb hg h.2.2.1, below_cell hb hg h.2.2.2⟩
set_option maxHeartbeats 1000000 in
set_option maxRecDepth 100000 in
theorem pleft_any (l : List Pr) (A : Option Addr) (n cap : Nat) (b : List Bal) (BA : Option Addr) (bn bcap : Nat) (cur : ByteArray) (w : World)
    (hl : n ≤ 9223372036854775807) (ha : Rd w 5 prEnc A n l) (hbl : bn ≤ 9223372036854775807) (hb : Rd w 4 balEnc BA bn b) (hcur : cur.size ≤ 9223372036854775807) :
    Calls Tryz.prog 44 #[.slice A n cap, .slice BA bn bcap, .string cur] w fun e w' =>
      ((leftE l b cur ≠ 0 ∧ e = .returned (.tuple #[.slice none 0 0, .iface 108 (.int .i64 (leftE l b cur))])) ∨
        (leftE l b cur = 0 ∧ ∃ v, e = .returned (.tuple #[v, .nilIface]) ∧ Own w' w.heap.size 3 1 intEnc2 v (leftTo l b cur n))) ∧ Below w.heap.size w w' := by
  have hn := ha.1
  have Hn := hide hn
  obtain ⟨i0, hi0, hz0, hz1, hz2⟩ := info_parts int_info2
  by_cases h20 : 20 < n
  · have h20i : (20 : Int) < (n : Int) := by omega
    have HF := hide (leftE_1 (b := b) (cur := cur) (by rw [Hn.out]; exact h20))
    clear h20 hn
    go_enter Tryz.func44, Tryz.ntmps44
    go_wp2_with fail
    go_ret2
    exact ⟨.inl ⟨by rw [HF.out]; decide, by rw [HF.out]; rfl⟩, Below.refl _ _⟩
  · have h20i : ¬ (20 : Int) < (n : Int) := by omega
    have hn20 : n ≤ 20 := by omega
    have H20 : Hid (¬ 20 < l.length) := by show ¬ _; rw [Hn.out]; exact h20
    clear h20 hn
    by_cases he : balsE b = 0
    · have HB := hide he
      clear he
      cases hcu : curB cur with
      | false =>
        have HF := hide (leftE_3 H20.out HB.out hcu)
        have HCU := hide hcu
        clear hcu
        go_enter Tryz.func44, Tryz.ntmps44
        go_wp2_with fail
        refine (lcheck_any b _ _ _ _ hbl hb).mono ?_
        rintro e w1 ⟨rfl, hb1⟩
        rw [errV_0 HB.out]
        go_wp2_with fail
        refine (cur_any _ _ hcur).mono ?_
        rintro e w2 ⟨rfl, hb2⟩
        rw [HCU.out]
        have hb2 := bthen hb1 (Nat.le_refl _) hb2
        go_wp2_with fail
        go_ret2
        exact ⟨.inl ⟨by rw [HF.out]; decide, by rw [HF.out]; rfl⟩, hb2⟩
      | true =>
        have HF := hide (leftE_4 H20.out HB.out hcu)
        have HCU := hide hcu
        clear hcu
        go_enter Tryz.func44, Tryz.ntmps44
        go_wp2_with fail
        refine (lcheck_any b _ _ _ _ hbl hb).mono ?_
        rintro e w1 ⟨rfl, hb1⟩
        rw [errV_0 HB.out]
        go_wp2_with fail
        refine (cur_any _ _ hcur).mono ?_
        rintro e w2 ⟨rfl, hb2⟩
        rw [HCU.out]
        have hb2 := bthen hb1 (Nat.le_refl _) hb2
        go_wp2_with fail
        go_loopw [9, 29] (fun ov iv wr => ∃ k : Nat, k ≤ n ∧ iv = .int .i64 k ∧ Own wr w.heap.size 3 1 intEnc2 ov (leftTo l b cur k) ∧ Below w.heap.size w wr) (fun _ iv _ => n - (intOf iv).toNat)
        case atStart => exact ⟨0, by omega, rfl, Own.nil _ _ _ _ _, hb2⟩
        case round =>
          obtain ⟨k, hk, rfl, hown, hbr⟩ := hrel
          obtain ⟨wo, hwo⟩ : ∃ wo, wo = wr := ⟨_, rfl⟩
          subst hwo
          have hll := leftTo_len (l := l) (b := b) (cur := cur) (k := k) (by have := Hn.out; omega)
          obtain ⟨VA, vc, rfl, hvc, hvm⟩ := hown.form
          rw [hll] at hown hvc ⊢
          have HLL := hide hll
          clear hll
          by_cases hlt : k < n
          · have hkl : k < l.length := by have := Hn.out; omega
            obtain ⟨b0, off, rfl, hcs⟩ := (Rd.below ha hbr).2 (by omega)
            have q0 := hcs k 0 _ hkl rfl
            have q1 := hcs k 1 _ hkl rfl
            have q2 := hcs k 2 _ hkl rfl
            have q3 := hcs k 3 _ hkl rfl
            have q4 := hcs k 4 _ hkl rfl
            rw [Nat.add_zero] at q0
            clear hcs
            have k0 : (0 : Int) ≤ (k : Int) := by omega
            have k1 : (k : Int) < (n : Int) := by omega
            have hsz := hbr.size
            have hX := PrAt.new wo l[k]
            have hB : Below w.heap.size w (wo.alloc (.cells #[.int .i64 l[k].a, .int .i64 l[k].b, .string l[k].one, .string l[k].other, .string l[k].diff] 99)) := hbr.alloc hsz _
            have hO := hown.alloc (.cells #[.int .i64 l[k].a, .int .i64 l[k].b, .string l[k].one, .string l[k].other, .string l[k].diff] 99)
            have HM1 := hide (getB_may HB.out l[k].a l[k].one cur)
            have HM2 := hide (getB_may HB.out l[k].b l[k].other cur)
            go_wp2_with fail
            generalize (wo.alloc (.cells #[.int .i64 l[k].a, .int .i64 l[k].b, .string l[k].one, .string l[k].other, .string l[k].diff] 99)) = W1 at hX hB hO ⊢
            obtain ⟨x0, x1, x2, x3, x4⟩ := hX
            have hS : W1.cell? ⟨wo.heap.size, 0, none⟩ = some (.int .i64 l[k].a) ∧ W1.cell? ⟨wo.heap.size, 1, none⟩ = some (.int .i64 l[k].b) ∧ W1.cell? ⟨wo.heap.size, 2, none⟩ = some (.string l[k].one) ∧ W1.cell? ⟨wo.heap.size, 3, none⟩ = some (.string l[k].other) := ⟨x0, x1, x2, x3⟩
            have hgl : wo.heap.size < W1.drew.heap.size := World.block_lt_of_cell? _ _ x0
            have hB : Below w.heap.size w W1.drew := bdrewN hB 1
            have hO : Own W1.drew w.heap.size 3 1 intEnc2 (.slice VA k vc) (leftTo l b cur k) := hO
            go_region_held3 (fun w' => w'.cell? ⟨wo.heap.size, 0, none⟩ = some (.int .i64 l[k].a) ∧ w'.cell? ⟨wo.heap.size, 1, none⟩ = some (.int .i64 l[k].b) ∧ w'.cell? ⟨wo.heap.size, 2, none⟩ = some (.string l[k].one) ∧ w'.cell? ⟨wo.heap.size, 3, none⟩ = some (.string l[k].other)) (first | exact hS)
              (first | (go_at_call 95; refine (madd_any _ _ _ HM1.out HM2.out).mono ?_; rintro e w5 ⟨rfl, hb5⟩; have hS := cells4 hgl hb5 hS; have hgl := Nat.lt_of_lt_of_le hgl hb5.size; have hO := hO.below hb5; have hB := bthen hB (Nat.le_refl _) hb5) | (go_at_call 100; refine (lget_any b _ _ _ _ _ _ _ hbl (hb.below hB)).mono ?_; rintro e w5 ⟨rfl, hb5⟩; have hS := cells4 hgl hb5 hS; have hgl := Nat.lt_of_lt_of_le hgl hb5.size; have hO := hO.below hb5; have hB := bthen hB (Nat.le_refl _) hb5))
            have hsz5 := hB.size
            have HLA : Hid (leftAt b cur l[k] = getB b l[k].a l[k].one cur + getB b l[k].b l[k].other cur) := rfl
            go_wp2_with (first | (at_builtin; go_loud (refine wpList_push _ rfl _ _ 42 rfl w.heap.size 3 i0 (.int .i64 0) 1 8 Tryz.underlying42 hi0 hz0 hz1 hz2 rfl (by decide) intEnc2_ok _ (leftTo l b cur k) rfl (hO.alloc _) _ 1 1 [leftAt b cur l[k]] rfl (Rd.boxed _ intEnc2_ok _ _ _ rfl) (by intro h; cases h) (by rw [HLL.out]; simp only [maxLen]; omega) (by rw [HLL.out]; omega) (by simp; omega) ?_); intro v' w7 hown7 hg7 hat7))
            go_roundw
            case rel => exact ⟨k + 1, by omega, by go_num, by rw [leftTo_succ hkl]; exact hown7, (hB.alloc hsz5 _).grown hg7 (by simp; omega) (fun q e => (hO.block q e).1)⟩
            case measure => simp [intOf]; omega
          · have hkn : k = n := by omega
            subst hkn
            go_wp2_with fail
            go_ret2
            exact ⟨.inr ⟨HF.out, _, rfl, hown⟩, hbr⟩
    · have HF := hide (leftE_2 (cur := cur) H20.out he)
      have HE := hide he
      have hne := balsE_range b
      obtain ⟨be, hbe⟩ : ∃ be, be = balsE b := ⟨_, rfl⟩
      have HBE := hide hbe
      rw [← hbe] at he
      clear hbe
      go_enter Tryz.func44, Tryz.ntmps44
      go_wp2_with fail
      refine (lcheck_any b _ _ _ _ hbl hb).mono ?_
      rintro e w1 ⟨rfl, hb1⟩
      rw [errV_n HE.out]
      go_wp2_with fail
      go_ret2
      exact ⟨.inl ⟨by rw [HF.out]; exact HE.out, by rw [HF.out]; rfl⟩, hb1⟩
end Go.Proofs.YthmjkhlndphldaaGreatDoor

namespace Go.Proofs.YthmjkhlndphldaaGreatDoor
open Go Go.RowKit
set_option linter.unusedVariables false

set_option maxHeartbeats 1000000 in
set_option maxRecDepth 100000 in
theorem refGet_w (l : List Bal) (ent : Int) (acc cur : ByteArray) (A : Option Addr) (n cap : Nat) (w : World) (hl : n ≤ 9223372036854775807) (ha : Rd w 4 balEnc A n l) :
    Calls Tryz.prog 58 #[.slice A n cap, .int .i64 ent, .string acc, .string cur] w fun e w' => e = .returned (.int .i64 (getB l ent acc cur)) ∧ w = w' := by
  have Hn := hide ha.1
  go_enter Tryz.func58, Tryz.ntmps58
  go_wp2_with fail
  go_loop [9] (fun iv => ∃ k : Nat, k ≤ n ∧ iv = .int .i64 k ∧ NoTo (isAt ent acc cur) l k) (fun iv => n - (intOf iv).toNat)
  case atStart => exact ⟨0, by omega, rfl, NoTo.zero _ _⟩
  case round =>
    obtain ⟨k, hk, rfl, hto⟩ := hrel
    have HTo := hide hto
    clear hto
    by_cases hlt : k < n
    · have hkl : k < l.length := by have := Hn.out; omega
      obtain ⟨b, off, rfl, hcs⟩ := ha.2 (by omega)
      have q0 := hcs k 0 _ hkl rfl
      have q1 := hcs k 1 _ hkl rfl
      have q2 := hcs k 2 _ hkl rfl
      have q3 := hcs k 3 _ hkl rfl
      rw [Nat.add_zero] at q0
      clear hcs
      have k0 : (0 : Int) ≤ (k : Int) := by omega
      have k1 : (k : Int) < (n : Int) := by omega
      cases e1 : (l[k].ent == ent) with
      | false =>
        have HX : Hid (isAt ent acc cur l[k] = false) := by show _ = _; unfold isAt; simp only [e1, Bool.false_and]
        go_wp2_with fail
        go_round
        case rel => exact ⟨k + 1, by omega, by go_num, HTo.out.succ hkl HX.out⟩
        case measure => simp [intOf]; omega
      | true =>
        cases e2 : (l[k].acc.toList == acc.toList) with
        | false =>
          have HX : Hid (isAt ent acc cur l[k] = false) := by show _ = _; unfold isAt; simp only [e1, e2, Bool.false_and, Bool.and_false]
          go_wp2_with fail
          go_round
          case rel => exact ⟨k + 1, by omega, by go_num, HTo.out.succ hkl HX.out⟩
          case measure => simp [intOf]; omega
        | true =>
          cases e3 : (l[k].cur.toList == cur.toList) with
          | false =>
            have HX : Hid (isAt ent acc cur l[k] = false) := by show _ = _; unfold isAt; simp only [e1, e2, e3, Bool.true_and, Bool.and_false]
            go_wp2_with fail
            go_round
            case rel => exact ⟨k + 1, by omega, by go_num, HTo.out.succ hkl HX.out⟩
            case measure => simp [intOf]; omega
          | true =>
            have HX : Hid (isAt ent acc cur l[k] = true) := by show _ = _; unfold isAt; simp only [e1, e2, e3, Bool.true_and]
            have HG := hide (getB_hit HTo.out hkl HX.out)
            go_wp2_with fail
            go_ret
            exact ⟨ret_int HG.out.symm, rfl⟩
    · have HG := hide (getB_none HTo.out (by have := Hn.out; omega))
      go_wp2_with fail
      go_ret
      exact ⟨ret_int HG.out.symm, rfl⟩
theorem refGet_s (l : List Bal) (ent : Int) (acc cur : ByteArray) (A : Option Addr) (n cap : Nat) (w : World) (hl : n ≤ 9223372036854775807) (ha : Rd w 4 balEnc A n l) :
    Calls Tryz.prog 58 #[.slice A n cap, .int .i64 ent, .string acc, .string cur] w fun e w' => e = .returned (.int .i64 (getB l ent acc cur)) ∧ w' = w :=
  (refGet_w l ent acc cur A n cap w hl ha).mono fun e w' h => ⟨h.1, h.2.symm⟩
theorem keep4 {w w' : World} {g o0 o1 o2 o3 : Nat} {u0 u1 u2 u3 : Value} (hg : g < w.heap.size) (hb : Below w.heap.size w w') (h : w.cell? ⟨g, o0, none⟩ = some u0 ∧ w.cell? ⟨g, o1, none⟩ = some u1 ∧ w.cell? ⟨g, o2, none⟩ = some u2 ∧ w.cell? ⟨g, o3, none⟩ = some u3) :
    w'.cell? ⟨g, o0, none⟩ = some u0 ∧ w'.cell? ⟨g, o1, none⟩ = some u1 ∧ w'.cell? ⟨g, o2, none⟩ = some u2 ∧ w'.cell? ⟨g, o3, none⟩ = some u3 :=
  ⟨below_cell hb hg h.1, below_cell hb hg h.2.1, below_cell hb hg h.2.2.1, below_cell hb hg h.2.2.2⟩

set_option maxHeartbeats 1000000 in
set_option maxRecDepth 100000 in
theorem refLeft_any (l : List Pr) (A : Option Addr) (n cap : Nat) (b : List Bal) (BA : Option Addr) (bn bcap : Nat) (cur : ByteArray) (w : World)
    (hl : n ≤ 9223372036854775807) (ha : Rd w 5 prEnc A n l) (hbl : bn ≤ 9223372036854775807) (hb : Rd w 4 balEnc BA bn b) (hcur : cur.size ≤ 9223372036854775807) :
    Calls Tryz.prog 43 #[.slice A n cap, .slice BA bn bcap, .string cur] w fun e w' =>
      ((leftE l b cur ≠ 0 ∧ e = .returned (.tuple #[.slice none 0 0, .int .i64 (leftE l b cur)])) ∨
        (leftE l b cur = 0 ∧ ∃ v, e = .returned (.tuple #[v, .int .i64 0]) ∧ Own w' w.heap.size 3 1 intEnc2 v (leftTo l b cur n))) ∧ Below w.heap.size w w' := by
  have hn := ha.1
  have Hn := hide hn
  obtain ⟨i0, hi0, hz0, hz1, hz2⟩ := info_parts int_info2
  by_cases h20 : 20 < n
  · have h20i : (20 : Int) < (n : Int) := by omega
    have HF := hide (leftE_1 (b := b) (cur := cur) (by rw [Hn.out]; exact h20))
    clear h20 hn
    go_enter Tryz.func43, Tryz.ntmps43
    go_wp2_with fail
    go_ret2
    exact ⟨.inl ⟨by rw [HF.out]; decide, by rw [HF.out]; rfl⟩, Below.refl _ _⟩
  · have h20i : ¬ (20 : Int) < (n : Int) := by omega
    have hn20 : n ≤ 20 := by omega
    have H20 : Hid (¬ 20 < l.length) := by show ¬ _; rw [Hn.out]; exact h20
    clear h20 hn
    by_cases he : balsE b = 0
    · have HB := hide he
      clear he
      cases hcu : curB cur with
      | false =>
        have HF := hide (leftE_3 H20.out HB.out hcu)
        have HCU := hide hcu
        clear hcu
        go_enter Tryz.func43, Tryz.ntmps43
        go_wp2_with fail
        refine (refLCheck_any b _ _ _ _ hbl hb).mono ?_
        rintro e w1 ⟨rfl, hb1⟩
        rw [HB.out]
        go_wp2_with fail
        refine (refCur_any _ _ hcur).mono ?_
        rintro e w2 ⟨rfl, rfl⟩
        rw [HCU.out]
        go_wp2_with fail
        go_ret2
        exact ⟨.inl ⟨by rw [HF.out]; decide, by rw [HF.out]; rfl⟩, hb1⟩
      | true =>
        have HF := hide (leftE_4 H20.out HB.out hcu)
        have HCU := hide hcu
        clear hcu
        go_enter Tryz.func43, Tryz.ntmps43
        go_wp2_with fail
        refine (refLCheck_any b _ _ _ _ hbl hb).mono ?_
        rintro e w1 ⟨rfl, hb1⟩
        rw [HB.out]
        go_wp2_with fail
        refine (refCur_any _ _ hcur).mono ?_
        rintro e w2 ⟨rfl, rfl⟩
        rw [HCU.out]
        go_wp2_with fail
        go_loopw [10, 11] (fun ov iv wr => ∃ k : Nat, k ≤ n ∧ iv = .int .i64 k ∧ Own wr w.heap.size 3 1 intEnc2 ov (leftTo l b cur k) ∧ Below w.heap.size w wr) (fun _ iv _ => n - (intOf iv).toNat)
        case atStart => exact ⟨0, by omega, rfl, Own.nil _ _ _ _ _, hb1⟩
        case round =>
          obtain ⟨k, hk, rfl, hown, hbr⟩ := hrel
          obtain ⟨wo, hwo⟩ : ∃ wo, wo = wr := ⟨_, rfl⟩
          subst hwo
          have hll := leftTo_len (l := l) (b := b) (cur := cur) (k := k) (by have := Hn.out; omega)
          obtain ⟨VA, vc, rfl, hvc, hvm⟩ := hown.form
          rw [hll] at hown hvc ⊢
          have HLL := hide hll
          clear hll
          by_cases hlt : k < n
          · have hkl : k < l.length := by have := Hn.out; omega
            obtain ⟨b0, off, rfl, hcs⟩ := (Rd.below ha hbr).2 (by omega)
            have q0 := hcs k 0 _ hkl rfl
            have q1 := hcs k 1 _ hkl rfl
            have q2 := hcs k 2 _ hkl rfl
            have q3 := hcs k 3 _ hkl rfl
            rw [Nat.add_zero] at q0
            clear hcs
            have k0 : (0 : Int) ≤ (k : Int) := by omega
            have k1 : (k : Int) < (n : Int) := by omega
            have hsz := hbr.size
            have HM1 := hide (getB_may HB.out l[k].a l[k].one cur)
            have HM2 := hide (getB_may HB.out l[k].b l[k].other cur)
            have HSM := hide (two_sum HM1.out HM2.out)
            have q04 : wo.cell? ⟨b0, off + k * 5, none⟩ = some (.int .i64 l[k].a) ∧ wo.cell? ⟨b0, off + k * 5 + 1, none⟩ = some (.int .i64 l[k].b) ∧ wo.cell? ⟨b0, off + k * 5 + 2, none⟩ = some (.string l[k].one) ∧ wo.cell? ⟨b0, off + k * 5 + 3, none⟩ = some (.string l[k].other) := ⟨q0, q1, q2, q3⟩
            have hB : Below w.heap.size w wo.drew := bdrewN hbr 1
            have hO : Own wo.drew w.heap.size 3 1 intEnc2 (.slice VA k vc) (leftTo l b cur k) := hown
            have hgl : b0 < wo.heap.size := World.block_lt_of_cell? _ _ q0
            have hS := q04
            have hrl : Rd (wo.alloc (.cells #[.int .i64 (getB b l[k].a l[k].one cur), .int .i64 (getB b l[k].b l[k].other cur)] 3)).drew 1 intEnc2 (some ⟨wo.heap.size, 0, none⟩) 2 [getB b l[k].a l[k].one cur, getB b l[k].b l[k].other cur] := Rd.lit wo intEnc2_ok [getB b l[k].a l[k].one cur, getB b l[k].b l[k].other cur] 2 rfl _ _ rfl
            have hal : Below wo.heap.size wo (wo.alloc (.cells #[.int .i64 (getB b l[k].a l[k].one cur), .int .i64 (getB b l[k].b l[k].other cur)] 3)).drew := ((Below.refl _ _).alloc (Nat.le_refl _) (.cells #[.int .i64 (getB b l[k].a l[k].one cur), .int .i64 (getB b l[k].b l[k].other cur)] 3)).drew
            have hls : wo.heap.size ≤ (wo.alloc (.cells #[.int .i64 (getB b l[k].a l[k].one cur), .int .i64 (getB b l[k].b l[k].other cur)] 3)).drew.heap.size := hal.size
            go_wp2_with fail
            go_region_held3 (fun w' => w'.cell? ⟨b0, off + k * 5, none⟩ = some (.int .i64 l[k].a) ∧ w'.cell? ⟨b0, off + k * 5 + 1, none⟩ = some (.int .i64 l[k].b) ∧ w'.cell? ⟨b0, off + k * 5 + 2, none⟩ = some (.string l[k].one) ∧ w'.cell? ⟨b0, off + k * 5 + 3, none⟩ = some (.string l[k].other)) (first | exact hS | exact keep4 hgl hal hS)
              (first | (go_at_call 84; refine (refSum_any [getB b l[k].a l[k].one cur, getB b l[k].b l[k].other cur] _ 2 2 _ hrl (by omega) (two_64 HM1.out HM2.out)).mono ?_; rintro e w5 ⟨rfl, hb5⟩; rw [HSM.out.1, HSM.out.2]; have hb5 := hal.trans (hb5.mono hls); have hS := keep4 hgl hb5 hS) | (go_at_call 58; refine (refGet_s b _ _ _ _ _ _ _ hbl (hb.below hB)).mono ?_; rintro e w5 ⟨rfl, rfl⟩))
            have hO := hown.below hb5
            have hB := bthen hbr (Nat.le_refl _) hb5
            have hsz5 := hB.size
            go_wp2_with (first | (at_builtin; go_loud (refine wpList_push _ rfl _ _ 42 rfl w.heap.size 3 i0 (.int .i64 0) 1 8 Tryz.underlying42 hi0 hz0 hz1 hz2 rfl (by decide) intEnc2_ok _ (leftTo l b cur k) rfl (hO.alloc _) _ 1 1 [leftAt b cur l[k]] rfl (Rd.boxed _ intEnc2_ok _ _ _ rfl) (by intro h; cases h) (by rw [HLL.out]; simp only [maxLen]; omega) (by rw [HLL.out]; omega) (by simp; omega) ?_); intro v' w7 hown7 hg7 hat7))
            go_roundw
            case rel => exact ⟨k + 1, by omega, by go_num, by rw [leftTo_succ hkl]; exact hown7, (hB.alloc hsz5 _).grown hg7 (by simp; omega) (fun q e => (hO.block q e).1)⟩
            case measure => simp [intOf]; omega
          · have hkn : k = n := by omega
            subst hkn
            go_wp2_with fail
            go_ret2
            exact ⟨.inr ⟨HF.out, _, rfl, hown⟩, hbr⟩
    · have HF := hide (leftE_2 (cur := cur) H20.out he)
      obtain ⟨be, hbe⟩ : ∃ be, be = balsE b := ⟨_, rfl⟩
      have HBE := hide hbe
      rw [← hbe] at he HF
      have hz : (be == 0) = false := by rw [beq_eq_false_iff_ne]; exact he
      have HE := hide he
      clear hbe he
      go_enter Tryz.func43, Tryz.ntmps43
      go_wp2_with fail
      refine (refLCheck_any b _ _ _ _ hbl hb).mono ?_
      rintro e w1 ⟨rfl, hb1⟩
      rw [← HBE.out]
      go_wp2_with fail
      go_ret2
      exact ⟨.inl ⟨by rw [HF.out]; exact HE.out, by rw [HF.out]; rfl⟩, hb1⟩
end Go.Proofs.YthmjkhlndphldaaGreatDoor
