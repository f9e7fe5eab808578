/- dayref1.Sums, dayref1.Entry: what each returns. -/
import Derived.Test.YtkeapacfmeblgaaGreatDoorRefF
import Derived.Test.YtkeapacfmeblgaaGreatDoorRefD
import Derived.Deep.RegionHeld3
import Derived.Deep.AppendLies
namespace Go.Proofs.YtkeapacfmeblgaaGreatDoor
open Go Go.RowKit
set_option linter.unusedVariables false

theorem step_push {P : Program} (w : World) {α : Type} {enc : α → List Value} {ops : Array Oper} {o : Oper} {a : Act} {K : Act → World → Prop} {Q : Exit → Act → World → Prop} {E : Prop} (hgd : o.guard = none) (s x : Operand) (t : TypeId)
    (ho : o.op = .call { callee := .builtin .append, args := #[s, x], argTypes := #[t, t] })
    (B : Nat) (e : TypeId) (i : TypeInfo) (z : Value) (sz bytes : Nat) (ht : P.underlying t = some (.slice e)) (hi : P.info? e = some i) (hz : i.zero = some z)
    (hsize : i.size = sz) (hby : i.bytes = bytes) (hzs : z.cells.size = sz) (hsz : 0 < sz) (he : Enc sz enc) (v : Value) (l : List α) (hs : a.eval s = v) (hown : Own w B e sz enc v l)
    (A : Option Addr) (m c : Nat) (ys : List α) (hx : a.eval x = .slice A m c) (hr : Rd w sz enc A m ys) (hA : A = none → c = 0)
    (h63 : l.length + m ≤ maxLen) (hbytes : (l.length + m) * bytes ≤ 140737488355328) (hbase : B ≤ w.heap.size)
    (h : ∀ v' w', Own w' B e sz enc v' (l ++ ys) → w.grownBy w' v.ownBlock → (v'.ownBlock = v.ownBlock ∨ v'.ownBlock = some w.heap.size) → K (a.put o.dst v') w') :
    if Region.wanted o (yielded ops a.tmps) = true then Oper.wp P o a w K Q else E := by
  have hw : Region.wanted o (yielded ops a.tmps) = true := by simp [Region.wanted, hgd]
  rw [if_pos hw]
  exact wp_push w s x t ho B e i z sz bytes ht hi hz hsize hby hzs hsz he v l hs hown A m c ys hx hr hA h63 hbytes hbase h

theorem take_map_succ {α β : Type} (f : α → β) (l : List α) (k : Nat) (h : k < l.length) : (l.take (k + 1)).map f = (l.take k).map f ++ [f l[k]] := by
  rw [List.take_succ_eq_append_getElem h, List.map_append]; rfl

set_option maxHeartbeats 1000000 in
set_option maxRecDepth 100000 in
theorem refSums_ok (ref : ByteArray) (ent per : Int) (l : List Line) (A : Option Addr) (n cap : Nat) (w : World) (ha : Rd w 3 lineEnc A n l) (hl : n ≤ 20) (hbn : Bnd 1000000000000000 l) :
    Calls Tryz.prog 13 #[.agg #[.string ref, .int .i64 ent, .int .i64 per, .slice A n cap]] w
      fun e w' => ∃ v, e = .returned v ∧ Own w' w.heap.size 43 3 lineEnc v (canon (l.map blank)) ∧ Below w.heap.size w w' := by
  obtain ⟨i0, hi0, hz0, hz1, hz2⟩ := info_parts line_info
  have Hn := hide ha.1
  go_enter Tryz.func13, Tryz.ntmps13
  go_wp2_with fail
  have hbx : Below w.heap.size w (w.alloc (.cells #[.string ref, .int .i64 ent, .int .i64 per, .slice A n cap] 46)) := (Below.refl _ _).alloc (Nat.le_refl _) _
  have hE0 : EntAt (w.alloc (.cells #[.string ref, .int .i64 ent, .int .i64 per, .slice A n cap] 46)) w.heap.size ref ent per (.slice A n cap) := by unfold EntAt; simp
  have hxs : w.heap.size < (w.alloc (.cells #[.string ref, .int .i64 ent, .int .i64 per, .slice A n cap] 46)).heap.size := by simp
  generalize w.alloc (.cells #[.string ref, .int .i64 ent, .int .i64 per, .slice A n cap] 46) = W1 at hbx hE0 hxs ⊢
  go_loopw [3, 4] (fun ov iv wr => ∃ k : Nat, k ≤ n ∧ iv = .int .i64 k ∧ Own wr W1.heap.size 43 3 lineEnc ov ((l.take k).map blank) ∧ Below W1.heap.size W1 wr) (fun _ iv _ => n - (intOf iv).toNat)
  case atStart => exact ⟨0, by omega, rfl, Own.nil _ _ _ _ _, Below.refl _ _⟩
  case round =>
    obtain ⟨k, hk, rfl, hown, hbr⟩ := hrel
    obtain ⟨e0, e1, e2, e3⟩ := hE0.below hbr
    by_cases hlt : k < n
    · have hkl : k < l.length := by have := Hn.out; omega
      obtain ⟨b, off, rfl, hcs⟩ := (Rd.below (Rd.below ha hbx) hbr).2 (by omega)
      have q0 := hcs k 0 _ hkl rfl
      have q1 := hcs k 1 _ hkl rfl
      have q2 := hcs k 2 _ hkl rfl
      rw [Nat.add_zero] at q0
      clear hcs
      have k0 : (0 : Int) ≤ (k : Int) := by omega
      have k1 : (k : Int) < (n : Int) := by omega
      have hT := take_map_succ blank l k hkl
      have hlen : ((l.take k).map blank).length ≤ 20 := by rw [List.length_map, List.length_take]; omega
      go_wp2_with fail
      have hwl : w.heap.size < wr.heap.size := World.block_lt_of_cell? _ _ e3
      have hbl : b < wr.heap.size := World.block_lt_of_cell? _ _ q1
      have hbl0 : b < W1.heap.size := by
        obtain ⟨b', off', eb, hc'⟩ := (Rd.below ha hbx).2 (by omega)
        injection eb with eb
        injection eb with e1' e2'
        subst e1'
        exact World.block_lt_of_cell? _ _ (hc' k 0 _ hkl rfl)
      have vlow := fun q hq => (hown.block q hq).1
      have hsz := hbr.size
      go_region_held3 (fun w' => w'.cell? ⟨w.heap.size, 3, none⟩ = some (.slice (some ⟨b, off, none⟩) n cap) ∧ w'.cell? ⟨b, off + k * 3 + 1, none⟩ = some (.string l[k].cur) ∧ w'.cell? ⟨b, off + k * 3 + 2, none⟩ = some (.int .i64 l[k].amt))
        (first
          | go_keep
          | (go_split_ands
             refine ⟨?_, ?_, ?_⟩
             · (exact hg3.cell (by assumption) (fun e => by have := vlow _ e.symm; simp only at this; omega))
             · (exact hg3.cell (by assumption) (fun e => by have := vlow _ e.symm; simp only at this; omega))
             · (exact hg3.cell (by assumption) (fun e => by have := vlow _ e.symm; simp only at this; omega))))
        ((refine step_push _ (by rfl) _ _ 44 (by rfl) W1.heap.size 43 i0 zeroLine 3 40 Tryz.underlying44 hi0 hz0 hz1 hz2 rfl (by omega) lineEnc_ok _ ((l.take k).map blank) (by rfl) ((hown.alloc _).below (bdrewN (Below.refl _ _) 1)) _ 1 1 [blank l[k]] (by rfl) (Rd.boxedAt _ lineEnc_ok (blank l[k]) _ _ rfl _ rfl) (by intro h; cases h) (by simp only [maxLen]; omega) (by omega) (by simp; omega) ?_; intro v' w3 hown3 hg3 hat3))
      go_wp2_with fail
      go_roundw
      case rel => exact ⟨k + 1, by omega, by go_num, by rw [hT]; exact hown3, ((bdrewN hbr 1).alloc hbr.size _).grown hg3 (by have := hbr.size; simp; omega) (fun q e => (hown.block q e).1)⟩
      case measure => simp [intOf]; omega
    · have hkn : k = n := by omega
      subst hkn
      have HL : Hid ((l.take k).map blank = l.map blank) := by show _ = _; rw [← Hn.out, List.take_length]
      obtain ⟨VA, vc, rfl, hvc, hvm⟩ := hown.form
      have hrd := hown.rd lineEnc_ok
      rw [HL.out, List.length_map] at hrd hvc
      rw [HL.out, List.length_map]
      have hl20 : l.length ≤ 20 := by have := Hn.out; omega
      go_wp2_with fail
      refine (refGrouped_any (l.map blank) _ l.length _ _ hrd hl20 (blank_bnd hbn)).mono ?_
      rintro e w3 ⟨v, rfl, hown3, hb3⟩
      go_wp2_with fail
      go_ret
      exact ⟨v, rfl, Own.wider hown3 (Nat.le_trans hbx.size hbr.size), (hbx.trans (hbr.mono hbx.size)).trans (hb3.mono (Nat.le_trans hbx.size hbr.size))⟩

/-- the round's word: none of those ahead is other than 0 -/
theorem any_false {l : List Line} {p : Line → Bool} {k : Nat} (h : NoneP l p k) (hk : l.length ≤ k) : l.any p = false := by
  rw [List.any_eq_false]
  intro x hx
  obtain ⟨j, hj, rfl⟩ := List.getElem_of_mem hx
  rw [h j hj (by omega)]; decide
theorem any_true {l : List Line} {p : Line → Bool} {k : Nat} (hk : k < l.length) (h : p l[k] = true) : l.any p = true := List.any_eq_true.2 ⟨_, List.getElem_mem hk, h⟩

end Go.Proofs.YtkeapacfmeblgaaGreatDoor
