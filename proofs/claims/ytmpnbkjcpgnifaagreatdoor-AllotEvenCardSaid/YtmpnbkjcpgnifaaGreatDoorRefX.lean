/- dayref1.Grouped: what is alike together, in order. -/
import Derived.Test.YtmpnbkjcpgnifaaGreatDoorEntX
import Derived.Test.YtmpnbkjcpgnifaaGreatDoorRefY
import Derived.Deep.RegionHeld3
import Derived.Deep.AppendLies
namespace Go.Proofs.YtmpnbkjcpgnifaaGreatDoor
open Go Go.RowKit
set_option linter.unusedVariables false

/-- those ahead of k stand ahead of x -/
def AheadTo (o : List Line) (x : Line) (k : Nat) : Prop := ∀ (j : Nat) (h : j < o.length), j < k → Key.lt o[j].key x.key = true
theorem AheadTo.zero (o : List Line) (x : Line) : AheadTo o x 0 := fun _ _ h => absurd h (by omega)
theorem AheadTo.succ {o : List Line} {x : Line} {k : Nat} (h : AheadTo o x k) (hk : k < o.length) (hc : Key.lt o[k].key x.key = true) : AheadTo o x (k + 1) := by
  intro j hj hjk
  by_cases e : j = k
  · subst e; exact hc
  · exact h j hj (by omega)
theorem ins_at {x : Line} : ∀ (o : List Line) (k : Nat), AheadTo o x k → k ≤ o.length → ins o x = o.take k ++ ins (o.drop k) x := by
  intro o
  induction o with
  | nil => intro k _ hk; simp at hk; subst hk; rfl
  | cons y o ih =>
    intro k h hk
    cases k with
    | zero => simp
    | succ k =>
      have h0 := h 0 (by simp) (by omega)
      simp only [List.getElem_cons_zero] at h0
      rw [ins, if_pos h0, ih k (fun j hj hjk => by have := h (j + 1) (by simpa using hj) (by omega); simpa using this) (by simpa using hk)]
      rfl
theorem ins_end {x : Line} {o : List Line} {k : Nat} (h : AheadTo o x k) (hk : k = o.length) : ins o x = o.take k ++ [x] ++ o.drop k := by
  rw [ins_at o k h (by omega), hk, List.drop_length]
  simp [ins]
theorem ins_mid {x : Line} {o : List Line} {k : Nat} (h : AheadTo o x k) (hk : k < o.length) (h1 : Key.lt o[k].key x.key = false) (h2 : ¬ o[k].key = x.key) : ins o x = o.take k ++ [x] ++ o.drop k := by
  rw [ins_at o k h (by omega), List.drop_eq_getElem_cons hk, ins, if_neg (by rw [h1]; decide), if_neg h2]
  simp
theorem ins_eq {x : Line} {o : List Line} {k : Nat} (h : AheadTo o x k) (hk : k < o.length) (h2 : o[k].key = x.key) : ins o x = o.set k { o[k] with amt := o[k].amt + x.amt } := by
  rw [ins_at o k h (by omega), List.drop_eq_getElem_cons hk, ins, if_neg (by rw [h2, Key.irrefl]; decide), if_pos h2]
  rw [List.set_eq_take_append_cons_drop, if_pos hk]

def insTo (l : List Line) (i : Nat) : List Line := (l.take i).foldl ins []
theorem insTo_succ (l : List Line) (i : Nat) (h : i < l.length) : insTo l (i + 1) = ins (insTo l i) l[i] := by
  unfold insTo
  rw [List.take_succ_eq_append_getElem h, List.foldl_append]
  rfl
theorem ins_len (o : List Line) (x : Line) : (ins o x).length ≤ o.length + 1 := by
  induction o with
  | nil => simp [ins]
  | cons y o ih =>
    unfold ins
    split
    · simp only [List.length_cons]; omega
    · split
      · simp
      · simp
theorem insTo_len (l : List Line) (i : Nat) (h : i ≤ l.length) : (insTo l i).length ≤ i := by
  induction i with
  | zero => simp [insTo]
  | succ k ih => rw [insTo_succ l k (by omega)]; have := ih (by omega); have := ins_len (insTo l k) (l[k]'(by omega)); omega
theorem ins_bnd {m a : Int} {o : List Line} {x : Line} (h : Bnd m o) (ha : 0 ≤ a) (hm : 0 ≤ m) (hx : -a ≤ x.amt ∧ x.amt ≤ a) : Bnd (m + a) (ins o x) := by
  induction o with
  | nil => intro z hz; simp only [ins, List.mem_singleton] at hz; subst hz; omega
  | cons y o ih =>
    have hy := h y (by simp)
    have ho : Bnd m o := fun z hz => h z (by simp [hz])
    intro z hz
    unfold ins at hz
    split at hz
    · rcases List.mem_cons.1 hz with rfl | hz
      · omega
      · exact ih ho z hz
    · split at hz
      · rcases List.mem_cons.1 hz with rfl | hz
        · show -(m + a) ≤ y.amt + x.amt ∧ y.amt + x.amt ≤ m + a
          omega
        · have := ho z hz; omega
      · rcases List.mem_cons.1 hz with rfl | hz
        · omega
        · have := h z hz; omega
theorem insTo_bnd (l : List Line) (m : Int) (hm : 0 ≤ m) (hb : Bnd m l) (k : Nat) (h : k ≤ l.length) : Bnd (k * m) (insTo l k) := by
  induction k with
  | zero => intro x hx; simp [insTo] at hx
  | succ k ih =>
    rw [insTo_succ l k (by omega)]
    have := ins_bnd (ih (by omega)) hm (Int.mul_nonneg (by omega) hm) (hb (l[k]'(by omega)) (List.getElem_mem _))
    rwa [show ((k + 1 : Nat) : Int) * m = k * m + m from by rw [Int.natCast_add, Int.add_mul]; simp]

theorem Rd.drop {α : Type} {w : World} {sz n b off : Nat} {enc : α → List Value} {l : List α} (h : Rd w sz enc (some ⟨b, off, none⟩) n l) (k : Nat) (hk : k ≤ n) : Rd w sz enc (some ⟨b, off + k * sz, none⟩) (n - k) (l.drop k) := by
  refine ⟨by rw [List.length_drop, h.1], fun hn => ?_⟩
  obtain ⟨b', off', e, hc⟩ := h.2 (by omega)
  injection e with e
  injection e with e1 e2
  subst e1 e2
  refine ⟨_, _, rfl, fun i j u hi hu => ?_⟩
  rw [List.length_drop] at hi
  have := hc (k + i) j u (by omega) (by rw [← hu, List.getElem_drop])
  rwa [show off + (k + i) * sz + j = off + k * sz + i * sz + j from by rw [Nat.add_mul]; omega] at this

theorem Rd.drop0 {α : Type} {w : World} {sz n b : Nat} {enc : α → List Value} {l : List α} (h : Rd w sz enc (some ⟨b, 0, none⟩) n l) (k : Nat) (hk : k ≤ n) : Rd w sz enc (some ⟨b, k * sz, none⟩) (n - k) (l.drop k) := by
  have := h.drop k hk
  rwa [Nat.zero_add] at this
theorem Rd.dropAll {α : Type} {w : World} {sz n : Nat} {enc : α → List Value} {l : List α} {A B : Option Addr} (h : Rd w sz enc A n l) (k : Nat) (hk : n ≤ k) : Rd w sz enc B (n - k) (l.drop k) :=
  ⟨by rw [List.length_drop, h.1], fun h => by omega⟩

theorem Rd.dropEnd {α : Type} {w : World} {sz : Nat} {enc : α → List Value} {l : List α} {A : Option Addr} : Rd w sz enc A 0 (l.drop l.length) :=
  ⟨by simp, fun h => absurd h (by omega)⟩
theorem Own.nilCap {α : Type} {w : World} {B e sz n c : Nat} {enc : α → List Value} {l : List α} (h : Own w B e sz enc (.slice none n c) l) : c = 0 := by
  rcases h.2 with ⟨hv, _⟩ | ⟨g', c', cur, hv, _⟩
  · injection hv
  · cases hv

/-- the key's order by its two tests -/
theorem lt_acc {x y : Line} (h : Op.bytesLess x.acc.toList y.acc.toList = true) : Key.lt x.key y.key = true := by
  have : lessB x.acc y.acc = true := h
  simp [Key.lt, Line.key, this]
theorem lt_no {x y : Line} (h : Op.bytesLess x.acc.toList y.acc.toList = false) (k : (x.acc.toList == y.acc.toList) = false) : Key.lt x.key y.key = false := by
  have h' : lessB x.acc y.acc = false := h
  rw [beq_toList, decide_eq_false_iff_not] at k
  simp [Key.lt, Line.key, h', k]
theorem lt_cur {x y : Line} (h : Op.bytesLess x.acc.toList y.acc.toList = false) (k : (x.acc.toList == y.acc.toList) = true) : Key.lt x.key y.key = Op.bytesLess x.cur.toList y.cur.toList := by
  rw [beq_toList, decide_eq_true_eq] at k
  simp [Key.lt, Line.key, k, lessB_irrefl]
  rfl
theorem key_of {x y : Line} (h : (x.acc.toList == y.acc.toList) = true) (k : (x.cur.toList == y.cur.toList) = true) : x.key = y.key := by
  rw [beq_toList, decide_eq_true_eq] at h k
  simp [Line.key, h, k]
theorem key_ne {x y : Line} (h : (x.acc.toList == y.acc.toList) = false ∨ (x.cur.toList == y.cur.toList) = false) : ¬ x.key = y.key := by
  intro e
  simp only [Line.key, Key.mk.injEq] at e
  rcases h with h | h
  · rw [e.1] at h; simp at h
  · rw [e.2] at h; simp at h

set_option maxHeartbeats 4000000 in
set_option maxRecDepth 100000 in
theorem refGrouped_any (l : List Line) (A : Option Addr) (n c : Nat) (w : World) (h : Rd w 3 lineEnc A n l) (hn : n ≤ 20) (hb : Bnd 1000000000000000 l) :
    Calls Tryz.prog 40 #[.slice A n c] w fun e w' => ∃ v, e = .returned v ∧ Own w' w.heap.size 42 3 lineEnc v (canon l) ∧ Below w.heap.size w w' := by
  obtain ⟨i0, hi0, hz0, hz1, hz2⟩ := info_parts line_info
  have Hn := hide h.1
  go_enter Tryz.func40, Tryz.ntmps40
  go_wp2_with fail
  go_loopw [3, 4] (fun ov iv wr => ∃ i : Nat, i ≤ n ∧ iv = .int .i64 i ∧ Own wr w.heap.size 42 3 lineEnc ov (insTo l i) ∧ Below w.heap.size w wr) (fun _ iv _ => n - (intOf iv).toNat)
  case atStart => exact ⟨0, by omega, rfl, Own.nil _ _ _ _ _, Below.refl _ _⟩
  case round =>
    obtain ⟨i, hi, rfl, hown, hbr⟩ := hrel
    by_cases hlt : i < n
    · have hil : i < l.length := by have := Hn.out; omega
      obtain ⟨b, off, rfl, hcs⟩ := (Rd.below h hbr).2 (by omega)
      have q0 := hcs i 0 _ hil rfl
      have q1 := hcs i 1 _ hil rfl
      have q2 := hcs i 2 _ hil rfl
      rw [Nat.add_zero] at q0
      clear hcs
      have hstep := insTo_succ l i hil
      have hgl := insTo_len l i (by omega)
      have hgb := insTo_bnd l _ (by omega) hb i (by omega)
      have hxb := hb l[i] (List.getElem_mem _)
      have hi0' : (0 : Int) ≤ (i : Int) := by omega
      have hi1' : (i : Int) < (n : Int) := by omega
      obtain ⟨UA, uc, rfl, huc, hum⟩ := hown.form
      generalize insTo l i = o at hstep hgl hgb hown huc ⊢
      generalize l[i] = x at q0 q1 q2 hstep hxb
      have HS := hide hstep
      clear hstep
      have x0 : (wr.alloc (.cells #[.string x.acc, .string x.cur, .int .i64 x.amt] 42)).cell? ⟨wr.heap.size, 0, none⟩ = some (.string x.acc) := by simp
      have x1 : (wr.alloc (.cells #[.string x.acc, .string x.cur, .int .i64 x.amt] 42)).cell? ⟨wr.heap.size, 1, none⟩ = some (.string x.cur) := by simp
      have x2 : (wr.alloc (.cells #[.string x.acc, .string x.cur, .int .i64 x.amt] 42)).cell? ⟨wr.heap.size, 2, none⟩ = some (.int .i64 x.amt) := by simp
      have hbx : Below wr.heap.size wr (wr.alloc (.cells #[.string x.acc, .string x.cur, .int .i64 x.amt] 42)) := (Below.refl _ _).alloc (Nat.le_refl _) _
      have hxs : wr.heap.size < (wr.alloc (.cells #[.string x.acc, .string x.cur, .int .i64 x.amt] 42)).heap.size := by simp
      go_wp2_with fail
      have hbW := hbr.trans (hbx.mono hbr.size)
      generalize wr.alloc (.cells #[.string x.acc, .string x.cur, .int .i64 x.amt] 42) = W1 at x0 x1 x2 hbx hxs hbW ⊢
      go_loopw [6] (fun kv wi => ∃ k : Nat, k ≤ o.length ∧ kv = .int .i64 k ∧ AheadTo o x k ∧ Below W1.heap.size W1 wi) (fun kv _ => o.length - (intOf kv).toNat)
      case atStart => exact ⟨0, by omega, rfl, AheadTo.zero _ _, Below.refl _ _⟩
      case round =>
        obtain ⟨k, hk, rfl, hah, hbi⟩ := hrel
        have HA := hide hah
        clear hah
        by_cases hko : k < o.length
        · obtain ⟨gu, rfl⟩ := hown.addr (by omega)
          have hownW := (hown.below hbx).below hbi
          have c0 := (hownW.cells lineEnc_ok k 0 (.string o[k].acc) hko rfl).1
          have c1 := (hownW.cells lineEnc_ok k 1 (.string o[k].cur) hko rfl).1
          rw [Nat.add_zero] at c0
          have y0 := below_cell hbi hxs x0
          have y1 := below_cell hbi hxs x1
          have k0 : (0 : Int) ≤ (k : Int) := by omega
          have k1 : (k : Int) < (o.length : Int) := by omega
          have hku : (k : Int) ≤ (uc : Int) := by omega
          have hkc : ¬ uc = k := by omega
          have hL5 : (([] : List Line) ++ o.take k).length ≤ 20 := by simp; omega
          have hL6 : ((([] : List Line) ++ o.take k) ++ [x]).length ≤ 21 := by simp; omega
          have tok1 : True := trivial
          have tok2 : True := trivial
          cases h1 : Op.bytesLess o[k].acc.toList x.acc.toList with
          | true =>
            have HX := hide (HA.out.succ hko (lt_acc h1))
            go_wp2_with fail
            go_quiet (fail)
            go_wp2_with fail
            go_roundw
            case rel => exact ⟨k + 1, by omega, by go_num, HX.out, bdrewN hbi _⟩
            case measure => simp [intOf]; omega
          | false =>
            cases h2 : o[k].acc.toList == x.acc.toList with
            | false =>
              have HX := hide (ins_mid HA.out hko (lt_no h1 h2) (key_ne (.inl h2)))
              go_wp2_with fail
              go_quiet (fail)
              go_wp2_with fail
              go_quiet (fail)
              go_wp2_with (first | (at_builtin; (have _t3 := hown6); go_loud (refine wpList_push _ rfl _ _ 38 rfl W1.heap.size 42 i0 zeroLine 3 40 Tryz.underlying38 hi0 hz0 hz1 hz2 rfl (by decide) lineEnc_ok _ (([] ++ o.take k) ++ [x]) rfl hown6 _ (o.length - k) (uc - k) (o.drop k) rfl (Rd.drop0 (((hown.below hbx).below hb6).rd lineEnc_ok) k hk) (by intro h; cases h) (by unfold maxLen; omega) (by omega) hb6.size ?_); intro v7 w7 hown7 hg7 hat7; have hb7 := hb6.grown hg7 hb6.size (fun k e => (hown6.block k e).1)) | (at_builtin; (have _t2 := tok2); (have _t5 := hown5); go_loud (refine wpList_push _ rfl _ _ 38 rfl W1.heap.size 42 i0 zeroLine 3 40 Tryz.underlying38 hi0 hz0 hz1 hz2 rfl (by decide) lineEnc_ok _ ([] ++ o.take k) rfl (hown5.alloc _) _ 1 1 ([x]) rfl (Rd.boxedAt _ lineEnc_ok x _ _ rfl _ (by simp)) (by intro h; cases h) (by unfold maxLen; omega) (by omega) (by have := hb5.size; simp; omega) ?_); clear tok2; intro v6 w6 hown6 hg6 hat6; have hb6 := (hb5.alloc hb5.size _).grown hg6 (by have := hb5.size; simp; omega) (fun k e => (hown5.block k e).1)) | (at_builtin; (have _t1 := tok1); go_loud (refine wpList_push _ rfl _ _ 38 rfl W1.heap.size 42 i0 zeroLine 3 40 Tryz.underlying38 hi0 hz0 hz1 hz2 rfl (by decide) lineEnc_ok _ ([]) rfl (Own.nil _ _ _ _ _) _ k uc (o.take k) rfl (Rd.take (((hown.below hbx).below (bdrewN hbi _)).rd lineEnc_ok) hk) (by intro h; cases h) (by simp only [maxLen, List.length_nil]; omega) (by simp only [List.length_nil]; omega) (by simpa using hbi.size) ?_); clear tok1; intro v5 w5 hown5 hg5 hat5; have hb5 := (bdrewN hbi _).grown hg5 (by simpa using hbi.size) (fun k e => by cases e); have z0 := below_cell hb5 hxs x0; have z1 := below_cell hb5 hxs x1; have z2 := below_cell hb5 hxs x2))
              go_roundw
              case rel => exact ⟨i + 1, by omega, by go_num, by rw [HS.out, HX.out]; exact Own.wider hown7 hbW.size, hbW.trans (hb7.mono hbW.size)⟩
              case measure => simp [intOf]; omega
            | true =>
              cases h3 : Op.bytesLess o[k].cur.toList x.cur.toList with
              | true =>
                have HX := hide (HA.out.succ hko (by rw [lt_cur h1 h2]; exact h3))
                go_wp2_with fail
                go_quiet (fail)
                go_wp2_with fail
                go_roundw
                case rel => exact ⟨k + 1, by omega, by go_num, HX.out, bdrewN hbi _⟩
                case measure => simp [intOf]; omega
              | false =>
                cases h4 : o[k].cur.toList == x.cur.toList with
                | false =>
                  have HX := hide (ins_mid HA.out hko (by rw [lt_cur h1 h2]; exact h3) (key_ne (.inr h4)))
                  go_wp2_with fail
                  go_quiet (fail)
                  go_wp2_with fail
                  go_quiet (fail)
                  go_wp2_with (first | (at_builtin; (have _t3 := hown6); go_loud (refine wpList_push _ rfl _ _ 38 rfl W1.heap.size 42 i0 zeroLine 3 40 Tryz.underlying38 hi0 hz0 hz1 hz2 rfl (by decide) lineEnc_ok _ (([] ++ o.take k) ++ [x]) rfl hown6 _ (o.length - k) (uc - k) (o.drop k) rfl (Rd.drop0 (((hown.below hbx).below hb6).rd lineEnc_ok) k hk) (by intro h; cases h) (by unfold maxLen; omega) (by omega) hb6.size ?_); intro v7 w7 hown7 hg7 hat7; have hb7 := hb6.grown hg7 hb6.size (fun k e => (hown6.block k e).1)) | (at_builtin; (have _t2 := tok2); (have _t5 := hown5); go_loud (refine wpList_push _ rfl _ _ 38 rfl W1.heap.size 42 i0 zeroLine 3 40 Tryz.underlying38 hi0 hz0 hz1 hz2 rfl (by decide) lineEnc_ok _ ([] ++ o.take k) rfl (hown5.alloc _) _ 1 1 ([x]) rfl (Rd.boxedAt _ lineEnc_ok x _ _ rfl _ (by simp)) (by intro h; cases h) (by unfold maxLen; omega) (by omega) (by have := hb5.size; simp; omega) ?_); clear tok2; intro v6 w6 hown6 hg6 hat6; have hb6 := (hb5.alloc hb5.size _).grown hg6 (by have := hb5.size; simp; omega) (fun k e => (hown5.block k e).1)) | (at_builtin; (have _t1 := tok1); go_loud (refine wpList_push _ rfl _ _ 38 rfl W1.heap.size 42 i0 zeroLine 3 40 Tryz.underlying38 hi0 hz0 hz1 hz2 rfl (by decide) lineEnc_ok _ ([]) rfl (Own.nil _ _ _ _ _) _ k uc (o.take k) rfl (Rd.take (((hown.below hbx).below (bdrewN hbi _)).rd lineEnc_ok) hk) (by intro h; cases h) (by simp only [maxLen, List.length_nil]; omega) (by simp only [List.length_nil]; omega) (by simpa using hbi.size) ?_); clear tok1; intro v5 w5 hown5 hg5 hat5; have hb5 := (bdrewN hbi _).grown hg5 (by simpa using hbi.size) (fun k e => by cases e); have z0 := below_cell hb5 hxs x0; have z1 := below_cell hb5 hxs x1; have z2 := below_cell hb5 hxs x2))
                  go_roundw
                  case rel => exact ⟨i + 1, by omega, by go_num, by rw [HS.out, HX.out]; exact Own.wider hown7 hbW.size, hbW.trans (hb7.mono hbW.size)⟩
                  case measure => simp [intOf]; omega
                | true =>
                  have HX := hide (ins_eq HA.out hko (key_of h2 h4))
                  obtain ⟨c2, f2⟩ := hownW.cells lineEnc_ok k 2 (.int .i64 o[k].amt) hko rfl
                  have y2 := below_cell hbi hxs x2
                  have hob := hgb o[k] (List.getElem_mem _)
                  have a0 : -30000000000000000 ≤ o[k].amt := by omega
                  have a1 : o[k].amt ≤ 30000000000000000 := by omega
                  have a2 : -30000000000000000 ≤ x.amt := by omega
                  have a3 : x.amt ≤ 30000000000000000 := by omega
                  go_wp2_with fail
                  go_quiet (fail)
                  generalize nq = n1
                  go_wp2_with fail
                  go_quiet (fail)
                  have c2' : ((wr.drewN n1).drewN nq).cell? ⟨gu, k * 3 + 2, none⟩ = some (.int .i64 o[k].amt) := c2
                  have f2' : ((wr.drewN n1).drewN nq).frozen? ⟨gu, k * 3 + 2, none⟩ = false := f2
                  have y2' := (show ((wr.drewN n1).drewN nq).cell? _ = some (.int .i64 x.amt) from y2)
                  have hbq := bdrewN (bdrewN hbi n1) nq
                  go_wp2_with fail
                  generalize (wr.drewN n1).drewN nq = WQ at c2' f2' y2' hbq ⊢
                  clear c2 f2 y2 c0 c1 y0 y1 x0 x1 x2
                  refine wp_region_still_tail 12 (by kernel_rfl) (by kernel_rfl) ?_
                  simp only [List.take_succ_cons, List.take_zero, List.drop_succ_cons, List.drop_zero]
                  change wpStill _ _ WQ.drew _ _ _
                  repeat still_step
                  refine wpStill_nil ?_
                  change wpList _ _ _ _ _ WQ.drew
                  go_wp2_with fail
                  go_roundw
                  case rel =>
                    have hst := Own.store lineEnc_ok (((hown.below hbx).below hbq).below (bdrewN (Below.refl _ WQ) 1)) k 2 { o[k] with amt := o[k].amt + x.amt } (.int .i64 (o[k].amt + x.amt)) hko (by omega) rfl
                    exact ⟨i + 1, by omega, by go_num, by rw [HS.out, HX.out]; exact hst, (hbW.trans (bdrewN (hbq.mono hbW.size) 1)).setCell (hown.block gu rfl).1 _⟩
                  case measure => simp [intOf]; omega
        · obtain rfl : k = o.length := by omega
          have HX := hide (ins_end HA.out rfl)
          have hd : decide ((o.length : Int) < (o.length : Int)) = false := by simp
          have hL5 : (([] : List Line) ++ o.take o.length).length ≤ 20 := by simp; omega
          have hL6 : ((([] : List Line) ++ o.take o.length) ++ [x]).length ≤ 21 := by simp; omega
          have tok1 : True := trivial
          have tok2 : True := trivial
          by_cases hkc : uc = o.length
          · subst hkc
            have hUA : Hid (UA = none → o.length = 0) := by intro h; subst h; exact hown.nilCap
            go_wp2_with fail
            go_quiet (fail)
            go_wp2_with fail
            go_quiet (fail)
            go_wp2_with (first | (at_builtin; (have _t3 := hown6); go_loud (refine wpList_push _ rfl _ _ 38 rfl W1.heap.size 42 i0 zeroLine 3 40 Tryz.underlying38 hi0 hz0 hz1 hz2 rfl (by decide) lineEnc_ok _ (([] ++ o.take o.length) ++ [x]) rfl hown6 _ 0 0 (o.drop o.length) rfl Rd.dropEnd (by intro h; first | rfl | cases h) (by unfold maxLen; omega) (by omega) hb6.size ?_); intro v7 w7 hown7 hg7 hat7; have hb7 := hb6.grown hg7 hb6.size (fun k e => (hown6.block k e).1)) | (at_builtin; (have _t2 := tok2); (have _t5 := hown5); go_loud (refine wpList_push _ rfl _ _ 38 rfl W1.heap.size 42 i0 zeroLine 3 40 Tryz.underlying38 hi0 hz0 hz1 hz2 rfl (by decide) lineEnc_ok _ ([] ++ o.take o.length) rfl (hown5.alloc _) _ 1 1 ([x]) rfl (Rd.boxedAt _ lineEnc_ok x _ _ rfl _ (by simp)) (by intro h; cases h) (by unfold maxLen; omega) (by omega) (by have := hb5.size; simp; omega) ?_); clear tok2; intro v6 w6 hown6 hg6 hat6; have hb6 := (hb5.alloc hb5.size _).grown hg6 (by have := hb5.size; simp; omega) (fun k e => (hown5.block k e).1)) | (at_builtin; (have _t1 := tok1); go_loud (refine wpList_push _ rfl _ _ 38 rfl W1.heap.size 42 i0 zeroLine 3 40 Tryz.underlying38 hi0 hz0 hz1 hz2 rfl (by decide) lineEnc_ok _ ([]) rfl (Own.nil _ _ _ _ _) _ o.length o.length (o.take o.length) rfl (Rd.take (((hown.below hbx).below (bdrewN hbi _)).rd lineEnc_ok) (Nat.le_refl _)) hUA.out (by simp only [maxLen, List.length_nil]; omega) (by simp only [List.length_nil]; omega) (by simpa using hbi.size) ?_); clear tok1; intro v5 w5 hown5 hg5 hat5; have hb5 := (bdrewN hbi _).grown hg5 (by simpa using hbi.size) (fun k e => by cases e); have z0 := below_cell hb5 hxs x0; have z1 := below_cell hb5 hxs x1; have z2 := below_cell hb5 hxs x2))
            go_roundw
            case rel => exact ⟨i + 1, by omega, by go_num, by rw [HS.out, HX.out]; exact Own.wider hown7 hbW.size, hbW.trans (hb7.mono hbW.size)⟩
            case measure => simp [intOf]; omega
          · obtain ⟨gu, rfl⟩ : ∃ gu, UA = some ⟨gu, 0, none⟩ := by
              rcases hown.2 with ⟨hv, h0⟩ | ⟨g', cap, cur, hv, _⟩
              · exfalso
                injection hv with e1 e2 e3
                omega
              · injection hv with e1; exact ⟨g', e1⟩
            have hku : (o.length : Int) ≤ (uc : Int) := by omega
            go_wp2_with fail
            go_quiet (fail)
            go_wp2_with fail
            go_quiet (fail)
            go_wp2_with (first | (at_builtin; (have _t3 := hown6); go_loud (refine wpList_push _ rfl _ _ 38 rfl W1.heap.size 42 i0 zeroLine 3 40 Tryz.underlying38 hi0 hz0 hz1 hz2 rfl (by decide) lineEnc_ok _ (([] ++ o.take o.length) ++ [x]) rfl hown6 _ 0 (uc - o.length) (o.drop o.length) rfl Rd.dropEnd (by intro h; first | rfl | cases h) (by unfold maxLen; omega) (by omega) hb6.size ?_); intro v7 w7 hown7 hg7 hat7; have hb7 := hb6.grown hg7 hb6.size (fun k e => (hown6.block k e).1)) | (at_builtin; (have _t2 := tok2); (have _t5 := hown5); go_loud (refine wpList_push _ rfl _ _ 38 rfl W1.heap.size 42 i0 zeroLine 3 40 Tryz.underlying38 hi0 hz0 hz1 hz2 rfl (by decide) lineEnc_ok _ ([] ++ o.take o.length) rfl (hown5.alloc _) _ 1 1 ([x]) rfl (Rd.boxedAt _ lineEnc_ok x _ _ rfl _ (by simp)) (by intro h; cases h) (by unfold maxLen; omega) (by omega) (by have := hb5.size; simp; omega) ?_); clear tok2; intro v6 w6 hown6 hg6 hat6; have hb6 := (hb5.alloc hb5.size _).grown hg6 (by have := hb5.size; simp; omega) (fun k e => (hown5.block k e).1)) | (at_builtin; (have _t1 := tok1); go_loud (refine wpList_push _ rfl _ _ 38 rfl W1.heap.size 42 i0 zeroLine 3 40 Tryz.underlying38 hi0 hz0 hz1 hz2 rfl (by decide) lineEnc_ok _ ([]) rfl (Own.nil _ _ _ _ _) _ o.length uc (o.take o.length) rfl (Rd.take (((hown.below hbx).below (bdrewN hbi _)).rd lineEnc_ok) (Nat.le_refl _)) (by intro h; cases h) (by simp only [maxLen, List.length_nil]; omega) (by simp only [List.length_nil]; omega) (by simpa using hbi.size) ?_); clear tok1; intro v5 w5 hown5 hg5 hat5; have hb5 := (bdrewN hbi _).grown hg5 (by simpa using hbi.size) (fun k e => by cases e); have z0 := below_cell hb5 hxs x0; have z1 := below_cell hb5 hxs x1; have z2 := below_cell hb5 hxs x2))
            go_roundw
            case rel => exact ⟨i + 1, by omega, by go_num, by rw [HS.out, HX.out]; exact Own.wider hown7 hbW.size, hbW.trans (hb7.mono hbW.size)⟩
            case measure => simp [intOf]; omega
    · go_wp2_with fail
      have hin : i = n := by omega
      subst hin
      have HF : Hid (insTo l i = canon l) := by show _ = _; unfold insTo canon; rw [← Hn.out, List.take_length]
      go_ret
      exact ⟨_, rfl, by rw [← HF.out]; exact hown, hbr⟩
end Go.Proofs.YtmpnbkjcpgnifaaGreatDoor

namespace Go.Proofs.YtmpnbkjcpgnifaaGreatDoor
open Go Go.RowKit
set_option linter.unusedVariables false

theorem step_push {P : Program} (w : World) {α : Type} {enc : α → List Value} {ops : Array Oper} {o : Oper} {a : Act} {K : Act → World → Prop} {Q : Exit → Act → World → Prop} {E : Prop} (hgd : o.guard = none) (s x : Operand) (t : TypeId)
    (ho : o.op = .call { callee := .builtin .append, args := #[s, x], argTypes := #[t, t] })
    (B : Nat) (e : TypeId) (i : TypeInfo) (z : Value) (sz bytes : Nat) (ht : P.underlying t = some (.slice e)) (hi : P.info? e = some i) (hz : i.zero = some z)
    (hsize : i.size = sz) (hby : i.bytes = bytes) (hzs : z.cells.size = sz) (hsz : 0 < sz) (he : Enc sz enc) (v : Value) (l : List α) (hs : a.eval s = v) (hown : Own w B e sz enc v l)
    (A : Option Addr) (m c : Nat) (ys : List α) (hx : a.eval x = .slice A m c) (hr : Rd w sz enc A m ys) (hA : A = none → c = 0)
    (h63 : l.length + m ≤ maxLen) (hbytes : (l.length + m) * bytes ≤ 140737488355328) (hbase : B ≤ w.heap.size)
    (h : ∀ v' w', Own w' B e sz enc v' (l ++ ys) → w.grownBy w' v.ownBlock → (v'.ownBlock = v.ownBlock ∨ v'.ownBlock = some w.heap.size) → K (a.put o.dst v') w') :
    if Region.wanted o (yielded ops a.tmps) = true then Oper.wp P o a w K Q else E := by
  have hw : Region.wanted o (yielded ops a.tmps) = true := by simp [Region.wanted, hgd]
  rw [if_pos hw]
  exact wp_push w s x t ho B e i z sz bytes ht hi hz hsize hby hzs hsz he v l hs hown A m c ys hx hr hA h63 hbytes hbase h

theorem take_map_succ {α β : Type} (f : α → β) (l : List α) (k : Nat) (h : k < l.length) : (l.take (k + 1)).map f = (l.take k).map f ++ [f l[k]] := by
  rw [List.take_succ_eq_append_getElem h, List.map_append]; rfl

set_option maxHeartbeats 1000000 in
set_option maxRecDepth 100000 in
theorem refSums_ok (ref : ByteArray) (ent per : Int) (l : List Line) (A : Option Addr) (n cap : Nat) (w : World) (ha : Rd w 3 lineEnc A n l) (hl : n ≤ 20) (hbn : Bnd 1000000000000000 l) :
    Calls Tryz.prog 17 #[.agg #[.string ref, .int .i64 ent, .int .i64 per, .slice A n cap]] w
      fun e w' => ∃ v, e = .returned v ∧ Own w' w.heap.size 42 3 lineEnc v (canon (l.map blank)) ∧ Below w.heap.size w w' := by
  obtain ⟨i0, hi0, hz0, hz1, hz2⟩ := info_parts line_info
  have Hn := hide ha.1
  go_enter Tryz.func17, Tryz.ntmps17
  go_wp2_with fail
  have hbx : Below w.heap.size w (w.alloc (.cells #[.string ref, .int .i64 ent, .int .i64 per, .slice A n cap] 40)) := (Below.refl _ _).alloc (Nat.le_refl _) _
  have hE0 : EntAt (w.alloc (.cells #[.string ref, .int .i64 ent, .int .i64 per, .slice A n cap] 40)) w.heap.size ref ent per (.slice A n cap) := by unfold EntAt; simp
  have hxs : w.heap.size < (w.alloc (.cells #[.string ref, .int .i64 ent, .int .i64 per, .slice A n cap] 40)).heap.size := by simp
  generalize w.alloc (.cells #[.string ref, .int .i64 ent, .int .i64 per, .slice A n cap] 40) = W1 at hbx hE0 hxs ⊢
  go_loopw [3, 4] (fun ov iv wr => ∃ k : Nat, k ≤ n ∧ iv = .int .i64 k ∧ Own wr W1.heap.size 42 3 lineEnc ov ((l.take k).map blank) ∧ Below W1.heap.size W1 wr) (fun _ iv _ => n - (intOf iv).toNat)
  case atStart => exact ⟨0, by omega, rfl, Own.nil _ _ _ _ _, Below.refl _ _⟩
  case round =>
    obtain ⟨k, hk, rfl, hown, hbr⟩ := hrel
    obtain ⟨e0, e1, e2, e3⟩ := hE0.below hbr
    by_cases hlt : k < n
    · have hkl : k < l.length := by have := Hn.out; omega
      obtain ⟨b, off, rfl, hcs⟩ := (Rd.below (Rd.below ha hbx) hbr).2 (by omega)
      have q0 := hcs k 0 _ hkl rfl
      have q1 := hcs k 1 _ hkl rfl
      have q2 := hcs k 2 _ hkl rfl
      rw [Nat.add_zero] at q0
      clear hcs
      have k0 : (0 : Int) ≤ (k : Int) := by omega
      have k1 : (k : Int) < (n : Int) := by omega
      have hT := take_map_succ blank l k hkl
      have hlen : ((l.take k).map blank).length ≤ 20 := by rw [List.length_map, List.length_take]; omega
      go_wp2_with fail
      have hwl : w.heap.size < wr.heap.size := World.block_lt_of_cell? _ _ e3
      have hbl : b < wr.heap.size := World.block_lt_of_cell? _ _ q1
      have hbl0 : b < W1.heap.size := by
        obtain ⟨b', off', eb, hc'⟩ := (Rd.below ha hbx).2 (by omega)
        injection eb with eb
        injection eb with e1' e2'
        subst e1'
        exact World.block_lt_of_cell? _ _ (hc' k 0 _ hkl rfl)
      have vlow := fun q hq => (hown.block q hq).1
      have hsz := hbr.size
      go_region_held3 (fun w' => w'.cell? ⟨w.heap.size, 3, none⟩ = some (.slice (some ⟨b, off, none⟩) n cap) ∧ w'.cell? ⟨b, off + k * 3 + 1, none⟩ = some (.string l[k].cur) ∧ w'.cell? ⟨b, off + k * 3 + 2, none⟩ = some (.int .i64 l[k].amt))
        (first
          | go_keep
          | (go_split_ands
             refine ⟨?_, ?_, ?_⟩
             · (exact hg3.cell (by assumption) (fun e => by have := vlow _ e.symm; simp only at this; omega))
             · (exact hg3.cell (by assumption) (fun e => by have := vlow _ e.symm; simp only at this; omega))
             · (exact hg3.cell (by assumption) (fun e => by have := vlow _ e.symm; simp only at this; omega))))
        ((refine step_push _ (by rfl) _ _ 38 (by rfl) W1.heap.size 42 i0 zeroLine 3 40 Tryz.underlying38 hi0 hz0 hz1 hz2 rfl (by omega) lineEnc_ok _ ((l.take k).map blank) (by rfl) ((hown.alloc _).below (bdrewN (Below.refl _ _) 1)) _ 1 1 [blank l[k]] (by rfl) (Rd.boxedAt _ lineEnc_ok (blank l[k]) _ _ rfl _ rfl) (by intro h; cases h) (by simp only [maxLen]; omega) (by omega) (by simp; omega) ?_; intro v' w3 hown3 hg3 hat3))
      go_wp2_with fail
      go_roundw
      case rel => exact ⟨k + 1, by omega, by go_num, by rw [hT]; exact hown3, ((bdrewN hbr 1).alloc hbr.size _).grown hg3 (by have := hbr.size; simp; omega) (fun q e => (hown.block q e).1)⟩
      case measure => simp [intOf]; omega
    · have hkn : k = n := by omega
      subst hkn
      have HL : Hid ((l.take k).map blank = l.map blank) := by show _ = _; rw [← Hn.out, List.take_length]
      obtain ⟨VA, vc, rfl, hvc, hvm⟩ := hown.form
      have hrd := hown.rd lineEnc_ok
      rw [HL.out, List.length_map] at hrd hvc
      rw [HL.out, List.length_map]
      have hl20 : l.length ≤ 20 := by have := Hn.out; omega
      go_wp2_with fail
      refine (refGrouped_any (l.map blank) _ l.length _ _ hrd hl20 (blank_bnd hbn)).mono ?_
      rintro e w3 ⟨v, rfl, hown3, hb3⟩
      go_wp2_with fail
      go_ret
      exact ⟨v, rfl, Own.wider hown3 (Nat.le_trans hbx.size hbr.size), (hbx.trans (hbr.mono hbx.size)).trans (hb3.mono (Nat.le_trans hbx.size hbr.size))⟩

/-- the round's word: none of those ahead is other than 0 -/
theorem any_false {l : List Line} {p : Line → Bool} {k : Nat} (h : NoneP l p k) (hk : l.length ≤ k) : l.any p = false := by
  rw [List.any_eq_false]
  intro x hx
  obtain ⟨j, hj, rfl⟩ := List.getElem_of_mem hx
  rw [h j hj (by omega)]; decide
theorem any_true {l : List Line} {p : Line → Bool} {k : Nat} (hk : k < l.length) (h : p l[k] = true) : l.any p = true := List.any_eq_true.2 ⟨_, List.getElem_mem hk, h⟩

end Go.Proofs.YtmpnbkjcpgnifaaGreatDoor
