/- package dayref1: Ref, Cur, Entity, Period, Amount: what each returns. -/
import Derived.Test.YtbdbpcllndajgaaGreatDoorRefY
import Derived.Test.YtbdbpcllndajgaaGreatDoorEntX
import Derived.Deep.RegionHeld3
import Derived.Deep.AppendLies
namespace Go.Proofs.YtbdbpcllndajgaaGreatDoor
open Go Go.RowKit
set_option linter.unusedVariables false

theorem ref_byte (b : UInt8) : refSet.data.toList.contains b = decide (b.toNat = 45 ∨ (48 ≤ b.toNat ∧ b.toNat ≤ 57) ∨ (97 ≤ b.toNat ∧ b.toNat ≤ 122)) := by
  have := all_bytes (p := fun b => refSet.data.toList.contains b == decide (b.toNat = 45 ∨ (48 ≤ b.toNat ∧ b.toNat ≤ 57) ∨ (97 ≤ b.toNat ∧ b.toNat ≤ 122))) (by decide +kernel) b
  simpa using this
theorem upper_byte (b : UInt8) : uppers.data.toList.contains b = decide (65 ≤ b.toNat ∧ b.toNat ≤ 90) := by
  have := all_bytes (p := fun b => uppers.data.toList.contains b == decide (65 ≤ b.toNat ∧ b.toNat ≤ 90)) (by decide +kernel) b
  simpa using this

theorem refCur_any (s : ByteArray) (w : World) (hs : s.size ≤ 9223372036854775807) :
    Calls Tryz.prog 15 #[.string s] w fun e w' => e = .returned (.bool (curB s)) ∧ w = w' := by
  by_cases h1 : (s.size : Int) = 3
  · have hf : curB s = allIn s uppers := by simp only [curB, h1, decide_true, Bool.true_and]
    have h1' : ((s.size : Int) != 3) = false := by rw [bne_eq_false_iff_eq]; exact h1
    have h1n : s.size = 3 := by omega
    have H1 := hide h1n
    rw [hf]; clear hf h1 h1n
    go_enter Tryz.func15, Tryz.ntmps15
    go_wp2_with fail
    go_loop [3] (fun i => ∃ k : Nat, k ≤ 3 ∧ i = .int .i64 k ∧ InTo s uppers k) (fun i => 3 - (intOf i).toNat)
    case atStart => exact ⟨0, by omega, rfl, InTo.zero _ _⟩
    case round =>
      obtain ⟨k, hk, rfl, hin⟩ := hrel
      by_cases hlt : k < 3
      · have hks : k < s.size := by have := H1.out; omega
        have HB := hide (upper_byte s[k])
        have k0 : (0 : Int) ≤ (k : Int) := by omega
        have k1 : (k : Int) < (s.size : Int) := by omega
        by_cases h2 : (s[k].toNat : Int) < 65
        · have HX := hide (InTo.not (cs := uppers) hks (by rw [HB.out]; simp; omega)).symm
          go_wp2_with fail
          go_ret
          exact ⟨ret_bool HX.out, rfl⟩
        · have h2d : decide ((s[k].toNat : Int) < 65) = false := by simpa using h2
          by_cases h3 : (90 : Int) < (s[k].toNat : Int)
          · have HX := hide (InTo.not (cs := uppers) hks (by rw [HB.out]; simp; omega)).symm
            go_wp2_with fail
            go_ret
            exact ⟨ret_bool HX.out, rfl⟩
          · have HX := hide (hin.succ hks (by rw [HB.out]; simp; omega))
            go_wp2_with fail
            go_round
            case rel => exact ⟨k + 1, by omega, by go_num, HX.out⟩
            case measure => simp [intOf]; omega
      · go_wp2_with fail
        go_ret
        exact ⟨ret_bool (hin.all (by have := H1.out; omega)).symm, rfl⟩
  · have hf : curB s = false := by simp [curB, h1]
    have h1' : ((s.size : Int) != 3) = true := by simpa using h1
    rw [hf]; clear hf h1
    go_enter Tryz.func15, Tryz.ntmps15
    go_wp2_with fail
    go_ret
    exact ⟨rfl, rfl⟩

theorem refEntity_any (n : Int) (w : World) : Calls Tryz.prog 45 #[.int .i64 n] w fun e w' => e = .returned (.bool (inB 1 12 n)) ∧ w = w' := by
  unfold inB
  by_cases h1 : 1 ≤ n
  · go_enter Tryz.func45, Tryz.ntmps45
    go_wp2_with fail
    go_ret
    exact ⟨by simp [h1], rfl⟩
  · have h1' : n < 1 := by omega
    have h1d : decide (1 ≤ n) = false := by simpa using h1
    clear h1
    go_enter Tryz.func45, Tryz.ntmps45
    go_wp2_with fail
    go_ret
    exact ⟨by simp [h1d], rfl⟩
theorem refPeriod_any (n : Int) (w : World) : Calls Tryz.prog 46 #[.int .i64 n] w fun e w' => e = .returned (.bool (inB 1 120 n)) ∧ w = w' := by
  unfold inB
  by_cases h1 : 1 ≤ n
  · go_enter Tryz.func46, Tryz.ntmps46
    go_wp2_with fail
    go_ret
    exact ⟨by simp [h1], rfl⟩
  · have h1' : n < 1 := by omega
    have h1d : decide (1 ≤ n) = false := by simpa using h1
    clear h1
    go_enter Tryz.func46, Tryz.ntmps46
    go_wp2_with fail
    go_ret
    exact ⟨by simp [h1d], rfl⟩
theorem refAmount_any (n : Int) (w : World) : Calls Tryz.prog 20 #[.int .i64 n] w fun e w' => e = .returned (.bool (inB (-1000000000000000) 1000000000000000 n)) ∧ w = w' := by
  unfold inB
  by_cases h1 : (-1000000000000000) ≤ n
  · go_enter Tryz.func20, Tryz.ntmps20
    go_wp2_with fail
    go_ret
    exact ⟨by simp [h1], rfl⟩
  · have h1' : n < (-1000000000000000) := by omega
    have h1d : decide ((-1000000000000000) ≤ n) = false := by simpa using h1
    clear h1
    go_enter Tryz.func20, Tryz.ntmps20
    go_wp2_with fail
    go_ret
    exact ⟨by simp [h1d], rfl⟩

end Go.Proofs.YtbdbpcllndajgaaGreatDoor

namespace Go.Proofs.YtbdbpcllndajgaaGreatDoor
open Go Go.RowKit
set_option linter.unusedVariables false

/-- those ahead of k stand ahead of x -/
def AheadTo (o : List Line) (x : Line) (k : Nat) : Prop := ∀ (j : Nat) (h : j < o.length), j < k → Key.lt o[j].key x.key = true
theorem AheadTo.zero (o : List Line) (x : Line) : AheadTo o x 0 := fun _ _ h => absurd h (by omega)
theorem AheadTo.succ {o : List Line} {x : Line} {k : Nat} (h : AheadTo o x k) (hk : k < o.length) (hc : Key.lt o[k].key x.key = true) : AheadTo o x (k + 1) := by
  intro j hj hjk
  by_cases e : j = k
  · subst e; exact hc
  · exact h j hj (by omega)
theorem ins_at {x : Line} : ∀ (o : List Line) (k : Nat), AheadTo o x k → k ≤ o.length → ins o x = o.take k ++ ins (o.drop k) x := by
  intro o
  induction o with
  | nil => intro k _ hk; simp at hk; subst hk; rfl
  | cons y o ih =>
    intro k h hk
    cases k with
    | zero => simp
    | succ k =>
      have h0 := h 0 (by simp) (by omega)
      simp only [List.getElem_cons_zero] at h0
      rw [ins, if_pos h0, ih k (fun j hj hjk => by have := h (j + 1) (by simpa using hj) (by omega); simpa using this) (by simpa using hk)]
      rfl
theorem ins_end {x : Line} {o : List Line} {k : Nat} (h : AheadTo o x k) (hk : k = o.length) : ins o x = o.take k ++ [x] ++ o.drop k := by
  rw [ins_at o k h (by omega), hk, List.drop_length]
  simp [ins]
theorem ins_mid {x : Line} {o : List Line} {k : Nat} (h : AheadTo o x k) (hk : k < o.length) (h1 : Key.lt o[k].key x.key = false) (h2 : ¬ o[k].key = x.key) : ins o x = o.take k ++ [x] ++ o.drop k := by
  rw [ins_at o k h (by omega), List.drop_eq_getElem_cons hk, ins, if_neg (by rw [h1]; decide), if_neg h2]
  simp
theorem ins_eq {x : Line} {o : List Line} {k : Nat} (h : AheadTo o x k) (hk : k < o.length) (h2 : o[k].key = x.key) : ins o x = o.set k { o[k] with amt := o[k].amt + x.amt } := by
  rw [ins_at o k h (by omega), List.drop_eq_getElem_cons hk, ins, if_neg (by rw [h2, Key.irrefl]; decide), if_pos h2]
  rw [List.set_eq_take_append_cons_drop, if_pos hk]

def insTo (l : List Line) (i : Nat) : List Line := (l.take i).foldl ins []
theorem insTo_succ (l : List Line) (i : Nat) (h : i < l.length) : insTo l (i + 1) = ins (insTo l i) l[i] := by
  unfold insTo
  rw [List.take_succ_eq_append_getElem h, List.foldl_append]
  rfl
theorem ins_len (o : List Line) (x : Line) : (ins o x).length ≤ o.length + 1 := by
  induction o with
  | nil => simp [ins]
  | cons y o ih =>
    unfold ins
    split
    · simp only [List.length_cons]; omega
    · split
      · simp
      · simp
theorem insTo_len (l : List Line) (i : Nat) (h : i ≤ l.length) : (insTo l i).length ≤ i := by
  induction i with
  | zero => simp [insTo]
  | succ k ih => rw [insTo_succ l k (by omega)]; have := ih (by omega); have := ins_len (insTo l k) (l[k]'(by omega)); omega
theorem ins_bnd {m a : Int} {o : List Line} {x : Line} (h : Bnd m o) (ha : 0 ≤ a) (hm : 0 ≤ m) (hx : -a ≤ x.amt ∧ x.amt ≤ a) : Bnd (m + a) (ins o x) := by
  induction o with
  | nil => intro z hz; simp only [ins, List.mem_singleton] at hz; subst hz; omega
  | cons y o ih =>
    have hy := h y (by simp)
    have ho : Bnd m o := fun z hz => h z (by simp [hz])
    intro z hz
    unfold ins at hz
    split at hz
    · rcases List.mem_cons.1 hz with rfl | hz
      · omega
      · exact ih ho z hz
    · split at hz
      · rcases List.mem_cons.1 hz with rfl | hz
        · show -(m + a) ≤ y.amt + x.amt ∧ y.amt + x.amt ≤ m + a
          omega
        · have := ho z hz; omega
      · rcases List.mem_cons.1 hz with rfl | hz
        · omega
        · have := h z hz; omega
theorem insTo_bnd (l : List Line) (m : Int) (hm : 0 ≤ m) (hb : Bnd m l) (k : Nat) (h : k ≤ l.length) : Bnd (k * m) (insTo l k) := by
  induction k with
  | zero => intro x hx; simp [insTo] at hx
  | succ k ih =>
    rw [insTo_succ l k (by omega)]
    have := ins_bnd (ih (by omega)) hm (Int.mul_nonneg (by omega) hm) (hb (l[k]'(by omega)) (List.getElem_mem _))
    rwa [show ((k + 1 : Nat) : Int) * m = k * m + m from by rw [Int.natCast_add, Int.add_mul]; simp]

theorem Rd.drop {α : Type} {w : World} {sz n b off : Nat} {enc : α → List Value} {l : List α} (h : Rd w sz enc (some ⟨b, off, none⟩) n l) (k : Nat) (hk : k ≤ n) : Rd w sz enc (some ⟨b, off + k * sz, none⟩) (n - k) (l.drop k) := by
  refine ⟨by rw [List.length_drop, h.1], fun hn => ?_⟩
  obtain ⟨b', off', e, hc⟩ := h.2 (by omega)
  injection e with e
  injection e with e1 e2
  subst e1 e2
  refine ⟨_, _, rfl, fun i j u hi hu => ?_⟩
  rw [List.length_drop] at hi
  have := hc (k + i) j u (by omega) (by rw [← hu, List.getElem_drop])
  rwa [show off + (k + i) * sz + j = off + k * sz + i * sz + j from by rw [Nat.add_mul]; omega] at this

theorem Rd.drop0 {α : Type} {w : World} {sz n b : Nat} {enc : α → List Value} {l : List α} (h : Rd w sz enc (some ⟨b, 0, none⟩) n l) (k : Nat) (hk : k ≤ n) : Rd w sz enc (some ⟨b, k * sz, none⟩) (n - k) (l.drop k) := by
  have := h.drop k hk
  rwa [Nat.zero_add] at this
theorem Rd.dropAll {α : Type} {w : World} {sz n : Nat} {enc : α → List Value} {l : List α} {A B : Option Addr} (h : Rd w sz enc A n l) (k : Nat) (hk : n ≤ k) : Rd w sz enc B (n - k) (l.drop k) :=
  ⟨by rw [List.length_drop, h.1], fun h => by omega⟩

theorem Rd.dropEnd {α : Type} {w : World} {sz : Nat} {enc : α → List Value} {l : List α} {A : Option Addr} : Rd w sz enc A 0 (l.drop l.length) :=
  ⟨by simp, fun h => absurd h (by omega)⟩
theorem Own.nilCap {α : Type} {w : World} {B e sz n c : Nat} {enc : α → List Value} {l : List α} (h : Own w B e sz enc (.slice none n c) l) : c = 0 := by
  rcases h.2 with ⟨hv, _⟩ | ⟨g', c', cur, hv, _⟩
  · injection hv
  · cases hv

/-- the key's order by its two tests -/
theorem lt_acc {x y : Line} (h : Op.bytesLess x.acc.toList y.acc.toList = true) : Key.lt x.key y.key = true := by
  have : lessB x.acc y.acc = true := h
  simp [Key.lt, Line.key, this]
theorem lt_no {x y : Line} (h : Op.bytesLess x.acc.toList y.acc.toList = false) (k : (x.acc.toList == y.acc.toList) = false) : Key.lt x.key y.key = false := by
  have h' : lessB x.acc y.acc = false := h
  rw [beq_toList, decide_eq_false_iff_not] at k
  simp [Key.lt, Line.key, h', k]
theorem lt_cur {x y : Line} (h : Op.bytesLess x.acc.toList y.acc.toList = false) (k : (x.acc.toList == y.acc.toList) = true) : Key.lt x.key y.key = Op.bytesLess x.cur.toList y.cur.toList := by
  rw [beq_toList, decide_eq_true_eq] at k
  simp [Key.lt, Line.key, k, lessB_irrefl]
  rfl
theorem key_of {x y : Line} (h : (x.acc.toList == y.acc.toList) = true) (k : (x.cur.toList == y.cur.toList) = true) : x.key = y.key := by
  rw [beq_toList, decide_eq_true_eq] at h k
  simp [Line.key, h, k]
theorem key_ne {x y : Line} (h : (x.acc.toList == y.acc.toList) = false ∨ (x.cur.toList == y.cur.toList) = false) : ¬ x.key = y.key := by
  intro e
  simp only [Line.key, Key.mk.injEq] at e
  rcases h with h | h
  · rw [e.1] at h; simp at h
  · rw [e.2] at h; simp at h

end Go.Proofs.YtbdbpcllndajgaaGreatDoor

namespace Go.Proofs.YtbdbpcllndajgaaGreatDoor
open Go Go.RowKit
set_option linter.unusedVariables false

theorem step_push {P : Program} (w : World) {α : Type} {enc : α → List Value} {ops : Array Oper} {o : Oper} {a : Act} {K : Act → World → Prop} {Q : Exit → Act → World → Prop} {E : Prop} (hgd : o.guard = none) (s x : Operand) (t : TypeId)
    (ho : o.op = .call { callee := .builtin .append, args := #[s, x], argTypes := #[t, t] })
    (B : Nat) (e : TypeId) (i : TypeInfo) (z : Value) (sz bytes : Nat) (ht : P.underlying t = some (.slice e)) (hi : P.info? e = some i) (hz : i.zero = some z)
    (hsize : i.size = sz) (hby : i.bytes = bytes) (hzs : z.cells.size = sz) (hsz : 0 < sz) (he : Enc sz enc) (v : Value) (l : List α) (hs : a.eval s = v) (hown : Own w B e sz enc v l)
    (A : Option Addr) (m c : Nat) (ys : List α) (hx : a.eval x = .slice A m c) (hr : Rd w sz enc A m ys) (hA : A = none → c = 0)
    (h63 : l.length + m ≤ maxLen) (hbytes : (l.length + m) * bytes ≤ 140737488355328) (hbase : B ≤ w.heap.size)
    (h : ∀ v' w', Own w' B e sz enc v' (l ++ ys) → w.grownBy w' v.ownBlock → (v'.ownBlock = v.ownBlock ∨ v'.ownBlock = some w.heap.size) → K (a.put o.dst v') w') :
    if Region.wanted o (yielded ops a.tmps) = true then Oper.wp P o a w K Q else E := by
  have hw : Region.wanted o (yielded ops a.tmps) = true := by simp [Region.wanted, hgd]
  rw [if_pos hw]
  exact wp_push w s x t ho B e i z sz bytes ht hi hz hsize hby hzs hsz he v l hs hown A m c ys hx hr hA h63 hbytes hbase h

theorem take_map_succ {α β : Type} (f : α → β) (l : List α) (k : Nat) (h : k < l.length) : (l.take (k + 1)).map f = (l.take k).map f ++ [f l[k]] := by
  rw [List.take_succ_eq_append_getElem h, List.map_append]; rfl

/-- the round's word: none of those ahead is other than 0 -/
theorem any_false {l : List Line} {p : Line → Bool} {k : Nat} (h : NoneP l p k) (hk : l.length ≤ k) : l.any p = false := by
  rw [List.any_eq_false]
  intro x hx
  obtain ⟨j, hj, rfl⟩ := List.getElem_of_mem hx
  rw [h j hj (by omega)]; decide
theorem any_true {l : List Line} {p : Line → Bool} {k : Nat} (hk : k < l.length) (h : p l[k] = true) : l.any p = true := List.any_eq_true.2 ⟨_, List.getElem_mem hk, h⟩

end Go.Proofs.YtbdbpcllndajgaaGreatDoor
