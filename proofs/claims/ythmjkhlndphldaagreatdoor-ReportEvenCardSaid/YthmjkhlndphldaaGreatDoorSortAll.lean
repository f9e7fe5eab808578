/- entry.Compare: what it returns. -/
import Derived.Test.YthmjkhlndphldaaGreatDoorLine
import Derived.Test.YthmjkhlndphldaaGreatDoorOwn
import Derived.Deep.QuietTactic
import Derived.BigQuiet
import Derived.StillTailTactics
import Derived.Sort.Grow
import Derived.Outline
import Derived.Shelf.SlSortCmp.InsertionK
import Derived.Test.YthmjkhlndphldaaGreatDoorShel2
import Derived.LoopN
namespace Go.Proofs.YthmjkhlndphldaaGreatDoor
open Go Go.RowKit
set_option linter.unusedVariables false

def lineEnc (x : Line) : List Value := [.string x.acc, .string x.cur, .int .i64 x.amt]
theorem lineEnc_ok : Enc 3 lineEnc := ⟨fun _ => rfl, fun _ u hu => by simp [lineEnc] at hu; rcases hu with rfl | rfl | rfl <;> rfl⟩

/-- Go's three-way order of texts -/
def cmpB (a b : ByteArray) : Int := if lessB a b = true then -1 else if lessB b a = true then 1 else 0
theorem cmpB_m {a b : ByteArray} (h : lessB a b = true) : cmpB a b = -1 := by rw [cmpB, if_pos h]
theorem cmpB_p {a b : ByteArray} (h : lessB b a = true) : cmpB a b = 1 := by rw [cmpB, if_neg (by rw [lessB_asymm h]; decide), if_pos h]
theorem cmpB_z (a : ByteArray) : cmpB a a = 0 := by rw [cmpB, if_neg (by rw [lessB_irrefl]; decide), if_neg (by rw [lessB_irrefl]; decide)]

theorem isNaN_str (a : ByteArray) (w : World) : Calls Tryz.prog 184 #[.string a] w fun e w' => e = .returned (.bool false) ∧ w' = w := by
  have h : (a.toList == a.toList) = true := by simp
  go_enter Tryz.func184, Tryz.ntmps184
  go_wp2_with fail
  go_ret
  exact ⟨by simp, rfl⟩
theorem compare_str (a b : ByteArray) (w : World) : Calls Tryz.prog 146 #[.string a, .string b] w fun e w' => e = .returned (.int .i64 (cmpB a b)) ∧ w' = w := by
  cases h1 : lessB a b with
  | true =>
    have H := hide (cmpB_m h1)
    have h2 : Op.bytesLess a.toList b.toList = true := h1
    clear h1
    go_enter Tryz.func146, Tryz.ntmps146
    go_wp2_with (go_at_call 184; refine (isNaN_str _ _).mono ?_; rintro e w1 ⟨rfl, rfl⟩)
    go_ret
    exact ⟨by rw [H.out]; rfl, rfl⟩
  | false =>
    cases h2 : lessB b a with
    | true =>
      have H := hide (cmpB_p h2)
      have k1 : Op.bytesLess a.toList b.toList = false := h1
      have k2 : (a.toList == b.toList) = false := by
        rw [beq_toList]
        refine decide_eq_false fun e => ?_
        subst e
        rw [lessB_irrefl] at h2; cases h2
      clear h1 h2
      go_enter Tryz.func146, Tryz.ntmps146
      go_wp2_with (go_at_call 184; refine (isNaN_str _ _).mono ?_; rintro e w1 ⟨rfl, rfl⟩)
      go_ret
      exact ⟨by rw [H.out]; rfl, rfl⟩
    | false =>
      obtain rfl := lessB_tri h1 h2
      have H := hide (cmpB_z a)
      have k1 : Op.bytesLess a.toList a.toList = false := h1
      have k2 : (a.toList == a.toList) = true := by simp
      clear h1 h2
      go_enter Tryz.func146, Tryz.ntmps146
      go_wp2_with (go_at_call 184; refine (isNaN_str _ _).mono ?_; rintro e w1 ⟨rfl, rfl⟩)
      go_ret
      exact ⟨by rw [H.out]; rfl, rfl⟩

def orV (x y : Int) : Int := if x = 0 then y else x
/-- cmp.Or of two numbers -/
theorem or_two (x y : Int) (g cap : Nat) (w : World) (h0 : w.cell? ⟨g, 0, none⟩ = some (.int .i64 x)) (h1 : w.cell? ⟨g, 1, none⟩ = some (.int .i64 y)) :
    Calls Tryz.prog 144 #[.slice (some ⟨g, 0, none⟩) 2 cap] w fun e w' => e = .returned (.int .i64 (orV x y)) ∧ w' = w := by
  go_enter Tryz.func144, Tryz.ntmps144
  go_wp2_with fail
  go_loop [8] (fun i => ∃ k : Nat, k ≤ 2 ∧ i = .int .i64 k ∧ Hid (1 ≤ k → x = 0) ∧ Hid (2 ≤ k → y = 0)) (fun i => 2 - (intOf i).toNat)
  case atStart => exact ⟨0, by omega, rfl, fun h => absurd h (by omega), fun h => absurd h (by omega)⟩
  case round =>
    obtain ⟨k, hk, rfl, hx, hy⟩ := hrel
    by_cases k0 : k = 0
    · subst k0
      cases hz : x == 0 with
      | true =>
        have hz2 : (x != 0) = false := by rw [bne, hz]; rfl
        have HX : Hid (x = 0) := by show x = 0; simpa using hz
        go_wp2_with fail
        go_round
        case rel => exact ⟨1, by omega, rfl, fun _ => HX.out, fun h => absurd h (by omega)⟩
        case measure => simp [intOf]
      | false =>
        have hz2 : (x != 0) = true := by rw [bne, hz]; rfl
        have HX : Hid (¬ x = 0) := by show ¬ x = 0; simpa using hz
        go_wp2_with fail
        go_ret
        exact ⟨ret_int (by rw [orV, if_neg HX.out]), rfl⟩
    · by_cases k1 : k = 1
      · subst k1
        have HX := hide (hx.out (by omega))
        clear k0 hx hy
        cases hz : y == 0 with
        | true =>
          have hz2 : (y != 0) = false := by rw [bne, hz]; rfl
          have HY : Hid (y = 0) := by show y = 0; simpa using hz
          go_wp2_with fail
          go_round
          case rel => exact ⟨2, by omega, rfl, fun _ => HX.out, fun _ => HY.out⟩
          case measure => simp [intOf]
        | false =>
          have hz2 : (y != 0) = true := by rw [bne, hz]; rfl
          go_wp2_with fail
          go_ret
          exact ⟨ret_int (by rw [orV, if_pos HX.out]), rfl⟩
      · have k2 : k = 2 := by omega
        subst k2
        have HX := hide (hx.out (by omega))
        have HY := hide (hy.out (by omega))
        clear k0 k1 hx hy
        go_wp2_with fail
        go_ret
        exact ⟨ret_int (by rw [orV, if_pos HX.out, HY.out]), rfl⟩

/-- the order of lines: by account, then by currency -/
def cmpL (x y : Line) : Int := orV (cmpB x.acc y.acc) (cmpB x.cur y.cur)
set_option maxRecDepth 100000 in
theorem compare_line (x y : Line) (W : World) :
    Calls Tryz.prog 122 #[.agg #[.string x.acc, .string x.cur, .int .i64 x.amt], .agg #[.string y.acc, .string y.cur, .int .i64 y.amt]] W
      fun e w' => e = .returned (.int .i64 (cmpL x y)) ∧ ∃ q os', w' = Go.Sort.grow (W.drewN q) os' := by
  go_enter Tryz.func122, Tryz.ntmps122
  go_wp2_with fail
  have c0 : ((W.alloc (.cells #[.string x.acc, .string x.cur, .int .i64 x.amt] 35)).alloc (.cells #[.string y.acc, .string y.cur, .int .i64 y.amt] 35)).cell? ⟨W.heap.size, 0, none⟩ = some (.string x.acc) := by simp
  have c1 : ((W.alloc (.cells #[.string x.acc, .string x.cur, .int .i64 x.amt] 35)).alloc (.cells #[.string y.acc, .string y.cur, .int .i64 y.amt] 35)).cell? ⟨W.heap.size, 1, none⟩ = some (.string x.cur) := by simp
  have c2 : ((W.alloc (.cells #[.string x.acc, .string x.cur, .int .i64 x.amt] 35)).alloc (.cells #[.string y.acc, .string y.cur, .int .i64 y.amt] 35)).cell? ⟨W.heap.size + 1, 0, none⟩ = some (.string y.acc) := by simp
  have c3 : ((W.alloc (.cells #[.string x.acc, .string x.cur, .int .i64 x.amt] 35)).alloc (.cells #[.string y.acc, .string y.cur, .int .i64 y.amt] 35)).cell? ⟨W.heap.size + 1, 1, none⟩ = some (.string y.cur) := by simp
  have HG : Hid (∃ os', ((W.alloc (.cells #[.string x.acc, .string x.cur, .int .i64 x.amt] 35)).alloc (.cells #[.string y.acc, .string y.cur, .int .i64 y.amt] 35)) = Go.Sort.grow W os') := ⟨_, by rw [Go.Sort.alloc_eq_grow, Go.Sort.alloc_eq_grow, Go.Sort.grow_grow]⟩
  generalize ((W.alloc (.cells #[.string x.acc, .string x.cur, .int .i64 x.amt] 35)).alloc (.cells #[.string y.acc, .string y.cur, .int .i64 y.amt] 35)) = W1 at c0 c1 c2 c3 HG ⊢
  refine wp_region_still_tail 10 (by kernel_rfl) (by kernel_rfl) ?_
  simp only [List.take_succ_cons, List.take_zero, List.drop_succ_cons, List.drop_zero]
  change wpStill _ _ W1.drew _ _ _
  still_step
  still_step
  still_step
  still_step
  still_call (compare_str x.acc y.acc _)
  still_step
  still_step
  still_step
  still_step
  still_call (compare_str x.cur y.cur _)
  refine wpStill_nil ?_
  change wpList _ _ _ _ _ W1.drew
  go_wp2_with fail
  refine (or_two (cmpB x.acc y.acc) (cmpB x.cur y.cur) _ _ _ (by simp) (by simp)).mono ?_
  rintro e w' ⟨rfl, rfl⟩
  go_wp2_with fail
  go_ret
  obtain ⟨os', ho⟩ := HG.out
  refine ⟨rfl, 1, os' ++ #[.cells #[.int .i64 (cmpB x.acc y.acc), .int .i64 (cmpB x.cur y.cur)] 3], ?_⟩
  rw [ho, ← Go.Sort.grow_grow, Go.Sort.alloc_eq_grow]
  rfl

theorem cmpB_lt (a b : ByteArray) : decide (cmpB a b < 0) = lessB a b := by
  unfold cmpB
  cases h : lessB a b
  · cases h2 : lessB b a <;> simp
  · simp
theorem cmpB_0 {a b : ByteArray} : cmpB a b = 0 ↔ a = b := by
  constructor
  · intro h
    cases h1 : lessB a b with
    | true => rw [cmpB_m h1] at h; cases h
    | false =>
      cases h2 : lessB b a with
      | true => rw [cmpB_p h2] at h; cases h
      | false => exact lessB_tri h1 h2
  · rintro rfl; exact cmpB_z a
theorem cmpL_lt (x y : Line) : decide (cmpL x y < 0) = Key.lt x.key y.key := by
  unfold cmpL orV
  by_cases h : cmpB x.acc y.acc = 0
  · rw [if_pos h, cmpB_lt]
    have e := cmpB_0.1 h
    simp [Key.lt, Line.key, e, lessB_irrefl]
  · rw [if_neg h, cmpB_lt]
    have e : ¬ x.acc = y.acc := fun e => h (cmpB_0.2 e)
    simp [Key.lt, Line.key, e]
theorem cmpL_0 (x y : Line) : cmpL x y = 0 ↔ x.key = y.key := by
  unfold cmpL orV
  by_cases h : cmpB x.acc y.acc = 0
  · rw [if_pos h, cmpB_0]
    have e := cmpB_0.1 h
    simp [Line.key, e]
  · rw [if_neg h]
    have e : ¬ x.acc = y.acc := fun e => h (cmpB_0.2 e)
    simp [Line.key, e, h]
end Go.Proofs.YthmjkhlndphldaaGreatDoor

namespace Go.Proofs.YthmjkhlndphldaaGreatDoor
open Go Go.RowKit
set_option linter.unusedVariables false

/-- block g has m cells that begin with the records l -/
def RowAt {α : Type} (w : World) (g e sz : Nat) (enc : α → List Value) (m : Nat) (l : List α) : Prop :=
  ∃ cur : Array Value, w.heap[g]? = some (.cells cur e (0, 0)) ∧ cur.size = m ∧ cur.toList.take (l.length * sz) = l.flatMap enc

section
variable {α : Type} {enc : α → List Value} {w : World} {g e sz m : Nat} {l : List α}

theorem RowAt.lt (h : RowAt w g e sz enc m l) : g < w.heap.size := by
  obtain ⟨cur, hc, _, _⟩ := h
  rcases Nat.lt_or_ge g w.heap.size with hlt | hge
  · exact hlt
  · rw [Array.getElem?_eq_none hge] at hc; cases hc
theorem RowAt.below {w' : World} (h : RowAt w g e sz enc m l) (hb : Below w.heap.size w w') : RowAt w' g e sz enc m l := by
  have hlt := h.lt
  obtain ⟨cur, hc, hs, ht⟩ := h
  exact ⟨cur, (hb.block g hlt).trans hc, hs, ht⟩
theorem RowAt.rd (he : Enc sz enc) (h : RowAt w g e sz enc m l) : Rd w sz enc (some ⟨g, 0, none⟩) l.length l := by
  obtain ⟨cur, hc, hs, ht⟩ := h
  refine ⟨rfl, fun _ => ⟨g, 0, rfl, fun k j u hk hu => ?_⟩⟩
  have hj : j < sz := by
    have := (List.getElem?_eq_some_iff.1 hu).1
    rw [he.len] at this; exact this
  rw [cell_of_row w g _ cur e (0, 0) hc, Nat.zero_add, ← hu, ← flatMap_get he l k j hk hj, ← ht, List.getElem?_take]
  have hlt : k * sz + j < l.length * sz := by
    have : (k + 1) * sz ≤ l.length * sz := Nat.mul_le_mul_right _ hk
    rw [Nat.add_mul] at this; omega
  rw [if_pos hlt]
  simp
theorem RowAt.frozen (h : RowAt w g e sz enc m l) (j : Nat) : w.frozen? ⟨g, j, none⟩ = false := by
  obtain ⟨cur, hc, hs, ht⟩ := h
  exact frozen_of_row w g j _ _ hc
theorem RowAt.own {B cap : Nat} (h : RowAt w g e sz enc (cap * sz) l) (he : Enc sz enc) (hB : B ≤ g) (hc : l.length ≤ cap) (hm : cap ≤ maxLen) : Own w B e sz enc (.slice (some ⟨g, 0, none⟩) l.length cap) l := by
  obtain ⟨cur, hc', hs, ht⟩ := h
  exact ⟨flatMap_len he l, .inr ⟨g, cap, cur, rfl, hB, hc', hc, hm, hs, ht⟩⟩

variable [Inhabited α]
theorem flatK_eq (he : Enc sz enc) (l : List α) : (Go.Sort.flatK enc sz l.toArray).toList = l.flatMap enc := by
  apply List.ext_getElem?
  intro j
  by_cases hj : j < l.length * sz
  · have hsz : 0 < sz := by rcases Nat.eq_zero_or_pos sz with h | h; (· subst h; simp at hj); (· exact h)
    have hk : j / sz < l.length := Nat.div_lt_of_lt_mul (by rw [Nat.mul_comm]; exact hj)
    have hm := Nat.mod_lt j hsz
    have hsum : j / sz * sz + j % sz = j := by rw [Nat.mul_comm]; exact Nat.div_add_mod j sz
    have h1 := flatMap_get he l (j / sz) (j % sz) hk hm
    rw [hsum] at h1
    rw [h1]
    have hs : j < (Go.Sort.flatK enc sz l.toArray).size := by simpa using hj
    rw [Array.getElem?_toList, Array.getElem?_eq_getElem hs]
    have h2 := Go.Sort.get_flatK enc sz l.toArray j (by simpa using hj)
    rw [getElem!_pos _ j hs] at h2
    rw [h2]
    have hkk : (l.toArray[j / sz]! : α) = l[j / sz] := by rw [getElem!_pos l.toArray (j / sz) (by simpa using hk)]; simp
    rw [hkk]
    have hlen : j % sz < (enc l[j / sz]).length := by rw [he.len]; exact hm
    rw [getElem!_pos (enc l[j / sz]) (j % sz) hlen, List.getElem?_eq_getElem hlen]
  · rw [List.getElem?_eq_none (by simp; omega), List.getElem?_eq_none (by rw [flatMap_len he]; omega)]

theorem RowAt.holds (he : Enc sz enc) (h : RowAt w g e sz enc m l) : Go.Sort.HoldsK enc sz w g 0 l.toArray := by
  obtain ⟨cur, hc, hs, ht⟩ := h
  intro j hj
  refine ⟨?_, frozen_of_row w g _ _ _ hc⟩
  have hj' : j < l.length * sz := by simpa using hj
  rw [cell_of_row w g _ cur e (0, 0) hc, Nat.zero_add]
  have h1 : cur.toList[j]? = (l.flatMap enc)[j]? := by rw [← ht, List.getElem?_take, if_pos hj']
  rw [← Array.getElem?_toList, h1, ← flatK_eq he l, Array.getElem?_toList, getElem!_pos _ j hj]
  simp [hj']

theorem RowAt.resorted (he : Enc sz enc) (h : RowAt w g e sz enc m l) (n : Nat) (os : Array Obj) (d : Array α) (hd : d.size = l.length) :
    RowAt (Go.Proofs.sortWorldK enc sz w g 0 n d os) g e sz enc m d.toList ∧ w.grownBy (Go.Proofs.sortWorldK enc sz w g 0 n d os) (some g) := by
  have hlt := h.lt
  obtain ⟨cur, hc, hs, ht⟩ := h
  have hlen : l.length * sz ≤ cur.size := by
    have := congrArg List.length ht
    rw [List.length_take, flatMap_len he] at this
    have h2 : cur.toList.length = cur.size := by simp
    omega
  have hblk : (Go.Proofs.sortWorldK enc sz w g 0 n d os).heap[g]? = some (.cells (Go.Sort.putCells id 0 (Go.Sort.flatK enc sz d) cur) e (0, 0)) := by
    show ((w.heap.modify g (Go.Sort.onCells (Go.Sort.putCells id 0 (Go.Sort.flatK enc sz d)))) ++ os)[g]? = _
    rw [Array.getElem?_append_left (by simpa using hlt), Array.getElem?_modify, if_pos rfl, hc]
    rfl
  have hsz : d.size * sz ≤ cur.size := by rw [hd]; exact hlen
  refine ⟨⟨_, hblk, by simpa [Go.Sort.putCells] using hs, ?_⟩, rfl, rfl, rfl, ?_, fun i hi hne => ?_⟩
  · have hf := flatK_eq (sz := sz) (enc := enc) he d.toList
    rw [show d.toList.toArray = d from by simp] at hf
    rw [← hf]
    apply List.ext_getElem?
    intro j
    rw [List.getElem?_take]
    by_cases hj : j < d.toList.length * sz
    · rw [if_pos hj]
      have hj' : j < d.size * sz := by simpa using hj
      have hjc : j < cur.size := by omega
      have hjf : j < (Go.Sort.flatK enc sz d).size := by simpa using hj'
      rw [Array.getElem?_toList, Array.getElem?_toList, Array.getElem?_eq_getElem hjf]
      simp only [Go.Sort.putCells, Array.getElem?_mapIdx, Array.getElem?_eq_getElem hjc, Option.map_some, Nat.zero_le, true_and, Nat.zero_add, Nat.sub_zero, id]
      rw [if_pos hjf, getElem!_pos _ j hjf]
    · rw [if_neg hj, List.getElem?_eq_none (by simpa using hj)]
  · show w.heap.size ≤ ((w.heap.modify g _) ++ os).size
    simp
  · show ((w.heap.modify g _) ++ os)[i]? = _
    rw [Array.getElem?_append_left (by simpa using hi), Array.getElem?_modify, if_neg (fun e => hne (by rw [e]))]
end
end Go.Proofs.YthmjkhlndphldaaGreatDoor

namespace Go.Proofs.YthmjkhlndphldaaGreatDoor
open Go Go.RowKit
set_option linter.unusedVariables false

instance : Inhabited Line := ⟨⟨⟨#[]⟩, ⟨#[]⟩, 0⟩⟩
theorem ltOf_line : Go.Proofs.ltOf cmpL = fun x y => Key.lt x.key y.key := by
  funext x y
  exact cmpL_lt x y
theorem swo_line : Go.Sort.SWO (Go.Proofs.ltOf cmpL) := by
  rw [ltOf_line]
  exact ⟨fun x => Key.irrefl _, fun x y z h k => Key.trans h k, fun x y z h k => Key.le_trans k h⟩
theorem cmpLays_line (g size : Nat) (w : World) : Go.Proofs.CmpLays Tryz.prog 122 #[] lineEnc 3 cmpL g 0 size w :=
  fun _ _ _ _ x y => compare_line x y _
def lineT : Nat := 35

theorem ins_lines (l : List Line) (g cap n m : Nat) (w : World) (h : RowAt w g 35 3 lineEnc m l) (hn : n = l.length) (hl : n ≤ 20) :
    Calls Tryz.prog 200 #[.slice (some ⟨g, 0, none⟩) n cap, .int .i64 0, .int .i64 n, .func (.func 122) #[] #[]] w
      fun e w' => e = .returned (.tuple #[]) ∧ ∃ s : List Line, s.Perm l ∧ WSort s ∧ RowAt w' g 35 3 lineEnc m s ∧ w.grownBy w' (some g) := by
  subst hn
  have eg : ∀ args w, (callFunc 122 args).run Tryz.prog w = .ok (.enter 122 args) w := enters_of Tryz.func122 (by kernel_rfl) rfl
  have hcon := Go.Proofs.AnyQ.insertionSortCmpFunc Tryz.g200 3 Tryz.isAgg35 Tryz.sizeOf35 lineEnc (fun _ => rfl) lineEnc_ok.one cmpL 122 #[] g 0 cap 0 l.length l.toArray w eg
    (cmpLays_line g _ w) (h.holds lineEnc_ok) h.lt (Nat.zero_le _) (by simp) (by simp; omega)
  change Calls Tryz.prog 200 _ _ _ at hcon
  obtain ⟨hp, hs⟩ := Go.Sort.insertionSort_holds (lt := Go.Proofs.ltOf cmpL) swo_line l.toArray 0 l.length (Nat.zero_le _) (by simp)
  generalize Go.Sort.insertionSort (Go.Proofs.ltOf cmpL) l.toArray 0 l.length = d at hcon hp hs
  refine Calls.mono ?_ (fun e w' (hw : e = .returned (.tuple #[]) ∧ ∃ n os, w' = Go.Proofs.sortWorldK lineEnc 3 w g 0 n d os) => ?_)
  · simpa using hcon
  obtain ⟨rfl, q, os, rfl⟩ := hw
  have hd : d.size = l.length := by rw [hp.1]; simp
  obtain ⟨h1, h2⟩ := h.resorted lineEnc_ok q os d hd
  refine ⟨rfl, d.toList, ?_, ?_, h1, h2⟩
  · have := hp.2.2
    have h3 : (d.extract 0 l.length).toList = d.toList := by rw [← hd]; simp
    rw [h3] at this
    simpa using this
  · rw [WSort, List.pairwise_iff_getElem]
    intro i j hi hj hij
    have h3 := hs i j (Nat.zero_le _) hij (by rw [← hd]; simpa using hj)
    rw [ltOf_line] at h3
    have e1 : d[j]! = d[j]'(by simpa using hj) := getElem!_pos d j _
    have e2 : d[i]! = d[i]'(by simpa using hi) := getElem!_pos d i _
    rw [e1, e2] at h3
    simpa using h3

/-- nothing to sort -/
theorem ins_same (v fv : Value) (a : Nat) (w : World) (ha : a ≤ 20) :
    Calls Tryz.prog 200 #[v, .int .i64 a, .int .i64 a, fv] w fun e w' => e = .returned (.tuple #[]) ∧ w' = w := by
  have h : ¬ ((a : Int) + 1 < (a : Int)) := by omega
  go_enter Tryz.func200, Tryz.ntmps200
  go_wp2_with fail
  refine wp_loop_rounds 1 ?_
  rw [rounds_succ]
  go_wp2_with fail
  go_end0
  exact ⟨rfl, rfl⟩

theorem wsort_short (l : List Line) (h : l.length ≤ 1) : WSort l := by
  match l, h with
  | [], _ => exact List.Pairwise.nil
  | [x], _ => exact List.pairwise_singleton _ _

theorem stable_lines (l : List Line) (g cap n m : Nat) (w : World) (h : RowAt w g 35 3 lineEnc m l) (hn : n = l.length) (hl : n ≤ 20) :
    Calls Tryz.prog 166 #[.slice (some ⟨g, 0, none⟩) n cap, .int .i64 n, .func (.func 122) #[] #[]] w
      fun e w' => e = .returned (.tuple #[]) ∧ ∃ s : List Line, s.Perm l ∧ WSort s ∧ RowAt w' g 35 3 lineEnc m s ∧ w.grownBy w' (some g) := by
  have HN := hide hn
  clear hn
  by_cases h20 : n = 20
  · subst h20
    go_enter Tryz.func166, Tryz.ntmps166
    go_wp2_with fail
    refine wp_loop_rounds 2 ?_
    rw [rounds_succ]
    go_wp2_with fail
    refine (ins_lines l g cap 20 m _ h HN.out hl).mono ?_
    rintro e w1 ⟨rfl, s, hp, hs, hr, hg⟩
    go_wp2_with fail
    rw [rounds_succ]
    go_wp2_with fail
    refine (ins_same _ _ 20 _ (by omega)).mono ?_
    rintro e w2 ⟨rfl, rfl⟩
    go_wp2_with fail
    refine wp_loop_rounds 1 ?_
    rw [rounds_succ]
    go_wp2_with fail
    go_end0
    exact ⟨rfl, s, hp, hs, hr, hg⟩
  · have h1 : ¬ ((20 : Int) ≤ (n : Int)) := by omega
    have h2 : ¬ ((20 : Int) < (n : Int)) := by omega
    go_enter Tryz.func166, Tryz.ntmps166
    go_wp2_with fail
    refine wp_loop_rounds 1 ?_
    rw [rounds_succ]
    go_wp2_with fail
    refine (ins_lines l g cap n m _ h HN.out hl).mono ?_
    rintro e w1 ⟨rfl, s, hp, hs, hr, hg⟩
    go_wp2_with fail
    refine wp_loop_rounds 1 ?_
    rw [rounds_succ]
    go_wp2_with fail
    go_end0
    exact ⟨rfl, s, hp, hs, hr, hg⟩

theorem stable_none (p : Option Addr) (cap : Nat) (w : World) :
    Calls Tryz.prog 166 #[.slice p 0 cap, .int .i64 0, .func (.func 122) #[] #[]] w
      fun e w' => e = .returned (.tuple #[]) ∧ w' = w := by
  go_enter Tryz.func166, Tryz.ntmps166
  go_wp2_with fail
  refine wp_loop_rounds 1 ?_
  rw [rounds_succ]
  go_wp2_with fail
  refine (ins_same _ _ 0 _ (by omega)).mono ?_
  rintro e w1 ⟨rfl, rfl⟩
  go_wp2_with fail
  refine wp_loop_rounds 1 ?_
  rw [rounds_succ]
  go_wp2_with fail
  go_end0
  exact ⟨rfl, rfl⟩

/-- a slice of the call's own is put in order -/
theorem sort_lines (l : List Line) (B : Nat) (v : Value) (w : World) (h : Own w B 35 3 lineEnc v l) (hB : B ≤ w.heap.size) (hl : l.length ≤ 20) :
    Calls Tryz.prog 121 #[v, .func (.func 122) #[] #[]] w
      fun e w' => e = .returned (.tuple #[]) ∧ ∃ s : List Line, s.Perm l ∧ WSort s ∧ Own w' B 35 3 lineEnc v s ∧ Below B w w' := by
  have h' := h
  rcases h.2 with ⟨rfl, h0⟩ | ⟨g, cap, cur, rfl, hBg, hg, hc, hm, hcs, ht⟩
  · have hl0 : l = [] := List.eq_nil_of_length_eq_zero h0
    subst hl0
    go_enter Tryz.func121, Tryz.ntmps121
    go_wp2_with fail
    refine (stable_none _ _ _).mono ?_
    rintro e w1 ⟨rfl, rfl⟩
    go_wp2_with fail
    go_end0
    exact ⟨rfl, [], List.Perm.refl _, List.Pairwise.nil, h', Below.refl _ _⟩
  · have hr : RowAt w g 35 3 lineEnc (cap * 3) l := ⟨cur, hg, hcs, ht⟩
    go_enter Tryz.func121, Tryz.ntmps121
    go_wp2_with fail
    refine (stable_lines l g cap _ _ _ hr rfl hl).mono ?_
    rintro e w1 ⟨rfl, s, hp, hs, hr1, hgr⟩
    go_wp2_with fail
    go_end0
    refine ⟨rfl, s, hp, hs, ?_, (Below.refl _ _).grown hgr hB (fun k e => by injection e with e; omega)⟩
    have hlen := hp.length_eq
    rw [← hlen]
    exact hr1.own lineEnc_ok hBg (by omega) hm
end Go.Proofs.YthmjkhlndphldaaGreatDoor
