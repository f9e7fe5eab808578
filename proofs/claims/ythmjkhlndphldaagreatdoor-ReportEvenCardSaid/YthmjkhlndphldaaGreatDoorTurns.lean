/- The journal's Has and Turns, walked. -/
import Derived.Test.YthmjkhlndphldaaGreatDoorJrnAll
import Derived.Test.YthmjkhlndphldaaGreatDoorBigAll
namespace Go.Proofs.YthmjkhlndphldaaGreatDoor
open Go Go.RowKit
set_option linter.unusedVariables false

/-- is a line of an account and a currency, and a debit? -/
def ofAC (a c : ByteArray) (x : Line) : Bool := decide (x.acc = a) && decide (x.cur = c)
def debs (a c : ByteArray) (l : List Line) : List Int := (l.filter fun x => ofAC a c x && decide (0 < x.amt)).map Line.amt
def creds (a c : ByteArray) (l : List Line) : List Int := (l.filter fun x => ofAC a c x && !decide (0 < x.amt)).map fun x => -x.amt
section
variable {a c : ByteArray} {l : List Line} {x : Line}
theorem debs_len (a c : ByteArray) (l : List Line) : (debs a c l).length ≤ l.length := by
  unfold debs; rw [List.length_map]; exact List.length_filter_le _ _
theorem creds_len (a c : ByteArray) (l : List Line) : (creds a c l).length ≤ l.length := by
  unfold creds; rw [List.length_map]; exact List.length_filter_le _ _
theorem debs_no (h : ofAC a c x = false) : debs a c (l ++ [x]) = debs a c l := by simp [debs, h]
theorem creds_no (h : ofAC a c x = false) : creds a c (l ++ [x]) = creds a c l := by simp [creds, h]
theorem debs_yes (h : ofAC a c x = true) (hx : 0 < x.amt) : debs a c (l ++ [x]) = debs a c l ++ [x.amt] := by simp [debs, h, hx]
theorem creds_pos (h : ofAC a c x = true) (hx : 0 < x.amt) : creds a c (l ++ [x]) = creds a c l := by simp [creds, h, hx]
theorem debs_neg (h : ofAC a c x = true) (hx : ¬ 0 < x.amt) : debs a c (l ++ [x]) = debs a c l := by simp [debs, h, hx]
theorem creds_yes (h : ofAC a c x = true) (hx : ¬ 0 < x.amt) : creds a c (l ++ [x]) = creds a c l ++ [-x.amt] := by simp [creds, h, hx]
end
theorem ofAC_eq (a c : ByteArray) (x : Line) : ofAC a c x = ((x.acc.toList == a.toList) && (x.cur.toList == c.toList)) := by
  unfold ofAC; rw [beq_toList, beq_toList]
/-- all lines of the first k entries -/
def linesTo (es : List Ent) (k : Nat) : List Line := (es.take k).flatMap Ent.lines
theorem linesTo_succ {es : List Ent} {k : Nat} (hk : k < es.length) : linesTo es (k + 1) = linesTo es k ++ es[k].lines := by
  unfold linesTo
  rw [List.take_succ_eq_append_getElem hk, List.flatMap_append]; simp
theorem linesTo_len {es : List Ent} (h : ∀ e, e ∈ es → e.lines.length ≤ 20) (k : Nat) : (linesTo es k).length ≤ 20 * k := by
  induction k with
  | zero => simp [linesTo]
  | succ k ih =>
    by_cases hk : k < es.length
    · rw [linesTo_succ hk, List.length_append]
      have := h _ (List.getElem_mem hk)
      omega
    · unfold linesTo at *
      rw [List.take_of_length_le (by omega)] at *
      omega
/-- the first k entries' lines, and the first j of the next -/
def linesAt (es : List Ent) (k j : Nat) : List Line := linesTo es k ++ (match es[k]? with | some e => e.lines.take j | none => [])
theorem linesAt_zero (es : List Ent) (k : Nat) : linesAt es k 0 = linesTo es k := by
  unfold linesAt
  cases es[k]? <;> simp
theorem linesAt_succ {es : List Ent} {k j : Nat} (hk : k < es.length) (hj : j < es[k].lines.length) : linesAt es k (j + 1) = linesAt es k j ++ [es[k].lines[j]] := by
  unfold linesAt
  rw [List.getElem?_eq_getElem hk]
  simp only []
  rw [List.take_succ_eq_append_getElem hj, List.append_assoc]
theorem linesAt_all {es : List Ent} {k : Nat} (hk : k < es.length) : linesAt es k es[k].lines.length = linesTo es (k + 1) := by
  unfold linesAt
  rw [List.getElem?_eq_getElem hk, linesTo_succ hk]
  simp
theorem linesAt_len {es : List Ent} (h : ∀ e, e ∈ es → e.lines.length ≤ 20) {k j : Nat} (hk : k < es.length) (hj : j ≤ es[k].lines.length) : (linesAt es k j).length ≤ 20 * (k + 1) := by
  unfold linesAt
  rw [List.getElem?_eq_getElem hk, List.length_append]
  have := linesTo_len h k
  have := h _ (List.getElem_mem hk)
  simp only [List.length_take]
  omega

theorem debs_cons (a c : ByteArray) (x : Line) (l : List Line) : (debs a c (x :: l)).sum = (if ofAC a c x = true ∧ 0 < x.amt then x.amt else 0) + (debs a c l).sum := by
  unfold debs
  by_cases h : ofAC a c x = true ∧ 0 < x.amt
  · rw [if_pos h, List.filter_cons, if_pos (by simp [h.1, h.2])]; simp
  · rw [if_neg h, List.filter_cons, if_neg (by simpa using fun h1 h2 => h ⟨h1, h2⟩)]; simp
theorem creds_cons (a c : ByteArray) (x : Line) (l : List Line) : (creds a c (x :: l)).sum = (if ofAC a c x = true ∧ ¬ 0 < x.amt then -x.amt else 0) + (creds a c l).sum := by
  unfold creds
  by_cases h : ofAC a c x = true ∧ ¬ 0 < x.amt
  · rw [if_pos h, List.filter_cons, if_pos (by rw [h.1, decide_eq_false h.2]; rfl)]; simp
  · have h' : ¬ (ofAC a c x && !decide (0 < x.amt)) = true := by
      intro e
      rw [Bool.and_eq_true] at e
      exact h ⟨e.1, by simpa using e.2⟩
    rw [if_neg h, List.filter_cons, if_neg h']; simp
theorem debs_range (a c : ByteArray) {l : List Line} (h : Bnd 1000000000000000 l) : 0 ≤ (debs a c l).sum ∧ (debs a c l).sum ≤ 1000000000000000 * (l.length : Int) := by
  induction l with
  | nil => simp [debs]
  | cons x l ih =>
    have h1 := ih fun y hy => h y (List.mem_cons_of_mem _ hy)
    have h2 := h x (by simp)
    rw [debs_cons, List.length_cons]
    split <;> omega
theorem creds_range (a c : ByteArray) {l : List Line} (h : Bnd 1000000000000000 l) : 0 ≤ (creds a c l).sum ∧ (creds a c l).sum ≤ 1000000000000000 * (l.length : Int) := by
  induction l with
  | nil => simp [creds]
  | cons x l ih =>
    have h1 := ih fun y hy => h y (List.mem_cons_of_mem _ hy)
    have h2 := h x (by simp)
    rw [creds_cons, List.length_cons]
    split <;> omega
theorem debs_64 (a c : ByteArray) {l : List Line} (h : Bnd 1000000000000000 l) : Ints64 (debs a c l) := by
  intro y hy
  unfold debs at hy
  obtain ⟨x, hx, rfl⟩ := List.mem_map.1 hy
  have := h x (List.mem_filter.1 hx).1
  omega
theorem creds_64 (a c : ByteArray) {l : List Line} (h : Bnd 1000000000000000 l) : Ints64 (creds a c l) := by
  intro y hy
  unfold creds at hy
  obtain ⟨x, hx, rfl⟩ := List.mem_map.1 hy
  have := h x (List.mem_filter.1 hx).1
  omega
theorem linesTo_bnd {m : Int} {es : List Ent} (h : ∀ e, e ∈ es → Bnd m e.lines) (k : Nat) : Bnd m (linesTo es k) := by
  intro x hx
  unfold linesTo at hx
  obtain ⟨e, he, hx⟩ := List.mem_flatMap.1 hx
  exact h e (List.mem_of_mem_take he) x hx
theorem apart_or {a b : Value} (h : ∀ q, a.ownBlock = some q → b.ownBlock ≠ some q) : b.ownBlock = none ∨ b.ownBlock ≠ a.ownBlock := by
  cases hb : b.ownBlock with
  | none => exact .inl rfl
  | some q => exact .inr fun e => h q e.symm hb
theorem apart_sym {a b : Value} (h : ∀ q, a.ownBlock = some q → b.ownBlock ≠ some q) : ∀ q, b.ownBlock = some q → a.ownBlock ≠ some q := fun q h1 h2 => h q h2 h1
theorem apart_new {a a' b : Value} {n : Nat} (h : ∀ q, a.ownBlock = some q → b.ownBlock ≠ some q) (hat : a'.ownBlock = a.ownBlock ∨ a'.ownBlock = some n) (hb : ∀ q, b.ownBlock = some q → q < n) : ∀ q, a'.ownBlock = some q → b.ownBlock ≠ some q := by
  intro q hq e
  rcases hat with h1 | h1
  · exact h q (by rw [← h1]; exact hq) e
  · have := hb q e
    rw [h1] at hq
    injection hq with hq
    omega

set_option maxRecDepth 100000 in
theorem jhas_any {w : World} {B g m : Nat} {v : Value} {es : List Ent} (h : Jrn w B g m v es) (ref : ByteArray) (hr : ref.size ≤ 9223372036854775807) :
    Calls Tryz.prog 31 #[.pointer (some ⟨g, 0, none⟩), .string ref] w fun e w' => e = .returned (.bool (hasS (es.map Ent.ref).reverse ref)) ∧ Below w.heap.size w w' := by
  have c0 := h.c0
  have c1 := h.c1
  have hlk := h.refs.lookup ref (by unfold maxLen; exact hr)
  go_enter Tryz.func31, Tryz.ntmps31
  go_wp2_with fail
  go_ret
  exact ⟨rfl, Below.refl _ _⟩

set_option maxHeartbeats 40000000 in
set_option maxRecDepth 100000 in
theorem jturns_any {w : World} {B g m : Nat} {v : Value} {es : List Ent} (h : Jrn w B g m v es) (hes : es.length ≤ 200) (hbn : ∀ e, e ∈ es → Bnd 1000000000000000 e.lines) (acc cur : ByteArray) :
    Calls Tryz.prog 27 #[.pointer (some ⟨g, 0, none⟩), .string acc, .string cur] w
      fun e w' => e = .returned (.tuple #[.int .i64 (debs acc cur (linesTo es es.length)).sum, .int .i64 (creds acc cur (linesTo es es.length)).sum, .nilIface]) ∧ Below w.heap.size w w' := by
  obtain ⟨i0, hi0, hz0, hz1, hz2⟩ := info_parts int_info
  obtain ⟨A, c, rfl, h1, h2⟩ := h.few
  have c0 := h.c0
  have hrd := h.own.rd entEnc_ok
  go_enter Tryz.func27, Tryz.ntmps27
  go_wp2_with fail
  have Hes := hide hes
  have h20 : Hid (∀ e, e ∈ es → e.lines.length ≤ 20) := fun e he => by have k := h.all e he; have := k.rd.1; have := k.few; omega
  clear hes
  go_loopw [9, 10, 20] (fun dv cv iv wr => ∃ k : Nat, k ≤ es.length ∧ iv = .int .i64 k ∧ Own wr w.heap.size 3 1 intEnc2 dv (debs acc cur (linesTo es k)) ∧ Own wr w.heap.size 3 1 intEnc2 cv (creds acc cur (linesTo es k)) ∧ (∀ q, dv.ownBlock = some q → cv.ownBlock ≠ some q) ∧ Below w.heap.size w wr) (fun _ _ iv _ => es.length - (intOf iv).toNat)
  case atStart => exact ⟨0, by omega, rfl, Own.nil _ _ _ _ _, Own.nil _ _ _ _ _, by intro q hq; simp [Value.ownBlock] at hq, Below.refl _ _⟩
  case round =>
    obtain ⟨k, hk, rfl, hownD, hownC, hap, hbr⟩ := hrel
    by_cases hlt : k < es.length
    · obtain ⟨b, off, rfl, hcs⟩ := (Rd.below hrd hbr).2 (by omega)
      have q0 := hcs k 0 _ hlt rfl
      have q1 := hcs k 1 _ hlt rfl
      have q2 := hcs k 2 _ hlt rfl
      have q3 := hcs k 3 _ hlt rfl
      rw [Nat.add_zero] at q0
      clear hcs
      have k0 : (0 : Int) ≤ (k : Int) := by omega
      have k1 : (k : Int) < (es.length : Int) := by omega
      have hsz := hbr.size
      have hK := h.all _ (List.getElem_mem hlt)
      have Hdb := hide hbn
      clear hbn
      go_wp2_with fail
      go_loopw [9, 10, 27] (fun dv cv jv wi => ∃ j : Nat, j ≤ es[k].lines.length ∧ jv = .int .i64 j ∧ Own wi w.heap.size 3 1 intEnc2 dv (debs acc cur (linesAt es k j)) ∧ Own wi w.heap.size 3 1 intEnc2 cv (creds acc cur (linesAt es k j)) ∧ (∀ q, dv.ownBlock = some q → cv.ownBlock ≠ some q) ∧ Below w.heap.size w wi) (fun _ _ jv _ => es[k].lines.length - (intOf jv).toNat)
      case atStart => exact ⟨0, by omega, rfl, by rw [linesAt_zero]; exact hownD.alloc _, by rw [linesAt_zero]; exact hownC.alloc _, hap, hbr.alloc hsz _⟩
      case round =>
        obtain ⟨j, hj, rfl, hownD, hownC, hap, hbi⟩ := hrel
        have hnl := hK.rd.1
        have hn20 := hK.few
        by_cases hjl : j < es[k].lines.length
        · obtain ⟨x, hx⟩ : ∃ x, x = es[k].lines[j] := ⟨_, rfl⟩
          obtain ⟨lb, lo, hA, hlc⟩ := (hK.rd.below hbi).2 (by omega)
          have r0 := hlc j 0 _ hjl rfl
          have r1 := hlc j 1 _ hjl rfl
          have r2 := hlc j 2 _ hjl rfl
          rw [Nat.add_zero] at r0
          rw [← hx] at r0 r1 r2
          rw [hA]
          clear hlc
          have j0 : (0 : Int) ≤ (j : Int) := by omega
          have j1 : (j : Int) < (es[k].n : Int) := by omega
          have hbx := Hdb.out _ (List.getElem_mem hlt) x (by rw [hx]; exact List.getElem_mem hjl)
          obtain ⟨b1, b2⟩ := hbx
          have hLL := linesAt_len h20.out hlt hj
          have hdl := debs_len acc cur (linesAt es k j)
          have hcl := creds_len acc cur (linesAt es k j)
          have HS : Hid (linesAt es k (j + 1) = linesAt es k j ++ [x]) := by show _ = _; rw [linesAt_succ hlt hjl, hx]
          have h200 := Hes.out
          have hszi := hbi.size
          have hof := ofAC_eq acc cur x
          clear hx
          cases h1 : (x.acc.toList == acc.toList) with
          | false =>
            have HO : Hid (ofAC acc cur x = false) := by show _ = _; rw [hof, h1]; rfl
            clear hof
            go_wp2_with fail
            go_roundw
            case rel => exact ⟨j + 1, by omega, by go_num, by rw [HS.out, debs_no HO.out]; exact hownD.alloc _, by rw [HS.out, creds_no HO.out]; exact hownC.alloc _, hap, hbi.alloc hszi _⟩
            case measure => simp [intOf]; omega
          | true =>
            cases h2 : (x.cur.toList == cur.toList) with
            | false =>
              have HO : Hid (ofAC acc cur x = false) := by show _ = _; rw [hof, h1, h2]; rfl
              clear hof
              go_wp2_with fail
              go_roundw
              case rel => exact ⟨j + 1, by omega, by go_num, by rw [HS.out, debs_no HO.out]; exact hownD.alloc _, by rw [HS.out, creds_no HO.out]; exact hownC.alloc _, hap, hbi.alloc hszi _⟩
              case measure => simp [intOf]; omega
            | true =>
              have HO : Hid (ofAC acc cur x = true) := by show _ = _; rw [hof, h1, h2]; rfl
              clear hof
              by_cases hp : 0 < x.amt
              · go_wp2_with (first | (at_builtin; go_loud (refine wpList_push _ rfl _ _ 42 rfl w.heap.size 3 i0 (.int .i64 0) 1 8 Tryz.underlying42 hi0 hz0 hz1 hz2 rfl (by decide) intEnc2_ok _ (debs acc cur (linesAt es k j)) rfl ((hownD.alloc _).alloc _) _ 1 1 [x.amt] rfl (Rd.boxedAt _ intEnc2_ok (x.amt) _ _ rfl _ (by simp)) (by intro h; cases h) (by simp only [maxLen]; omega) (by omega) (by simp; omega) ?_); intro v' w3 hown3 hg3 hat3))
                go_roundw
                case rel => exact ⟨j + 1, by omega, by go_num, by rw [HS.out, debs_yes HO.out hp]; exact hown3, by rw [HS.out, creds_pos HO.out hp]; exact ((hownC.alloc _).alloc _).grown hg3 (apart_or hap), apart_new hap hat3 (fun q e => by have := (hownC.block q e).2; simp; omega), ((hbi.alloc hszi _).alloc (by simp; omega) _).grown hg3 (by simp; omega) (fun q e => (hownD.block q e).1)⟩
                case measure => simp [intOf]; omega
              · go_wp2_with (first | (at_builtin; go_loud (refine wpList_push _ rfl _ _ 42 rfl w.heap.size 3 i0 (.int .i64 0) 1 8 Tryz.underlying42 hi0 hz0 hz1 hz2 rfl (by decide) intEnc2_ok _ (creds acc cur (linesAt es k j)) rfl ((hownC.alloc _).alloc _) _ 1 1 [-x.amt] rfl (Rd.boxedAt _ intEnc2_ok (-x.amt) _ _ rfl _ (by simp)) (by intro h; cases h) (by simp only [maxLen]; omega) (by omega) (by simp; omega) ?_); intro v' w3 hown3 hg3 hat3))
                go_roundw
                case rel => exact ⟨j + 1, by omega, by go_num, by rw [HS.out, debs_neg HO.out hp]; exact ((hownD.alloc _).alloc _).grown hg3 (apart_or (apart_sym hap)), by rw [HS.out, creds_yes HO.out hp]; exact hown3, apart_sym (apart_new (apart_sym hap) hat3 (fun q e => by have := (hownD.block q e).2; simp; omega)), ((hbi.alloc hszi _).alloc (by simp; omega) _).grown hg3 (by simp; omega) (fun q e => (hownC.block q e).1)⟩
                case measure => simp [intOf]; omega
        · have hjn : j = es[k].lines.length := by omega
          subst hjn
          have h200 := Hes.out
          go_wp2_with fail
          go_roundw
          case rel => exact ⟨k + 1, by omega, by go_num, by rw [← linesAt_all hlt]; exact hownD, by rw [← linesAt_all hlt]; exact hownC, hap, hbi⟩
          case measure => simp [intOf]; omega
    · have hkn : k = es.length := by omega
      subst hkn
      have h200 := Hes.out
      have hL := linesTo_len h20.out es.length
      have hBL := linesTo_bnd hbn es.length
      obtain ⟨hd0, hd1⟩ := debs_range acc cur hBL
      obtain ⟨hc0, hc1⟩ := creds_range acc cur hBL
      have hD64 := debs_64 acc cur hBL
      have hC64 := creds_64 acc cur hBL
      have hDl := debs_len acc cur (linesTo es es.length)
      have hCl := creds_len acc cur (linesTo es es.length)
      obtain ⟨D, hD⟩ : ∃ D, D = debs acc cur (linesTo es es.length) := ⟨_, rfl⟩
      obtain ⟨C, hC⟩ : ∃ C, C = creds acc cur (linesTo es es.length) := ⟨_, rfl⟩
      rw [← hD] at hownD hd0 hd1 hD64 hDl
      rw [← hC] at hownC hc0 hc1 hC64 hCl
      have hiD := in64_yes D.sum (by omega)
      have hiC := in64_yes C.sum (by omega)
      have HD : Hid (smV D.sum = (debs acc cur (linesTo es es.length)).sum) := hD ▸ if_pos hiD
      have HC : Hid (smV C.sum = (creds acc cur (linesTo es es.length)).sum) := hC ▸ if_pos hiC
      have hED := errV_0 (e := smE D.sum) (if_pos hiD)
      have hEC := errV_0 (e := smE C.sum) (if_pos hiC)
      have hDn : D.length ≤ 2199023255552 := by omega
      have hCn : C.length ≤ 2199023255552 := by omega
      obtain ⟨DA, dc, rfl, _, _⟩ := hownD.form
      obtain ⟨CA, cc, rfl, _, _⟩ := hownC.form
      have hrD := hownD.rd intEnc2_ok
      have hrC := hownC.rd intEnc2_ok
      clear hd0 hd1 hc0 hc1 hiD hiC hownD hownC hD hC hDl hCl hL hBL h200 hap
      go_wp2_with fail
      refine (msum_any D _ _ _ _ hrD hDn hD64).mono ?_
      rintro e w1 ⟨rfl, hb1⟩
      rw [HD.out, hED]
      clear hED
      have hb1' := hb1
      have hb1 := bthen hbr (Nat.le_refl _) hb1
      go_wp2_with fail
      refine (msum_any C _ _ _ _ (hrC.below hb1') hCn hC64).mono ?_
      rintro e w2 ⟨rfl, hb2⟩
      rw [HC.out, hEC]
      clear hEC
      go_wp2_with fail
      go_ret3
      exact ⟨rfl, bthen hb1 (Nat.le_refl _) hb2⟩
end Go.Proofs.YthmjkhlndphldaaGreatDoor
