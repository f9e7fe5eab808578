/- The trial balance's builder: WriteString, strings.Join, and the closure that writes a line. -/
import Derived.Test.YtjojjicpdfmopaaGreatDoorTrlP
import Derived.Test.YtjojjicpdfmopaaGreatDoorShelf
import Derived.Deep.Heap
import Derived.Deep.RegionWith
namespace Go.Proofs.YtjojjicpdfmopaaGreatDoor
open Go Go.RowKit Go.Shelf
set_option linter.unusedVariables false

/-- the world has grown; of the blocks that were there none has turned but the bad ones -/
structure Gr (w w' : World) (bad : Nat → Prop) : Prop where
  os : w'.os = w.os
  tape : w'.tape = w.tape
  output : w'.output = w.output
  size : w.heap.size ≤ w'.heap.size
  block : ∀ i, i < w.heap.size → ¬ bad i → w'.heap[i]? = w.heap[i]?
theorem Gr.trans {a b c : World} {bad : Nat → Prop} (h : Gr a b bad) (k : Gr b c bad) : Gr a c bad :=
  ⟨k.os.trans h.os, k.tape.trans h.tape, k.output.trans h.output, Nat.le_trans h.size k.size, fun i hi hb => (k.block i (Nat.lt_of_lt_of_le hi h.size) hb).trans (h.block i hi hb)⟩
theorem Gr.of_below {a b : World} {bad : Nat → Prop} (h : Below a.heap.size a b) : Gr a b bad := ⟨h.os, h.tape, h.output, h.size, fun i hi _ => h.block i hi⟩
theorem Gr.of_grown {a b : World} {row : Option Nat} {bad : Nat → Prop} (h : a.grownBy b row) (hr : ∀ i, row = some i → bad i) : Gr a b bad :=
  ⟨h.os, h.tape, h.output, h.size, fun i hi hb => h.block i hi fun e => hb (hr i e.symm)⟩
theorem Gr.mono {a b : World} {bad bad' : Nat → Prop} (h : Gr a b bad) (hb : ∀ i, i < a.heap.size → bad i → bad' i) : Gr a b bad' := ⟨h.os, h.tape, h.output, h.size, fun i hi hn => h.block i hi fun e => hn (hb i hi e)⟩
theorem Gr.below {a b : World} {B : Nat} {bad : Nat → Prop} (h : Gr a b bad) (hb : ∀ i, bad i → B ≤ i) (hB : B ≤ a.heap.size) : Below B a b :=
  ⟨h.os, h.tape, h.output, h.size, fun i hi => h.block i (by omega) fun e => by have := hb i e; omega⟩

/-- block b is a builder of which v holds the text t -/
structure Bl (w : World) (B b : Nat) (v p : Value) (t : List UInt8) : Prop where
  lo : B ≤ b
  cells : w.heap[b]? = some (.cells #[p, v] 38 (0, 0))
  own : w.ownsRow B 5 1 v (Lib.byteCells t).length (Lib.byteCells t)
  ne : v.ownBlock ≠ some b
  here : p = .pointer none ∨ p = .pointer (some ⟨b, 0, none⟩)
section
variable {w w' : World} {B b : Nat} {v p : Value} {t : List UInt8}
theorem Bl.is (h : Bl w B b v p t) : Lib.IsBuilder 38 5 B b (Lib.byteCells t) w := by
  rcases h.here with e | e
  · exact .inl ⟨h.lo, v, by rw [h.cells, e], h.own, h.ne⟩
  · exact .inr ⟨h.lo, v, by rw [h.cells, e], h.own, h.ne⟩
theorem Bl.lt (h : Bl w B b v p t) : b < w.heap.size := (Array.getElem?_eq_some_iff.1 h.cells).1
theorem Bl.vlt (h : Bl w B b v p t) : ∀ k, v.ownBlock = some k → B ≤ k ∧ k < w.heap.size := World.ownsRow.lt h.own
theorem row_same {w w' : World} {B e sz n : Nat} {v : Value} {xs : List Value} (h : w.ownsRow B e sz v n xs) (hk : ∀ k, k < w.heap.size → v.ownBlock = some k → w'.heap[k]? = w.heap[k]?) : w'.ownsRow B e sz v n xs := by
  have hlt := World.ownsRow.lt h
  refine ⟨h.1, ?_⟩
  rcases h.2 with hn | ⟨g, cap, cur, rfl, hb, hgg, rest⟩
  · exact .inl hn
  · exact .inr ⟨g, cap, cur, rfl, hb, (hk g (hlt g rfl).2 rfl).trans hgg, rest⟩
theorem Bl.gr {bad : Nat → Prop} (h : Bl w B b v p t) (hg : Gr w w' bad) (hb : ¬ bad b) (hv : ∀ k, v.ownBlock = some k → ¬ bad k) : Bl w' B b v p t :=
  ⟨h.lo, (hg.block b h.lt hb).trans h.cells, row_same h.own fun k hk e => hg.block k hk (hv k e), h.ne, h.here⟩
theorem Bl.below (h : Bl w B b v p t) (hb : Below w.heap.size w w') : Bl w' B b v p t :=
  h.gr (bad := fun _ => False) (Gr.of_below hb) (fun e => e) (fun _ _ e => e)
theorem Bl.fresh (w : World) : Bl (w.alloc (.cells #[.pointer none, .slice none 0 0] 38)) w.heap.size w.heap.size (.slice none 0 0) (.pointer none) [] :=
  ⟨Nat.le_refl _, heap_alloc_new w _, World.ownsRow_nil _ _ _ _, by simp [Value.ownBlock], .inl rfl⟩
end

theorem bl_check (B b : Nat) (v p : Value) (t : List UInt8) (w : World) (h : Bl w B b v p t) :
    Calls Tryz.prog 25 #[.pointer (some ⟨b, 0, none⟩)] w fun e w' => e = .returned (.tuple #[]) ∧ Bl w' B b v (.pointer (some ⟨b, 0, none⟩)) t ∧ w.grownBy w' (some b) ∧ w'.heap.size = w.heap.size := by
  rcases h.here with e | e
  · subst e
    have h0 : Lib.BuilderAt 38 5 B b (.pointer none) (Lib.byteCells t) w := ⟨h.lo, v, h.cells, h.own, h.ne⟩
    refine (Any.Builder_copyCheck_fresh (P := Tryz.prog) (ρ := Tryz.lays156_ren) { Tryz.lays156 with } Tryz.Builder_Extra_156.toX72 b w h0.cell0 h0.shape h0.frozen0).mono ?_
    rintro e w' ⟨rfl, rfl⟩
    have hgr : w.grownBy (w.setCell ⟨b, 0, none⟩ (.pointer (some ⟨b, 0, none⟩))) (some b) := only_setCell (only_refl _ _) _ _
    refine ⟨rfl, ⟨h.lo, ?_, World.ownsRow.kept h.own hgr (.inr h.ne), h.ne, .inr rfl⟩, hgr, by simp⟩
    have := h.cells
    simp [World.setCell, Array.getElem?_modify, this]
  · subst e
    have h0 : Lib.BuilderAt 38 5 B b (.pointer (some ⟨b, 0, none⟩)) (Lib.byteCells t) w := ⟨h.lo, v, h.cells, h.own, h.ne⟩
    refine (Any.Builder_copyCheck_used (P := Tryz.prog) (ρ := Tryz.lays156_ren) { Tryz.lays156 with } Tryz.Builder_Extra_156.toX72 b w h0.cell0).mono ?_
    rintro e w' ⟨rfl, rfl⟩
    exact ⟨rfl, h, only_refl _ _, rfl⟩

section
variable {P : Program}
/-- append of a string: where the bytes come to lie -/
theorem run_append_bl (w : World) (base : Nat) (t u ty e : TypeId) (i : TypeInfo) (ht : P.underlying t = some (.slice e)) (hu : P.underlying u = some .string) (hi : P.info? e = some i) (hz : i.zero = some (.int .u8 0)) (hsize : i.size = 1) (hby : i.bytes = 1)
    (v : Value) (n : Nat) (xs : List Value) (hown : w.ownsRow base e 1 v n xs) (s : ByteArray) (h63 : n + s.size ≤ maxLen) (hbytes : n + s.size ≤ 140737488355328) (hbase : base ≤ w.heap.size) :
    ∃ v' w', (Builtin.append_ #[t, u] ty #[v, .string s]).run P w = .ok v' w' ∧ w'.ownsRow base e 1 v' (n + s.size) (xs ++ Lib.strCells s) ∧ w.grownBy w' v.ownBlock ∧ (v'.ownBlock = v.ownBlock ∨ v'.ownBlock = some w.heap.size) := by
  obtain ⟨v', w', hr, h2, h3, h4⟩ := Lib.run_append_own_string (P := P) w base t u ty e i ht hu hi hz hsize hby v n xs hown s h63 hbytes hbase
  have hsmall : n + s.size ≤ 9223372036854775807 := by simp only [maxLen] at h63; omega
  refine ⟨v', w', hr, h2, h3, ?_⟩
  have hxl : xs.length = n := by simpa using hown.1
  rcases hown.2 with ⟨rfl, rfl⟩ | ⟨g, cap, cur, rfl, hbg, hg, hnc, hcm, hcs, htake⟩
  · by_cases hm : s.size = 0
    · left; rw [h4.2 ⟨rfl, hm⟩]
    · have hr2 := run_append_nil_string (P := P) w t u ty e i (.int .u8 0) ht hu hi hz s (by omega) (by omega) (by rw [hby]; omega)
      rw [hr2] at hr
      injection hr with e1 e2
      right; rw [← e1]; rfl
  · by_cases hroom : n + s.size ≤ cap
    · have hr2 := Lib.run_append_room_string (P := P) w t u ty e i ht hu hi hsize g n cap cur hg s hroom (by omega)
      rw [hr2] at hr
      injection hr with e1 e2
      left; rw [← e1]; rfl
    · have holds : ∀ j u, xs[j]? = some u → w.cell? ((⟨g, 0, none⟩ : Addr).add j) = some u := hown.cells (g := g) rfl
      have hr2 := Lib.run_append_grow_string (P := P) w t u ty e i (.int .u8 0) ht hu hi hz ⟨g, 0, none⟩ n cap xs (by rw [hsize]; simpa using hxl) holds s (by omega) (by omega) (by rw [hby]; exact growslice_fits (by omega) (by omega))
      rw [hr2] at hr
      injection hr with e1 e2
      right; rw [← e1]; rfl
theorem wpList_append_bl (w : World) {ops : Array Oper} {rest : List Oper} {o : Oper} {a : Act} {Q : Exit → Act → World → Prop} (hgd : o.guard = none) (sl x : Operand) (t u : TypeId)
    (ho : o.op = .call { callee := .builtin .append, args := #[sl, x], argTypes := #[t, u] })
    (base : Nat) (e : TypeId) (i : TypeInfo) (ht : P.underlying t = some (.slice e)) (hu : P.underlying u = some .string) (hi : P.info? e = some i) (hz : i.zero = some (.int .u8 0)) (hsize : i.size = 1) (hby : i.bytes = 1)
    (v : Value) (n : Nat) (xs : List Value) (hs : a.eval sl = v) (hown : w.ownsRow base e 1 v n xs) (s : ByteArray) (hx : a.eval x = .string s) (h63 : n + s.size ≤ maxLen) (hbytes : n + s.size ≤ 140737488355328) (hbase : base ≤ w.heap.size)
    (h : ∀ v' w', w'.ownsRow base e 1 v' (n + s.size) (xs ++ Lib.strCells s) → w.grownBy w' v.ownBlock → (v'.ownBlock = v.ownBlock ∨ v'.ownBlock = some w.heap.size) → wpList P ops Q rest (a.put o.dst v') w') : wpList P ops Q (o :: rest) a w := by
  refine wpList_plain hgd fun K hK => ?_
  obtain ⟨v', w', hr, h2, h3, h4⟩ := run_append_bl (P := P) w base t u o.type e i ht hu hi hz hsize hby v n xs hown s h63 hbytes hbase
  unfold Oper.wp execOp
  simp only [ho, resolve, invoke, builtin, Sem.run_bind, Sem.run_pure, Result.andThen_ok, List.map_toArray, List.map_cons, List.map_nil, hs, hx, hr]
  exact hK _ _ (h v' w' h2 h3 h4)
end

/-- what a write turns: the builder's block and its text's -/
def blBad (b : Nat) (v : Value) (i : Nat) : Prop := i = b ∨ v.ownBlock = some i
set_option maxHeartbeats 1000000 in
set_option maxRecDepth 100000 in
theorem bl_write (B b : Nat) (v p : Value) (t : List UInt8) (s : ByteArray) (w : World) (h : Bl w B b v p t) (hlen : t.length + s.size ≤ 140737488355328) (hB : B ≤ w.heap.size) :
    Calls Tryz.prog 10 #[.pointer (some ⟨b, 0, none⟩), .string s] w fun e w' => ∃ v', e = .returned (.tuple #[.int .i64 s.size, .nilIface]) ∧ Bl w' B b v' (.pointer (some ⟨b, 0, none⟩)) (t ++ s.data.toList) ∧ (v'.ownBlock = v.ownBlock ∨ v'.ownBlock = some w.heap.size) ∧ Gr w w' (blBad b v) := by
  obtain ⟨i0, hi, hz0, hz1, hz2⟩ := info_parts Tryz.Builder_Extra_156.infoByte
  have hlt := h.lt
  go_enter Tryz.func10, Tryz.ntmps10
  go_wp2_with (go_at_call 25; refine (bl_check B b v p t _ h).mono ?_)
  rintro e w1 ⟨rfl, h1, hg1, hs1⟩
  have hbk := h1.cells
  have c0 : w1.cell? ⟨b, 0, none⟩ = some (.pointer (some ⟨b, 0, none⟩)) := by rw [Lib.cell_of_heap hbk]; rfl
  have c1 : w1.cell? ⟨b, 1, none⟩ = some v := by rw [Lib.cell_of_heap hbk]; rfl
  go_wp2_with (at_builtin; refine wpList_append_bl _ rfl _ _ 36 9 rfl B 5 i0 rfl rfl hi hz0 hz1 hz2 _ _ _ rfl h1.own s rfl ?c3 ?c4 ?c5 ?_)
  case c3 => rw [Lib.byteCells_length]; unfold maxLen; omega
  case c4 => rw [Lib.byteCells_length]; omega
  case c5 => omega
  intro v' w2 hown' hgrow hat
  have hb2 : w2.heap[b]? = some (.cells #[.pointer (some ⟨b, 0, none⟩), v] 38 (0, 0)) := (hgrow.block b (by omega) (fun e => h.ne e.symm)).trans hbk
  have d0 : w2.cell? ⟨b, 0, none⟩ = some (.pointer (some ⟨b, 0, none⟩)) := by rw [Lib.cell_of_heap hb2]; rfl
  have d1 : w2.cell? ⟨b, 1, none⟩ = some v := by rw [Lib.cell_of_heap hb2]; rfl
  have f1 : w2.frozen? ⟨b, 1, none⟩ = false := Lib.frozen_of_heap hb2 1
  obtain ⟨ao, n', cap, rfl⟩ : ∃ ao n' cap, v' = .slice ao n' cap := by
    rcases hown'.2 with ⟨hv, _⟩ | ⟨g, cap, cur, hv, _⟩
    · exact ⟨_, _, _, hv⟩
    · exact ⟨_, _, _, hv⟩
  go_wp2
  go_ret2
  have hbs : Lib.byteCells (t ++ s.data.toList) = Lib.byteCells t ++ Lib.strCells s := by simp [Lib.byteCells, Lib.strCells]
  have hown2 : w2.ownsRow B 5 1 (.slice ao n' cap) (Lib.byteCells (t ++ s.data.toList)).length (Lib.byteCells (t ++ s.data.toList)) := by
    rw [hbs, List.length_append, Lib.strCells_length]; exact hown'
  have hput := Lib.BuilderAt.put (T := 38) (e := 5) h.lo hb2 hown2 Tryz.Builder_Extra_156.neB5
  obtain ⟨_, v3, hc3, ho3, hn3⟩ := hput
  have hs2 : w2.heap.size ≤ (w2.setCell ⟨b, 1, none⟩ (.slice ao n' cap)).heap.size := by simp
  have hv3 : v3 = .slice ao n' cap := by
    have e1 : (w2.setCell ⟨b, 1, none⟩ (.slice ao n' cap)).heap[b]? = some (.cells #[.pointer (some ⟨b, 0, none⟩), .slice ao n' cap] 38 (0, 0)) := by
      simp [World.setCell, Array.getElem?_modify, hb2]
    rw [e1] at hc3
    simp at hc3
    exact hc3.symm
  subst hv3
  refine ⟨_, rfl, ⟨h.lo, hc3, ho3, hn3, .inr rfl⟩, ?_, ?_⟩
  · rcases hat with e | e
    · exact .inl e
    · exact .inr e
  · have g1 : Gr w w1 (blBad b v) := Gr.of_grown hg1 fun i e => by cases e; exact .inl rfl
    have g2 : Gr w1 w2 (blBad b v) := Gr.of_grown hgrow fun i e => .inr e
    have g3 : Gr w2 (w2.setCell ⟨b, 1, none⟩ (.slice ao n' cap)) (blBad b v) := Gr.of_grown (row := some b) (only_setCell (only_refl _ _) _ _) fun i e => by cases e; exact .inl rfl
    exact (g1.trans g2).trans g3

theorem joinL_eq : ∀ l : List (List UInt8), joinL l = Lib.join l [32]
  | [] => rfl
  | [a] => by simp [joinL, Lib.join_cons, Lib.joinTail]
  | a :: b :: l => by
    have ih := joinL_eq (b :: l)
    rw [Lib.join_cons] at ih
    show a ++ 32 :: joinL (b :: l) = _
    rw [Lib.join_cons, ih]
    simp [Lib.joinTail]
/-- the words as lists -/
def wordsL (ss : List ByteArray) : List (List UInt8) := ss.map (·.data.toList)
theorem join_any (ss : List ByteArray) (g c n : Nat) (w : World) (hn : ss.length = n) (h0 : 0 < n) (hr : Rd w 1 strEnc (some ⟨g, 0, none⟩) n ss) (hc : n ≤ c) (hl : (joinL (wordsL ss)).length ≤ 140737488355328) (h47 : n ≤ 140737488355328) :
    Calls Tryz.prog 11 #[.slice (some ⟨g, 0, none⟩) n c, .string ⟨#[32]⟩] w fun e w' => e = .returned (.string ⟨(joinL (wordsL ss)).toArray⟩) ∧ Below w.heap.size w w' := by
  subst hn
  obtain ⟨b', o', e', hcs⟩ := hr.2 h0
  simp only [Option.some.injEq, Addr.mk.injEq, and_true] at e'
  obtain ⟨rfl, rfl⟩ := e'
  have hcell : ∀ (j : Nat) (x : ByteArray), ss[j]? = some x → w.cell? ⟨g, 0 + j, none⟩ = some (.string x) := by
    intro j x hx
    obtain ⟨hjl, hjx⟩ := List.getElem?_eq_some_iff.1 hx
    have := hcs j 0 (.string x) hjl (by simp [hjx, strEnc])
    rw [Nat.mul_one, Nat.add_zero] at this
    exact this
  have hg : g < w.heap.size := World.block_lt_of_cell? _ _ (hcell 0 ss[0] (List.getElem?_eq_getElem h0))
  have hl' := hl
  rw [joinL_eq] at hl' ⊢
  exact Tryz.strings_Join g 0 c ss ⟨#[32]⟩ w hcell hg h47 hc hl'

set_option maxHeartbeats 1000000 in
set_option maxRecDepth 100000 in
/-- the closure that writes a line -/
theorem line_any (ss : List ByteArray) (g n : Nat) (B b : Nat) (v p : Value) (t : List UInt8) (w : World) (hn : ss.length = n) (h0 : 0 < n) (h10 : n ≤ 10) (hr : Rd w 1 strEnc (some ⟨g, 0, none⟩) n ss) (h : Bl w B b v p t) (hB : B ≤ w.heap.size) (hl : (joinL (wordsL ss)).length ≤ 1000000000) (hlt : t.length ≤ 100000000000000) :
    Calls Tryz.prog 9 #[.slice (some ⟨g, 0, none⟩) n n, .pointer (some ⟨b, 0, none⟩)] w fun e w' => ∃ v', e = .returned (.tuple #[]) ∧ Bl w' B b v' (.pointer (some ⟨b, 0, none⟩)) (t ++ lineL (wordsL ss)) ∧ (v'.ownBlock = v.ownBlock ∨ ∃ k, v'.ownBlock = some k ∧ w.heap.size ≤ k) ∧ Gr w w' (blBad b v) := by
  have hsz : (⟨(joinL (wordsL ss)).toArray⟩ : ByteArray).size ≤ 1000000000 := by
    show (List.toArray _).size ≤ _
    rw [List.size_toArray]; exact hl
  go_enter Tryz.func9, Tryz.ntmps9
  go_wp2_with fail
  refine (join_any ss g n n w hn h0 hr (Nat.le_refl n) (by omega) (by omega)).mono ?_
  rintro e w1 ⟨rfl, hb1⟩
  obtain ⟨J, hJ⟩ : ∃ J : ByteArray, J = ⟨(joinL (wordsL ss)).toArray⟩ := ⟨_, rfl⟩
  rw [← hJ] at hsz ⊢
  have hJl : J.data.toList = joinL (wordsL ss) := by rw [hJ]
  have HJ := hide hJl
  clear hJ hJl
  have a1 : ¬ (9223372036854775807 < J.size + (⟨#[10]⟩ : ByteArray).size) := Nat.not_lt.2 (Nat.le_trans (Nat.add_le_add_right hsz 1) (by decide))
  have a2 : ¬ (9223372036854775807 < J.size + 1) := Nat.not_lt.2 (Nat.le_trans (Nat.add_le_add_right hsz 1) (by decide))
  have a3 : ¬ (9223372036854775807 ≤ J.size) := Nat.not_le.2 (Nat.lt_of_le_of_lt hsz (by decide))
  have a4 : ¬ (9223372036854775807 < J.size + (#[10] : Array UInt8).size) := a2
  have hb := h.below hb1
  have hs1 := hb1.size
  have HSZ := hide hsz
  have HLT := hide hlt
  clear hsz hl hlt
  go_wp2_with fail
  have hsz := HSZ.out
  have hlt := HLT.out
  have hsz2 : (J ++ (⟨#[10]⟩ : ByteArray)).size ≤ 1000000001 := by rw [ByteArray.size_append]; exact Nat.add_le_add_right hsz 1
  have hfit : t.length + (J ++ (⟨#[10]⟩ : ByteArray)).size ≤ 140737488355328 := Nat.le_trans (Nat.add_le_add hlt hsz2) (by decide)
  have hB1 : B ≤ w1.heap.size := Nat.le_trans hB hs1
  clear a1 a2 a3 a4 hsz2 hsz hlt
  refine (bl_write B b v p t _ w1 hb hfit hB1).mono ?_
  rintro e w2 ⟨v', rfl, hbl, hat, hgr⟩
  go_wp2_with fail
  go_end0
  have hL : (J ++ (⟨#[10]⟩ : ByteArray)).data.toList = lineL (wordsL ss) := by
    unfold lineL
    rw [ByteArray.data_append, Array.toList_append, HJ.out]
  rw [hL] at hbl
  refine ⟨v', rfl, hbl, ?_, (Gr.of_below hb1).trans hgr⟩
  rcases hat with e | e
  · exact .inl e
  · exact .inr ⟨_, e, hs1⟩
end Go.Proofs.YtjojjicpdfmopaaGreatDoor
