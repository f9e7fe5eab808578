/- Slices that the call itself makes and appends to. -/
import Derived.Test.YtjojjicpdfmopaaGreatDoorMem
import Derived.Maps.AppendAt
import Derived.OwnWalk
namespace Go.Proofs.YtjojjicpdfmopaaGreatDoor
open Go Go.RowKit
set_option linter.unusedVariables false

/-- how a record lies in memory: sz cells, each of one cell -/
structure Enc {α : Type} (sz : Nat) (enc : α → List Value) : Prop where
  len : ∀ a, (enc a).length = sz
  one : ∀ a, ∀ u ∈ enc a, u.oneCell' = true

/-- The slice v is the call's own (its block at or above B) and holds the records l. -/
def Own {α : Type} (w : World) (B : Nat) (e : TypeId) (sz : Nat) (enc : α → List Value) (v : Value) (l : List α) : Prop :=
  w.ownsRow B e sz v l.length (l.flatMap enc)

section
variable {α : Type} {w w' : World} {B e sz : Nat} {enc : α → List Value} {v : Value} {l : List α}

theorem flatMap_len (he : Enc sz enc) (l : List α) : (l.flatMap enc).length = l.length * sz := by
  induction l with
  | nil => simp
  | cons a l ih => rw [List.flatMap_cons, List.length_append, ih, he.len, List.length_cons, Nat.add_mul]; omega

theorem flatMap_get (he : Enc sz enc) : ∀ (l : List α) (k j : Nat) (h : k < l.length), j < sz → (l.flatMap enc)[k * sz + j]? = (enc l[k])[j]? := by
  intro l
  induction l with
  | nil => intro k j h; simp at h
  | cons a l ih =>
    intro k j h hj
    rw [List.flatMap_cons]
    cases k with
    | zero => rw [List.getElem?_append_left (by rw [he.len]; omega)]; simp
    | succ k =>
      rw [List.getElem?_append_right (by rw [he.len, Nat.add_mul]; omega), he.len]
      rw [show (k + 1) * sz + j - sz = k * sz + j from by rw [Nat.add_mul]; omega]
      rw [ih k j (by simpa using h) hj]; simp

theorem Own.nil (w : World) (B e sz : Nat) (enc : α → List Value) : Own w B e sz enc (.slice none 0 0) ([] : List α) := World.ownsRow_nil w B e sz

theorem Own.below (h : Own w B e sz enc v l) (hb : Below w.heap.size w w') : Own w' B e sz enc v l := by
  refine World.ownsRow.kept (row := none) h ⟨hb.os, hb.tape, hb.output, hb.size, fun i hi _ => hb.block i hi⟩ ?_
  cases hv : v.ownBlock with
  | none => exact .inl rfl
  | some k => exact .inr (by simp)

theorem Own.grown {row : Option Nat} (h : Own w B e sz enc v l) (hg : w.grownBy w' row) (hne : v.ownBlock = none ∨ v.ownBlock ≠ row) : Own w' B e sz enc v l := World.ownsRow.kept h hg hne

theorem Own.alloc (h : Own w B e sz enc v l) (o : Obj) : Own (w.alloc o) B e sz enc v l := World.ownsRow.alloc h o

theorem Own.form (h : Own w B e sz enc v l) : ∃ A c, v = .slice A l.length c ∧ l.length ≤ c ∧ c ≤ maxLen := by
  rcases h.2 with ⟨rfl, h0⟩ | ⟨g, cap, cur, rfl, _, _, hc, hm, _⟩
  · exact ⟨none, 0, by rw [h0], by omega, by unfold maxLen; omega⟩
  · exact ⟨_, cap, rfl, hc, hm⟩

theorem Own.rd (he : Enc sz enc) {A : Option Addr} {n c : Nat} (h : Own w B e sz enc (.slice A n c) l) : Rd w sz enc A n l := by
  have hlen : l.length = n := by
    rcases h.2 with ⟨hv, h0⟩ | ⟨g, cap, cur, hv, _⟩
    · injection hv with _ h2 _; omega
    · injection hv with _ h2 _; exact h2.symm
  refine ⟨hlen, fun hn => ?_⟩
  rcases h.2 with ⟨hv, h0⟩ | ⟨g, cap, cur, hv, hB, hg, hc, hm, hcur, htake⟩
  · omega
  · injection hv with h1 h2 h3
    refine ⟨g, 0, h1, fun k j u hk hu => ?_⟩
    have hj : j < sz := by
      have := (List.getElem?_eq_some_iff.1 hu).1
      rw [he.len] at this; exact this
    have hcell := cell_of_row w g (0 + k * sz + j) cur e (0, 0) hg
    rw [hcell, Nat.zero_add, ← hu, ← flatMap_get he l k j hk hj, ← htake, List.getElem?_take]
    have hlt : k * sz + j < l.length * sz := by
      have : (k + 1) * sz ≤ l.length * sz := Nat.mul_le_mul_right _ hk
      rw [Nat.add_mul] at this; omega
    rw [if_pos hlt]
    simp

theorem bgrown {a : World} {row : Option Nat} (h : Below B a w) (hg : w.grownBy w' row) (hB : B ≤ w.heap.size) (hr : ∀ k, row = some k → B ≤ k) : Below B a w' := h.grown hg hB hr

theorem bpush {a w2 w3 : World} {o : Obj} {row : Option Nat} (h : Below B a w2) (hB : B ≤ w2.heap.size) (hg : (w2.alloc o).grownBy w3 row) (hr : ∀ k, row = some k → B ≤ k) : Below B a w3 :=
  (h.alloc hB o).grown hg (by simp; omega) hr
theorem Own.block (h : Own w B e sz enc v l) : ∀ k, v.ownBlock = some k → B ≤ k ∧ k < w.heap.size := World.ownsRow.lt h
end

section
variable {P : Program} (w : World) {α : Type} {enc : α → List Value}

theorem run_push (B : Nat) (t ty e : TypeId) (i : TypeInfo) (z : Value) (sz bytes : Nat) (ht : P.underlying t = some (.slice e)) (hi : P.info? e = some i) (hz : i.zero = some z)
    (hsize : i.size = sz) (hby : i.bytes = bytes) (hzs : z.cells.size = sz) (hsz : 0 < sz) (he : Enc sz enc) (v : Value) (l : List α) (hown : Own w B e sz enc v l)
    (A : Option Addr) (m c : Nat) (ys : List α) (hr : Rd w sz enc A m ys) (hA : A = none → c = 0)
    (h63 : l.length + m ≤ maxLen) (hbytes : (l.length + m) * bytes ≤ 140737488355328) (hbase : B ≤ w.heap.size) :
    ∃ v' w', (Builtin.append_ #[t, t] ty #[v, .slice A m c]).run P w = .ok v' w' ∧ Own w' B e sz enc v' (l ++ ys) ∧ w.grownBy w' v.ownBlock ∧ (v'.ownBlock = v.ownBlock ∨ v'.ownBlock = some w.heap.size) := by
  cases A with
  | none =>
    have hm : m = 0 := by
      rcases Nat.eq_zero_or_pos m with h0 | h0
      · exact h0
      · obtain ⟨b, off, h, _⟩ := hr.2 h0; cases h
    subst hm
    obtain rfl : c = 0 := hA rfl
    have hy : ys = [] := List.eq_nil_of_length_eq_zero hr.1
    subst hy
    exact ⟨v, w, run_append_owned_none w B t ty e i sz ht hi v l.length _ hown, by simpa using hown, World.grownBy.refl w _, .inl rfl⟩
  | some ad =>
    have hcells : ∀ j u, (ys.flatMap enc)[j]? = some u → w.cell? (ad.add j) = some u := by
      intro j u hu
      have hjl := (List.getElem?_eq_some_iff.1 hu).1
      rw [flatMap_len he] at hjl
      have hk : j / sz < ys.length := Nat.div_lt_of_lt_mul (by rw [Nat.mul_comm]; exact hjl)
      have hm : 0 < m := Nat.lt_of_le_of_lt (Nat.zero_le _) (Nat.lt_of_lt_of_eq hk hr.1)
      obtain ⟨b, off, h, hc⟩ := hr.2 hm
      injection h with h
      subst h
      have hjm : j % sz < sz := Nat.mod_lt _ hsz
      have hsum : j / sz * sz + j % sz = j := by rw [Nat.mul_comm]; exact Nat.div_add_mod j sz
      have hu' : (enc ys[j / sz])[j % sz]? = some u := by rw [← flatMap_get he ys _ _ hk hjm, hsum]; exact hu
      have := hc (j / sz) (j % sz) u hk hu'
      rw [show off + j / sz * sz + j % sz = off + j from by omega] at this
      unfold Addr.add
      by_cases hj0 : j = 0
      · subst hj0; simpa using this
      · rw [if_neg hj0]; exact this
    have h1 : ∀ u ∈ ys.flatMap enc, u.oneCell' = true := by
      intro u hu
      obtain ⟨a, _, hua⟩ := List.mem_flatMap.1 hu
      exact he.one a u hua
    obtain ⟨v', w', hrun, h2, h3, _, h5⟩ := run_append_own_at (P := P) w B t ty e i z sz bytes ht hi hz hsize hby hzs hsz v l.length _ hown ad m c (ys.flatMap enc) (by rw [flatMap_len he, hr.1]) hcells h1 h63 hbytes hbase
    refine ⟨v', w', hrun, ?_, h3, h5⟩
    unfold Own
    rw [List.length_append, List.flatMap_append, hr.1]
    exact h2

theorem wp_push {o : Oper} {a : Act} {K : Act → World → Prop} {Q : Exit → Act → World → Prop} (s x : Operand) (t : TypeId)
    (ho : o.op = .call { callee := .builtin .append, args := #[s, x], argTypes := #[t, t] })
    (B : Nat) (e : TypeId) (i : TypeInfo) (z : Value) (sz bytes : Nat) (ht : P.underlying t = some (.slice e)) (hi : P.info? e = some i) (hz : i.zero = some z)
    (hsize : i.size = sz) (hby : i.bytes = bytes) (hzs : z.cells.size = sz) (hsz : 0 < sz) (he : Enc sz enc) (v : Value) (l : List α) (hs : a.eval s = v) (hown : Own w B e sz enc v l)
    (A : Option Addr) (m c : Nat) (ys : List α) (hx : a.eval x = .slice A m c) (hr : Rd w sz enc A m ys) (hA : A = none → c = 0)
    (h63 : l.length + m ≤ maxLen) (hbytes : (l.length + m) * bytes ≤ 140737488355328) (hbase : B ≤ w.heap.size)
    (h : ∀ v' w', Own w' B e sz enc v' (l ++ ys) → w.grownBy w' v.ownBlock → (v'.ownBlock = v.ownBlock ∨ v'.ownBlock = some w.heap.size) → K (a.put o.dst v') w') : o.wp P a w K Q := by
  obtain ⟨v', w', hrun, h2, h3, h4⟩ := run_push (P := P) w B t o.type e i z sz bytes ht hi hz hsize hby hzs hsz he v l hown A m c ys hr hA h63 hbytes hbase
  unfold Oper.wp execOp
  simp only [ho, resolve, invoke, builtin, Sem.run_bind, Sem.run_pure, Result.andThen_ok, List.map_toArray, List.map_cons, List.map_nil, hs, hx, hrun]
  exact h v' w' h2 h3 h4

theorem wpList_push {ops : Array Oper} {rest : List Oper} {o : Oper} {a : Act} {Q : Exit → Act → World → Prop} (hgd : o.guard = none) (s x : Operand) (t : TypeId)
    (ho : o.op = .call { callee := .builtin .append, args := #[s, x], argTypes := #[t, t] })
    (B : Nat) (e : TypeId) (i : TypeInfo) (z : Value) (sz bytes : Nat) (ht : P.underlying t = some (.slice e)) (hi : P.info? e = some i) (hz : i.zero = some z)
    (hsize : i.size = sz) (hby : i.bytes = bytes) (hzs : z.cells.size = sz) (hsz : 0 < sz) (he : Enc sz enc) (v : Value) (l : List α) (hs : a.eval s = v) (hown : Own w B e sz enc v l)
    (A : Option Addr) (m c : Nat) (ys : List α) (hx : a.eval x = .slice A m c) (hr : Rd w sz enc A m ys) (hA : A = none → c = 0)
    (h63 : l.length + m ≤ maxLen) (hbytes : (l.length + m) * bytes ≤ 140737488355328) (hbase : B ≤ w.heap.size)
    (h : ∀ v' w', Own w' B e sz enc v' (l ++ ys) → w.grownBy w' v.ownBlock → (v'.ownBlock = v.ownBlock ∨ v'.ownBlock = some w.heap.size) → wpList P ops Q rest (a.put o.dst v') w') : wpList P ops Q (o :: rest) a w :=
  wpList_plain hgd fun _ hK => wp_push w s x t ho B e i z sz bytes ht hi hz hsize hby hzs hsz he v l hs hown A m c ys hx hr hA h63 hbytes hbase fun v' w' h2 h3 h4 => hK _ _ (h v' w' h2 h3 h4)

/-- records laid just now in one block -/
theorem Rd.lit {sz : Nat} (he : Enc sz enc) (l : List α) (n : Nat) (hn : l.length = n) (cs : Array Value) (e : TypeId) (hcs : cs.toList = l.flatMap enc) : Rd (w.alloc (.cells cs e)) sz enc (some ⟨w.heap.size, 0, none⟩) n l := by
  refine ⟨hn, fun _ => ⟨_, 0, rfl, fun k j u hk hu => ?_⟩⟩
  have hj : j < sz := by
    have := (List.getElem?_eq_some_iff.1 hu).1
    rw [he.len] at this; exact this
  rw [World.cell?_alloc_new, ← Array.getElem?_toList, hcs, Nat.zero_add, flatMap_get he l k j hk hj]
  exact hu
/-- the one record that append is handed: laid just now in a block of its own -/
theorem Rd.boxed {sz : Nat} (he : Enc sz enc) (x : α) (cs : Array Value) (e : TypeId) (hcs : cs.toList = enc x) : Rd (w.alloc (.cells cs e)) sz enc (some ⟨w.heap.size, 0, none⟩) 1 [x] := by
  refine ⟨rfl, fun _ => ⟨_, 0, rfl, fun k j u hk hu => ?_⟩⟩
  have hk0 : k = 0 := by simpa using hk
  subst hk0
  rw [World.cell?_alloc_new]
  simp only [List.getElem_cons_zero] at hu
  rw [← hcs] at hu
  simpa using hu
end

/-- block g is the n values of F, one cell each -/
def VRow (w : World) (g e n : Nat) (F : Nat → Value) : Prop := w.heap[g]? = some (.cells ((List.range n).map F).toArray e (0, 0))
section
variable {w w' : World} {g e n : Nat} {F : Nat → Value}
theorem VRow.lt (h : VRow w g e n F) : g < w.heap.size := by
  rcases Nat.lt_or_ge g w.heap.size with hlt | hge
  · exact hlt
  · unfold VRow at h; rw [Array.getElem?_eq_none hge] at h; cases h
theorem VRow.cell (h : VRow w g e n F) (j : Nat) (hj : j < n) : w.cell? ⟨g, j, none⟩ = some (F j) := by
  rw [cell_of_row w g j _ _ (0, 0) h]
  simp [hj]
theorem VRow.frozen (h : VRow w g e n F) (j : Nat) : w.frozen? ⟨g, j, none⟩ = false := frozen_of_row w g j _ _ h
theorem VRow.below (h : VRow w g e n F) (hb : Below w.heap.size w w') : VRow w' g e n F := (hb.block g h.lt).trans h
theorem VRow.drewN (h : VRow w g e n F) (k : Nat) : VRow (w.drewN k) g e n F := h
theorem VRow.set_ (h : VRow w g e n F) (k : Nat) (b : Value) : VRow (w.setCell ⟨g, k, none⟩ b) g e n (fun j => if j = k then b else F j) := by
  unfold VRow at h ⊢
  rw [heap_setCell_same w g k _ _ _ h]
  congr 2
  apply Array.ext
  · simp
  · intro j h1 h2
    by_cases e : k = j
    · subst e; simp
    · have e' : ¬ j = k := fun h => e h.symm
      simp [e, e']
theorem VRow.congr {F' : Nat → Value} (h : VRow w g e n F) (hF : ∀ j, j < n → F j = F' j) : VRow w g e n F' := by
  unfold VRow at h ⊢
  rw [h]
  congr 2
  apply congrArg List.toArray
  exact List.map_congr_left fun j hj => hF j (List.mem_range.1 hj)
theorem VRow.ne (h : VRow w g e n F) {b o : Nat} {u : Value} (hc : w.cell? ⟨b, o, none⟩ = some u) (hF : ∀ j, F j ≠ u) : b ≠ g := by
  rintro rfl
  rw [cell_of_row w b o _ _ (0, 0) h] at hc
  simp only [List.getElem?_toArray, List.getElem?_map, Option.map_eq_some_iff] at hc
  obtain ⟨a, _, ha⟩ := hc
  exact hF _ ha
theorem only_refl (w : World) (row : Option Nat) : w.grownBy w row := ⟨rfl, rfl, rfl, Nat.le_refl _, fun _ _ _ => rfl⟩
theorem only_below {a : World} {row : Option Nat} (h : a.grownBy w row) (hb : Below w.heap.size w w') : a.grownBy w' row :=
  ⟨hb.os.trans h.os, hb.tape.trans h.tape, hb.output.trans h.output, Nat.le_trans h.size hb.size, fun i hi hn => (hb.block i (Nat.lt_of_lt_of_le hi h.size)).trans (h.block i hi hn)⟩
theorem only_drewN {a : World} {row : Option Nat} (h : a.grownBy w row) (n : Nat) : a.grownBy (w.drewN n) row := ⟨h.os, h.tape, h.output, h.size, h.block⟩
theorem only_setCell {a : World} {g : Nat} (h : a.grownBy w (some g)) (o : Nat) (u : Value) : a.grownBy (w.setCell ⟨g, o, none⟩ u) (some g) :=
  ⟨h.os, h.tape, h.output, by simpa [World.setCell] using h.size, fun i hi hne => (Below.heap_setCell w ⟨g, o, none⟩ u i (by rintro rfl; exact hne rfl)).trans (h.block i hi hne)⟩
theorem only_cell {a : World} {g b o : Nat} {u : Value} (h : a.grownBy w (some g)) (hne : b ≠ g) (hc : a.cell? ⟨b, o, none⟩ = some u) : w.cell? ⟨b, o, none⟩ = some u :=
  h.cell hc (fun e => hne (by injection e))
theorem below_only {a b : World} {B g : Nat} (h : Below B a b) (hB : B ≤ a.heap.size) (hg : B ≤ g) (k : b.grownBy w (some g)) : Below B a w :=
  h.grown k (Nat.le_trans hB h.size) (fun k e => by injection e with e; omega)
theorem VRow.made (w : World) (e n : Nat) (z : Value) : VRow (w.alloc (.cells (Array.replicate n z) e)) w.heap.size e n (fun _ => z) := by
  unfold VRow
  rw [heap_alloc_new]
  congr 2
  apply Array.toList_inj.1
  rw [Array.toList_replicate]
  apply List.ext_getElem?
  intro j
  rw [List.getElem?_map]
  by_cases h : j < n <;> simp [h]
end
end Go.Proofs.YtjojjicpdfmopaaGreatDoor
