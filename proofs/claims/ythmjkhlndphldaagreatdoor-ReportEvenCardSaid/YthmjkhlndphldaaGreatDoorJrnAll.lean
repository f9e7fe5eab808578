/- The journal's set of refs: a map from text to bool that the call makes. -/
import Derived.Test.YthmjkhlndphldaaGreatDoorOpenE
import Derived.Maps.OwnSet
import Derived.Maps.OwnOps
import Derived.Maps.Views
import Derived.Test.YthmjkhlndphldaaGreatDoorEntG
import Derived.Deep.RegionLaw
namespace Go.Proofs.YthmjkhlndphldaaGreatDoor
open Go Go.RowKit Go.Maps Go.WideMaps
set_option linter.unusedVariables false

theorem refKey : Keyed Tryz.prog 9 := string_keyed Tryz.underlying9
theorem zeroBool (w : World) : (zeroValue 4).run Tryz.prog w = .ok (.bool false) w := by kernel_rfl

def keyOfS (s : ByteArray) : Lit := .string s.data.toList
theorem keyS_inj {s t : ByteArray} (h : keyOfS s = keyOfS t) : s = t := by
  unfold keyOfS at h
  injection h with h
  obtain ⟨⟨a⟩⟩ := s
  obtain ⟨⟨b⟩⟩ := t
  simp at h
  rw [h]

/-- is it on the list? -/
def hasS (S : List ByteArray) (s : ByteArray) : Bool := S.any fun t => decide (t = s)

/-- block m is a map of at most n entries; of a text it says true where that is on the list S, else false -/
def Refs (w : World) (m n : Nat) (S : List ByteArray) : Prop :=
  ∃ D : DataW Unit, w.ownsMap Tryz.prog 9 (plainElem Tryz.prog 4) m n D ∧ IsMap D ∧ ∀ s : ByteArray, s.size ≤ maxLen → D.atKey (keyOfS s) (.lit (.bool false)) = .lit (.bool (hasS S s))
theorem Refs.lt {w : World} {m n : Nat} {S : List ByteArray} (h : Refs w m n S) : m < w.heap.size := by
  obtain ⟨D, h1, _⟩ := h; exact h1.lt
theorem Refs.made (w : World) : Refs (w.alloc (.map #[] 0)) w.heap.size 0 [] :=
  ⟨.map [], World.ownsMap_made _ _ _ _, isMap_empty, fun s _ => by simp [DataW.atKey, hasS]⟩
theorem Refs.kept {w w' : World} {m n : Nat} {S : List ByteArray} {row : Option Nat} (h : Refs w m n S) (hg : w.grownBy w' row) (hne : some m ≠ row) : Refs w' m n S := by
  obtain ⟨D, h1, h2⟩ := h; exact ⟨D, h1.kept hg hne, h2⟩
theorem Refs.below {w w' : World} {m n : Nat} {S : List ByteArray} (h : Refs w m n S) (hb : Below w.heap.size w w') : Refs w' m n S :=
  h.kept (row := none) ⟨hb.os, hb.tape, hb.output, hb.size, fun i hi _ => hb.block i hi⟩ (by simp)
theorem plainElem_bool_inv {H : Type} {P : Program} {e : TypeId} (he : P.underlying e = some .bool) {v : Value} {z : DataW H × List MemPlace} (h : plainElem P e v = some z) : ∃ x, v = .bool x ∧ z = (.lit (.bool x), []) := by
  unfold plainElem at h
  rw [he] at h
  cases v <;> simp at h
  exact ⟨_, rfl, h.symm⟩
set_option maxRecDepth 100000 in
theorem Refs.lookup {w : World} {m n : Nat} {S : List ByteArray} (h : Refs w m n S) (s : ByteArray) (hs : s.size ≤ maxLen) :
    (Instr.lookup 124 (.map (some m)) (.string s) false).run Tryz.prog w = .ok (.bool (hasS S s)) w := by
  obtain ⟨D, h1, h2, h3⟩ := h
  obtain ⟨v, ps, hrun, hv⟩ := h1.lookup refKey Tryz.underlying124 (zeroBool w) (plainElem_bool Tryz.underlying4 false) (keyOf_string_mk Tryz.underlying9 hs)
  obtain ⟨x, rfl, hx⟩ := plainElem_bool_inv Tryz.underlying4 hv
  have h4 := h3 s hs
  simp only [Prod.mk.injEq] at hx
  have h5 : (DataW.lit (.bool x) : DataW Unit) = .lit (.bool (hasS S s)) := hx.1.symm.trans h4
  injection h5 with h5
  injection h5 with h5
  rw [hrun, h5]
theorem Refs.put {w' : World} {m n : Nat} {S : List ByteArray} {D : DataW Unit} (s : ByteArray) (hs : s.size ≤ maxLen) (h2 : IsMap D) (h3 : ∀ t : ByteArray, t.size ≤ maxLen → D.atKey (keyOfS t) (.lit (.bool false)) = .lit (.bool (hasS S t)))
    (h : w'.ownsMap Tryz.prog 9 (plainElem Tryz.prog 4) m (n + 1) (D.put (keyOfS s) (.lit (.bool true)))) : Refs w' m (n + 1) (s :: S) := by
  refine ⟨_, h, h2.put _ _, fun t ht => ?_⟩
  by_cases e : t = s
  · subst e
    rw [atKey_put_same h2 (by simp [keyOfS, WideAt.IsKeyLit])]
    simp [hasS]
  · rw [atKey_put_other (fun h => e (keyS_inj h)), h3 t ht]
    have e' : ¬ s = t := fun h => e h.symm
    simp [hasS, e']
set_option maxRecDepth 100000 in
theorem Refs.update {w : World} {m n : Nat} {S : List ByteArray} (h : Refs w m n S) (hn : n < maxLen) (s : ByteArray) (hs : s.size ≤ maxLen) :
    ∃ w', (Instr.mapUpdate 124 (.map (some m)) (.string s) (.bool true)).run Tryz.prog w = .ok () w' ∧ Refs w' m (n + 1) (s :: S) ∧ w.grownBy w' (some m) := by
  obtain ⟨D, h1, h2, h3⟩ := h
  obtain ⟨w', r1, r2, r3⟩ := h1.update refKey Tryz.underlying124 hn (keyOf_string_mk Tryz.underlying9 hs) (plainElem_bool Tryz.underlying4 true)
  exact ⟨w', r1, Refs.put s hs h2 h3 r2, r3⟩
end Go.Proofs.YthmjkhlndphldaaGreatDoor

namespace Go.Proofs.YthmjkhlndphldaaGreatDoor
open Go Go.RowKit
set_option linter.unusedVariables false

theorem entEnc_ok : Enc 4 Ent.enc := ⟨fun _ => rfl, by
  intro a u hu
  simp only [Ent.enc, List.mem_cons, List.not_mem_nil, or_false] at hu
  rcases hu with rfl | rfl | rfl | rfl <;> rfl⟩

/-- an entry of the journal: its lines lie in a block that is none of these three -/
structure Kept (w : World) (B g m : Nat) (r : Option Nat) (e : Ent) : Prop where
  rd : Rd w 3 lineEnc e.A e.n e.lines
  few : e.n ≤ 20
  nil : e.A = none → e.cap = 0
  cap : e.n ≤ e.cap ∧ e.cap ≤ maxLen
  apart : ∀ b off s, e.A = some ⟨b, off, s⟩ → b ≠ g ∧ b ≠ m ∧ some b ≠ r ∧ b < w.heap.size
theorem Kept.below {w w' : World} {B g m : Nat} {r : Option Nat} {e : Ent} (h : Kept w B g m r e) (hb : Below w.heap.size w w') : Kept w' B g m r e :=
  ⟨h.rd.below hb, h.few, h.nil, h.cap, fun b off s he => by have x := h.apart b off s he; have := hb.size; exact ⟨x.1, x.2.1, x.2.2.1, by omega⟩⟩
theorem Kept.grown {w w' : World} {B g m : Nat} {r row : Option Nat} {e : Ent} (h : Kept w B g m r e) (hg : w.grownBy w' row) (hr : row = some g ∨ row = some m ∨ row = r ∨ row = none) : Kept w' B g m r e := by
  refine ⟨?_, h.few, h.nil, h.cap, fun b off s he => by have x := h.apart b off s he; have := hg.size; exact ⟨x.1, x.2.1, x.2.2.1, by omega⟩⟩
  refine ⟨h.rd.1, fun hn => ?_⟩
  obtain ⟨b, off, e1, hc⟩ := h.rd.2 hn
  have ha := h.apart b off none e1
  refine ⟨b, off, e1, fun k j u hk hu => hg.cell (hc k j u hk hu) ?_⟩
  intro e2
  rcases hr with rfl | rfl | rfl | rfl
  · exact ha.1 (by simpa using e2)
  · exact ha.2.1 (by simpa using e2)
  · exact ha.2.2.1 e2
  · cases e2

/-- block g is a journal of these entries: v the slice of them, m the set of refs; all at or above B -/
structure Jrn (w : World) (B g m : Nat) (v : Value) (es : List Ent) : Prop where
  gB : B ≤ g
  mB : B ≤ m
  gm : g ≠ m
  c0 : w.cell? ⟨g, 0, none⟩ = some v
  c1 : w.cell? ⟨g, 1, none⟩ = some (.map (some m))
  fr : ∀ o, w.frozen? ⟨g, o, none⟩ = false
  own : Own w B 25 4 Ent.enc v es
  vg : v.ownBlock ≠ some g
  vm : v.ownBlock ≠ some m
  refs : Refs w m es.length (es.map Ent.ref).reverse
  all : ∀ e, e ∈ es → Kept w B g m v.ownBlock e

section
variable {w w' : World} {B g m : Nat} {v : Value} {es : List Ent}
theorem Jrn.lt (h : Jrn w B g m v es) : g < w.heap.size := World.block_lt_of_cell? _ _ h.c0
theorem Jrn.below (h : Jrn w B g m v es) (hb : Below w.heap.size w w') : Jrn w' B g m v es :=
  ⟨h.gB, h.mB, h.gm, below_cell hb h.lt h.c0, below_cell hb h.lt h.c1, fun o => (hb.frozen (p := ⟨g, o, none⟩) h.lt).trans (h.fr o), h.own.below hb, h.vg, h.vm, h.refs.below hb, fun e he => (h.all e he).below hb⟩
theorem Jrn.alloc (h : Jrn w B g m v es) (o : Obj) : Jrn (w.alloc o) B g m v es := h.below ((Below.refl _ _).alloc (Nat.le_refl _) o)
theorem Jrn.few (h : Jrn w B g m v es) : ∃ A c, v = .slice A es.length c ∧ es.length ≤ c ∧ c ≤ maxLen := h.own.form
end

/-- the numbers of those that are of an entity (0 for all), and a period -/
def ofB (ent per : Int) (e : Ent) : Bool := ((ent == 0) || (e.ent == ent)) && ((per == 0) || (e.per == per))
def ofTo (es : List Ent) (ent per : Int) (k : Nat) : List Int := ((List.range k).filter (fun i => match es[i]? with | some e => ofB ent per e | none => false)).map (fun (i : Nat) => (i : Int))
theorem ofTo_yes {es : List Ent} {ent per : Int} {k : Nat} (hk : k < es.length) (h : ofB ent per es[k] = true) : ofTo es ent per (k + 1) = ofTo es ent per k ++ [(k : Int)] := by
  unfold ofTo
  rw [List.range_succ, List.filter_append, List.map_append, List.filter_cons, if_pos (by rw [List.getElem?_eq_getElem hk]; exact h)]
  rfl
theorem ofTo_no {es : List Ent} {ent per : Int} {k : Nat} (hk : k < es.length) (h : ofB ent per es[k] = false) : ofTo es ent per (k + 1) = ofTo es ent per k := by
  unfold ofTo
  rw [List.range_succ, List.filter_append, List.map_append, List.filter_cons, if_neg (by rw [List.getElem?_eq_getElem hk]; simp [h])]
  simp
theorem ofTo_len (es : List Ent) (ent per : Int) (k : Nat) : (ofTo es ent per k).length ≤ k := by
  unfold ofTo
  rw [List.length_map]
  exact Nat.le_trans (List.length_filter_le _ _) (by simp)
def intEnc (n : Int) : List Value := [.int .i64 n]
theorem intEnc_ok : Enc 1 intEnc := ⟨fun _ => rfl, by
  intro a u hu
  simp only [intEnc, List.mem_singleton] at hu
  subst hu; rfl⟩

theorem Jrn.push {w1 w2 w3 w5 : World} {B g m n c : Nat} {v v' : Value} {es : List Ent} {E : Ent} (o : Obj) (h : Jrn w1 B g m v es) (href : Refs w2 m (es.length + 1) (E.ref :: (es.map Ent.ref).reverse)) (h12 : w1.grownBy w2 (some m)) (h23 : Below w2.heap.size w2 w3)
    (hl : Own w3 w2.heap.size 35 3 lineEnc (.slice E.A E.n E.cap) E.lines) (hn : E.n ≤ 20)
    (hown5 : Own w5 B 25 4 Ent.enc v' (es ++ [E])) (hg5 : (w3.alloc o).grownBy w5 v.ownBlock) (hat : v'.ownBlock = v.ownBlock ∨ v'.ownBlock = some (w3.alloc o).heap.size) :
    Jrn (w5.setCell ⟨g, 0, none⟩ v') B g m v' (es ++ [E]) := by
  have hgl := h.lt
  have hml : m < w1.heap.size := h.refs.lt
  have hs2 := h12.size
  have hs3 := h23.size
  have hs5 := hg5.size
  have hvl : ∀ k, v.ownBlock = some k → k < w1.heap.size := fun k hk => (h.own.block k hk).2
  have ha : (w3.alloc o).heap.size = w3.heap.size + 1 := by simp
  -- a cell of an old block that is none of the three
  have hb24 : Below w2.heap.size w2 (w3.alloc o) := h23.alloc (by omega) o
  have c5 : ∀ q u, w1.cell? ⟨g, q, none⟩ = some u → w5.cell? ⟨g, q, none⟩ = some u := by
    intro q u hu
    have e2 := h12.cell hu (by simp; exact h.gm)
    exact hg5.cell (below_cell hb24 (by omega) e2) (fun e => h.vg e.symm)
  have f5 : ∀ q, w5.frozen? ⟨g, q, none⟩ = false := by
    intro q
    have x1 : w5.frozen? ⟨g, q, none⟩ = w1.frozen? ⟨g, q, none⟩ := by
      have y1 := hg5.block g (by omega) (fun e => h.vg e.symm)
      have y2 := hb24.block g (by omega)
      have y3 := h12.block g hgl (by simp; exact h.gm)
      unfold World.frozen?
      simp only [y1, y2, y3]
    rw [x1]; exact h.fr q
  have hvg' : v'.ownBlock ≠ some g := by
    rcases hat with e | e
    · rw [e]; exact h.vg
    · rw [e]; intro e2; injection e2 with e2; omega
  have hvm' : v'.ownBlock ≠ some m := by
    rcases hat with e | e
    · rw [e]; exact h.vm
    · rw [e]; intro e2; injection e2 with e2; omega
  have hset : w5.grownBy (w5.setCell ⟨g, 0, none⟩ v') (some g) := only_setCell (only_refl w5 (some g)) 0 v'
  have hsz : (w5.setCell ⟨g, 0, none⟩ v').heap.size = w5.heap.size := by simp [World.setCell]
  refine ⟨h.gB, h.mB, h.gm, World.cell?_setCell_same w5 ⟨g, 0, none⟩ v' (c5 0 _ h.c0), ?_, ?_, hown5.grown hset (.inr hvg'), hvg', hvm', ?_, ?_⟩
  · rw [World.cell?_setCell_other _ _ _ _ (by simp)]
    exact c5 1 _ h.c1
  · intro q
    have := hset
    simp [f5 q]
  · rw [List.length_append, List.map_append, List.reverse_append]
    have r3 := href.below hb24
    exact (r3.kept hg5 (fun e => h.vm e.symm)).kept hset (by simp; exact fun e => h.gm e.symm)
  · intro e he
    rcases List.mem_append.1 he with he | he
    · have k1 := h.all e he
      have k5 := ((k1.grown h12 (.inr (.inl rfl))).below hb24).grown hg5 (.inr (.inr (.inl rfl)))
      have k6 := k5.grown hset (.inl rfl)
      refine ⟨k6.rd, k6.few, k6.nil, k6.cap, fun b off s hb => ?_⟩
      have x1 := k1.apart b off s hb
      have x6 := k6.apart b off s hb
      refine ⟨x6.1, x6.2.1, ?_, x6.2.2.2⟩
      rcases hat with e2 | e2
      · rw [e2]; exact x1.2.2.1
      · rw [e2]; intro e3; injection e3 with e3; omega
    · have : e = E := by simpa using he
      subst this
      have hap : ∀ b off s, e.A = some ⟨b, off, s⟩ → w2.heap.size ≤ b ∧ b < w3.heap.size := by
        intro b off s hb
        exact hl.block b (by simp [Value.ownBlock, hb])
      have hrd := hl.rd lineEnc_ok
      have k3 : Kept w3 B g m v.ownBlock e := by
        obtain ⟨A', c', e1, e2, e3⟩ := hl.form
        injection e1 with e4 e5 e6
        refine ⟨hrd, hn, fun hA => ?_, ⟨by omega, by omega⟩, fun b off s hb => ?_⟩
        · have hl' := hl
          rw [hA] at hl'
          rcases hl'.2 with ⟨hv, _⟩ | ⟨g', c'', cur, hv, _⟩
          · injection hv
          · cases hv
        · have := hap b off s hb
          refine ⟨by omega, by omega, fun e3 => ?_, by omega⟩
          have := hvl b e3.symm
          omega
      have k6 := ((k3.below ((Below.refl _ _).alloc (Nat.le_refl _) o)).grown hg5 (.inr (.inr (.inl rfl)))).grown hset (.inl rfl)
      refine ⟨k6.rd, k6.few, k6.nil, k6.cap, fun b off s hb => ?_⟩
      have x1 := hap b off s hb
      have x6 := k6.apart b off s hb
      refine ⟨x6.1, x6.2.1, ?_, x6.2.2.2⟩
      rcases hat with e2 | e2
      · rw [e2]; exact x6.2.2.1
      · rw [e2]; intro e3; injection e3 with e3; omega
end Go.Proofs.YthmjkhlndphldaaGreatDoor

namespace Go.Proofs.YthmjkhlndphldaaGreatDoor
open Go Go.RowKit
set_option linter.unusedVariables false

theorem ofTo_mem {es : List Ent} {a b : Int} {k : Nat} {x : Int} : x ∈ ofTo es a b k ↔ ∃ (i : Nat) (h : i < es.length), i < k ∧ x = (i : Int) ∧ ofB a b es[i] = true := by
  unfold ofTo
  rw [List.mem_map]
  constructor
  · rintro ⟨i, hi, rfl⟩
    obtain ⟨h1, h2⟩ := List.mem_filter.1 hi
    by_cases h : i < es.length
    · rw [List.getElem?_eq_getElem h] at h2
      exact ⟨i, h, List.mem_range.1 h1, rfl, h2⟩
    · rw [List.getElem?_eq_none (by omega)] at h2
      cases h2
  · rintro ⟨i, h, hk, rfl, hb⟩
    exact ⟨i, List.mem_filter.2 ⟨List.mem_range.2 hk, by rw [List.getElem?_eq_getElem h]; exact hb⟩, rfl⟩
theorem ofTo_sorted (es : List Ent) (a b : Int) (k : Nat) : (ofTo es a b k).Pairwise (fun x y => x < y) := by
  unfold ofTo
  rw [List.pairwise_map]
  refine List.Pairwise.filter _ ?_
  exact (List.pairwise_lt_range (n := k)).imp fun h => by omega
theorem ofTo_lt {es : List Ent} {a b : Int} {k : Nat} (i : Nat) (h : i + 1 < (ofTo es a b k).length) : (ofTo es a b k)[i] < (ofTo es a b k)[i + 1] :=
  List.pairwise_iff_getElem.1 (ofTo_sorted es a b k) i (i + 1) (by omega) h (by omega)
theorem ofTo_count (es : List Ent) (a b : Int) (k : Nat) (h : k ≤ es.length) : (ofTo es a b k).length = ((es.take k).filter (ofB a b)).length := by
  induction k with
  | zero => simp [ofTo]
  | succ k ih =>
    have hk : k < es.length := by omega
    rw [List.take_succ_eq_append_getElem hk, List.filter_append, List.length_append, ← ih (by omega)]
    cases hb : ofB a b es[k] with
    | true => rw [ofTo_yes hk hb]; simp [hb]
    | false => rw [ofTo_no hk hb]; simp [hb]
theorem ofTo_all (es : List Ent) : (ofTo es 0 0 es.length).length = es.length := by
  rw [ofTo_count es 0 0 es.length (Nat.le_refl _), List.take_length, List.filter_eq_self.2]
  intro e _
  simp [ofB]
/-- those of the entities up to e -/
def upTo (es : List Ent) (e : Int) : Nat := (es.filter fun x => decide (1 ≤ x.ent) && decide (x.ent ≤ e)).length
theorem upTo_zero (es : List Ent) : upTo es 0 = 0 := by
  unfold upTo
  rw [List.filter_eq_nil_iff.2]
  · rfl
  · intro x _
    simp only [Bool.and_eq_true, decide_eq_true_eq]
    omega
theorem upTo_succ (es : List Ent) (e : Int) (he : 0 ≤ e) : upTo es (e + 1) = upTo es e + (ofTo es (e + 1) 0 es.length).length := by
  rw [ofTo_count es _ _ es.length (Nat.le_refl _), List.take_length]
  unfold upTo
  induction es with
  | nil => simp
  | cons x es ih =>
    simp only [List.filter_cons]
    by_cases h1 : x.ent = e + 1
    · have b1 : (decide (1 ≤ x.ent) && decide (x.ent ≤ e + 1)) = true := by simp; omega
      have b2 : (decide (1 ≤ x.ent) && decide (x.ent ≤ e)) = false := by simp; omega
      have b3 : ofB (e + 1) 0 x = true := by simp [ofB, h1]
      rw [b1, b2, b3]
      simp only [if_true, List.length_cons, ih, Bool.false_eq_true, if_false]
      omega
    · have b3 : ofB (e + 1) 0 x = false := by
        have : ¬ e + 1 = 0 := by omega
        simp [ofB, h1, this]
      rw [b3]
      by_cases h2 : 1 ≤ x.ent ∧ x.ent ≤ e
      · have b1 : (decide (1 ≤ x.ent) && decide (x.ent ≤ e + 1)) = true := by simp; omega
        have b2 : (decide (1 ≤ x.ent) && decide (x.ent ≤ e)) = true := by simp; omega
        rw [b1, b2]
        simp only [if_true, List.length_cons, ih, Bool.false_eq_true, if_false]
        omega
      · have b1 : (decide (1 ≤ x.ent) && decide (x.ent ≤ e + 1)) = false := by simp; omega
        have b2 : (decide (1 ≤ x.ent) && decide (x.ent ≤ e)) = false := by simp; omega
        rw [b1, b2]
        simp only [Bool.false_eq_true, if_false, ih]
theorem upTo_all {es : List Ent} (h : ∀ x, x ∈ es → 1 ≤ x.ent ∧ x.ent ≤ 12) : upTo es 12 = es.length := by
  unfold upTo
  rw [List.filter_eq_self.2]
  intro x hx
  have := h x hx
  simp; omega
/-- each of an entity's numbers: its entry is of it, and it is among those of its period -/
theorem ofTo_at {es : List Ent} {a : Int} (ha : a ≠ 0) {i : Nat} (h : i < (ofTo es a 0 es.length).length) : ∃ (j : Nat) (hj : j < es.length), (ofTo es a 0 es.length)[i] = (j : Int) ∧ es[j].ent = a ∧ (j : Int) ∈ ofTo es a es[j].per es.length := by
  obtain ⟨j, hj, _, e, hb⟩ := ofTo_mem.1 (List.getElem_mem h)
  have he : es[j].ent = a := by simpa [ofB, ha] using hb
  exact ⟨j, hj, e, he, ofTo_mem.2 ⟨j, hj, hj, rfl, by simp [ofB, he]⟩⟩
end Go.Proofs.YthmjkhlndphldaaGreatDoor

namespace Go.Proofs.YthmjkhlndphldaaGreatDoor
open Go Go.RowKit
set_option linter.unusedVariables false

theorem int_info : (Tryz.prog.info? 3).map (fun i => (i.zero, i.size, i.bytes)) = some (some (.int .i64 0), 1, 8) := by kernel_rfl
def zeroEnt : Value := .agg #[.string ⟨#[]⟩, .int .i64 0, .int .i64 0, .slice none 0 0]
theorem ent_info : (Tryz.prog.info? 25).map (fun i => (i.zero, i.size, i.bytes)) = some (some zeroEnt, 4, 56) := by kernel_rfl

theorem jlen_any {w : World} {B g m : Nat} {v : Value} {es : List Ent} (h : Jrn w B g m v es) :
    Calls Tryz.prog 29 #[.pointer (some ⟨g, 0, none⟩)] w fun e w' => e = .returned (.int .i64 es.length) ∧ w = w' := by
  obtain ⟨A, c, rfl, h1, h2⟩ := h.few
  have c0 := h.c0
  go_enter Tryz.func29, Tryz.ntmps29
  go_wp2_with fail
  go_ret
  exact ⟨rfl, rfl⟩

theorem jnew_any (w : World) : Calls Tryz.prog 23 #[] w fun e w' => ∃ g m, e = .returned (.pointer (some ⟨g, 0, none⟩)) ∧ Jrn w' w.heap.size g m (.slice none 0 0) [] ∧ Below w.heap.size w w' := by
  have hmm := @run_makeMap Tryz.prog
  have hr : Refs ((w.alloc (.map #[] 0)).alloc (.cells #[.slice none 0 0, .map (some w.heap.size)] 126)) w.heap.size 0 [] := (Refs.made w).below ((Below.refl _ _).alloc (Nat.le_refl _) _)
  have hs : (w.alloc (.map #[] 0)).heap.size = w.heap.size + 1 := by simp
  go_enter Tryz.func23, Tryz.ntmps23
  go_wp2_with fail
  go_ret
  refine ⟨w.heap.size + 1, w.heap.size, rfl, ?_, ((Below.refl _ _).alloc (Nat.le_refl _) _).alloc (by simp) _⟩
  refine ⟨by omega, Nat.le_refl _, by omega, ?_, ?_, ?_, Own.nil _ _ _ _ _, by simp [Value.ownBlock], by simp [Value.ownBlock], hr, fun e he => by cases he⟩
  all_goals rw [← hs]
  all_goals generalize hw1 : w.alloc (.map #[] 0) = w1
  all_goals simp

theorem jclone_any (ref : ByteArray) (ent per : Int) (l : List Line) (A : Option Addr) (n c : Nat) (w : World) (ha : Rd w 3 lineEnc A n l) (hn : n ≤ 20) (hA : A = none → c = 0) :
    Calls Tryz.prog 86 #[.agg #[.string ref, .int .i64 ent, .int .i64 per, .slice A n c]] w
      fun e w' => ∃ VA vc, e = .returned (.agg #[.string ref, .int .i64 ent, .int .i64 per, .slice VA l.length vc]) ∧ Own w' w.heap.size 35 3 lineEnc (.slice VA l.length vc) l ∧ Below w.heap.size w w' := by
  go_enter Tryz.func86, Tryz.ntmps86
  go_wp2_with fail
  have hbx := (EntTwo.new w ref ent per (.slice A n c) (.cells #[.string ⟨#[]⟩, .int .i64 0, .int .i64 0, .slice none 0 0] 25)).1
  have hE0 := (EntTwo.new w ref ent per (.slice A n c) (.cells #[.string ⟨#[]⟩, .int .i64 0, .int .i64 0, .slice none 0 0] 25)).2.1
  have hf0 := (EntTwo.new w ref ent per (.slice A n c) (.cells #[.string ⟨#[]⟩, .int .i64 0, .int .i64 0, .slice none 0 0] 25)).2.2
  have hR0 := EntTwo.res w ref ent per (.slice A n c)
  have hg0 := EntTwo.res2 w ref ent per (.slice A n c)
  generalize (w.alloc (.cells #[.string ref, .int .i64 ent, .int .i64 per, .slice A n c] 25)).alloc (.cells #[.string ⟨#[]⟩, .int .i64 0, .int .i64 0, .slice none 0 0] 25) = W0 at hbx hE0 hf0 hR0 hg0 ⊢
  have hr0 : w.heap.size + 1 < W0.heap.size := World.block_lt_of_cell? _ _ hR0.1
  refine (clone_lines l A n c _ (Rd.below ha hbx) hn hA).mono ?_
  rintro e w1 ⟨v, rfl, hown, hb1⟩
  obtain ⟨VA, vc, rfl, hvc, hvm⟩ := hown.form
  obtain ⟨e0, e1, e2, e3⟩ := hE0.below hb1
  obtain ⟨r0, r1, r2, r3⟩ := hR0.below hb1
  have z3 : w1.frozen? ⟨w.heap.size, 3, none⟩ = false := ((bcell hb1).2 _ 3 (by omega)).trans (hf0 3)
  have zr : ∀ q, w1.frozen? ⟨w.heap.size + 1, q, none⟩ = false := fun q => ((bcell hb1).2 _ q hr0).trans (hg0 q)
  have zr0 := zr 0
  have zr1 := zr 1
  have zr2 := zr 2
  have zr3 := zr 3
  clear zr
  have hb1w : Below w.heap.size w w1 := hbx.trans (hb1.mono hbx.size)
  go_wp2_with fail
  refine bodyPost_ret (v := .agg #[.string ref, .int .i64 ent, .int .i64 per, .slice VA l.length vc]) (by simp [results, Tryz.results86, go_sem, r0, r1, r2, r3]) rfl ⟨_, _, rfl, ?_, ?_⟩
  · have hlow : ∀ q, Value.ownBlock (.slice VA l.length vc) = some q → q ≠ w.heap.size ∧ q ≠ w.heap.size + 1 := fun q e => by have := (hown.block _ e).1; omega
    have hs : ∀ {wq : World} (g o : Nat) (u : Value), (g = w.heap.size ∨ g = w.heap.size + 1) → Own wq W0.heap.size 35 3 lineEnc (.slice VA l.length vc) l → Own (wq.setCell ⟨g, o, none⟩ u) W0.heap.size 35 3 lineEnc (.slice VA l.length vc) l := fun {wq} g o u hg h => h.grown (only_setCell (only_refl wq (some g)) o u) (.inr fun e => by have := hlow _ e; omega)
    exact Own.wider (hs _ _ _ (.inr rfl) (hs _ _ _ (.inr rfl) (hs _ _ _ (.inr rfl) (hs _ _ _ (.inr rfl) (hs _ _ _ (.inl rfl) hown))))) hbx.size
  · exact ((((hb1w.setCell (Nat.le_refl _) _).setCell (Nat.le_succ _) _).setCell (Nat.le_succ _) _).setCell (Nat.le_succ _) _).setCell (Nat.le_succ _) _

set_option maxRecDepth 100000 in
theorem jof_any {w : World} {B g m : Nat} {v : Value} {es : List Ent} (h : Jrn w B g m v es) (hes : es.length ≤ 200) (ent per : Int) :
    Calls Tryz.prog 35 #[.pointer (some ⟨g, 0, none⟩), .int .i64 ent, .int .i64 per] w
      fun e w' => ∃ r, e = .returned r ∧ Own w' w.heap.size 3 1 intEnc r (ofTo es ent per es.length) ∧ Below w.heap.size w w' := by
  obtain ⟨i0, hi0, hz0, hz1, hz2⟩ := info_parts int_info
  obtain ⟨A, c, rfl, h1, h2⟩ := h.few
  have c0 := h.c0
  have hrd := h.own.rd entEnc_ok
  go_enter Tryz.func35, Tryz.ntmps35
  go_wp2_with fail
  have Hes := hide hes
  clear hes
  go_loopw [6, 14] (fun lv iv wr => ∃ k : Nat, k ≤ es.length ∧ iv = .int .i64 k ∧ Own wr w.heap.size 3 1 intEnc lv (ofTo es ent per k) ∧ Below w.heap.size w wr) (fun _ iv _ => es.length - (intOf iv).toNat)
  case atStart => exact ⟨0, by omega, rfl, Own.nil _ _ _ _ _, Below.refl _ _⟩
  case round =>
    obtain ⟨k, hk, rfl, hown, hbr⟩ := hrel
    by_cases hlt : k < es.length
    · obtain ⟨b, off, rfl, hcs⟩ := (Rd.below hrd hbr).2 (by omega)
      have q0 := hcs k 0 _ hlt rfl
      have q1 := hcs k 1 _ hlt rfl
      have q2 := hcs k 2 _ hlt rfl
      have q3 := hcs k 3 _ hlt rfl
      rw [Nat.add_zero] at q0
      clear hcs
      have k0 : (0 : Int) ≤ (k : Int) := by omega
      have k1 : (k : Int) < (es.length : Int) := by omega
      have hlen := ofTo_len es ent per k
      have h200 := Hes.out
      have hsz := hbr.size
      cases h1 : (ent == 0) <;> cases h2 : (es[k].ent == ent) <;> cases h3 : (per == 0) <;> cases h4 : (es[k].per == per)
      all_goals
        have H1 := hide h1
        have H2 := hide h2
        have H3 := hide h3
        have H4 := hide h4
        go_wp2_with (first | (at_builtin; go_loud (refine wpList_push _ rfl _ _ 42 rfl w.heap.size 3 i0 (.int .i64 0) 1 8 Tryz.underlying42 hi0 hz0 hz1 hz2 rfl (by decide) intEnc_ok _ (ofTo es ent per k) rfl ((hown.alloc _).alloc _) _ 1 1 [(k : Int)] rfl (Rd.boxedAt _ intEnc_ok (k : Int) _ _ rfl _ (by simp)) (by intro h; cases h) (by simp only [maxLen]; omega) (by omega) (by simp; omega) ?_); intro v' w3 hown3 hg3 hat3))
        go_roundw
        case measure => simp [intOf]; omega
        case rel =>
          first
            | exact ⟨k + 1, by omega, by go_num, by rw [ofTo_yes hlt (by simp only [ofB, H1.out, H2.out, H3.out, H4.out]; rfl)]; exact hown3, ((hbr.alloc hsz _).alloc (by simp; omega) _).grown hg3 (by simp; omega) (fun q e => (hown.block q e).1)⟩
            | exact ⟨k + 1, by omega, by go_num, by rw [ofTo_no hlt (by simp only [ofB, H1.out, H2.out, H3.out, H4.out]; rfl)]; exact hown.alloc _, hbr.alloc hsz _⟩
    · go_wp2_with fail
      have hkn : k = es.length := by omega
      subst hkn
      go_ret
      exact ⟨_, rfl, hown, hbr⟩
end Go.Proofs.YthmjkhlndphldaaGreatDoor

namespace Go.Proofs.YthmjkhlndphldaaGreatDoor
open Go Go.RowKit
set_option linter.unusedVariables false

theorem EntAt.neu (w : World) (ref : ByteArray) (ent per : Int) (v : Value) : EntAt (w.alloc (.cells #[.string ref, .int .i64 ent, .int .i64 per, v] 25)) w.heap.size ref ent per v := by
  unfold EntAt
  simp

set_option maxRecDepth 100000 in
theorem jat_ok {w : World} {B g m : Nat} {v : Value} {es : List Ent} (h : Jrn w B g m v es) (k : Nat) (hk : k < es.length) :
    Calls Tryz.prog 30 #[.pointer (some ⟨g, 0, none⟩), .int .i64 k] w
      fun e w' => ∃ VA vc, e = .returned (.tuple #[.agg #[.string es[k].ref, .int .i64 es[k].ent, .int .i64 es[k].per, .slice VA es[k].lines.length vc], .nilIface]) ∧ Below w.heap.size w w' := by
  obtain ⟨A, c, rfl, h1, h2⟩ := h.few
  have c0 := h.c0
  have hrd := h.own.rd entEnc_ok
  have hK := h.all _ (List.getElem_mem hk)
  obtain ⟨b, off, rfl, hcs⟩ := hrd.2 (by omega)
  have q0 := hcs k 0 _ hk rfl
  have q1 := hcs k 1 _ hk rfl
  have q2 := hcs k 2 _ hk rfl
  have q3 := hcs k 3 _ hk rfl
  rw [Nat.add_zero] at q0
  clear hcs
  have k0 : (0 : Int) ≤ (k : Int) := by omega
  have k1 : (k : Int) < (es.length : Int) := by omega
  have d0 : decide ((k : Int) < 0) = false := by rw [decide_eq_false_iff_not]; omega
  have d1 : decide ((es.length : Int) ≤ (k : Int)) = false := by rw [decide_eq_false_iff_not]; omega
  have hgl := h.lt
  have hbl : b < w.heap.size := World.block_lt_of_cell? _ _ q1
  go_enter Tryz.func30, Tryz.ntmps30
  go_wp2_with fail
  refine (jclone_any es[k].ref es[k].ent es[k].per es[k].lines es[k].A es[k].n es[k].cap _ (hK.rd.below ((Below.refl _ _).alloc (Nat.le_refl _) _)) hK.few hK.nil).mono ?_
  rintro e w1 ⟨VA, vc, rfl, hown1, hb1⟩
  have hR : EntAt w1 w.heap.size ⟨#[]⟩ 0 0 (.slice none 0 0) := (EntAt.neu w ⟨#[]⟩ 0 0 (.slice none 0 0)).below hb1
  have zr : ∀ q, w1.frozen? ⟨w.heap.size, q, none⟩ = false := fun q => ((bcell hb1).2 _ q (by simp)).trans (by simp)
  have zr0 := zr 0
  have zr1 := zr 1
  have zr2 := zr 2
  have zr3 := zr 3
  obtain ⟨r0, r1, r2, r3⟩ := hR
  have hb1 := bof_alloc hb1
  clear zr
  go_wp2_with fail
  refine bodyPost_ret (v := .tuple #[.agg #[.string es[k].ref, .int .i64 es[k].ent, .int .i64 es[k].per, .slice VA es[k].lines.length vc], .nilIface]) (by simp [results, Tryz.results30, go_sem, r0, r1, r2, r3]) rfl ⟨_, _, rfl, ?_⟩
  exact (((hb1.setCell (Nat.le_refl _) _).setCell (Nat.le_refl _) _).setCell (Nat.le_refl _) _).setCell (Nat.le_refl _) _

theorem step_pushJ {P : Program} (w : World) {α : Type} {enc : α → List Value} {ops : Array Oper} {o : Oper} {a : Act} {K : Act → World → Prop} {Q : Exit → Act → World → Prop} {E : Prop} (hgd : o.guard = none) (s x : Operand) (t : TypeId)
    (ho : o.op = .call { callee := .builtin .append, args := #[s, x], argTypes := #[t, t] })
    (B : Nat) (e : TypeId) (i : TypeInfo) (z : Value) (sz bytes : Nat) (ht : P.underlying t = some (.slice e)) (hi : P.info? e = some i) (hz : i.zero = some z)
    (hsize : i.size = sz) (hby : i.bytes = bytes) (hzs : z.cells.size = sz) (hsz : 0 < sz) (he : Enc sz enc) (v : Value) (l : List α) (hs : a.eval s = v) (hown : Own w B e sz enc v l)
    (A : Option Addr) (m c : Nat) (ys : List α) (hx : a.eval x = .slice A m c) (hr : Rd w sz enc A m ys) (hA : A = none → c = 0)
    (h63 : l.length + m ≤ maxLen) (hbytes : (l.length + m) * bytes ≤ 140737488355328) (hbase : B ≤ w.heap.size)
    (h : ∀ v' w', Own w' B e sz enc v' (l ++ ys) → w.grownBy w' v.ownBlock → (v'.ownBlock = v.ownBlock ∨ v'.ownBlock = some w.heap.size) → K (a.put o.dst v') w') :
    if Region.wanted o (yielded ops a.tmps) = true then Oper.wp P o a w K Q else E := by
  have hw : Region.wanted o (yielded ops a.tmps) = true := by simp [Region.wanted, hgd]
  rw [if_pos hw]
  exact wp_push w s x t ho B e i z sz bytes ht hi hz hsize hby hzs hsz he v l hs hown A m c ys hx hr hA h63 hbytes hbase h

theorem frozen_grown {W w' : World} {gx q : Nat} {row : Option Nat} (hf : W.frozen? ⟨gx, q, none⟩ = false) (hx : gx < W.heap.size) (hg : W.grownBy w' row) (hne : row ≠ some gx) : w'.frozen? ⟨gx, q, none⟩ = false := by
  have y := hg.block gx hx (fun e => hne e.symm)
  rw [← hf]
  unfold World.frozen?
  simp only [y]
theorem cell?_alloc_keep {w : World} {g q : Nat} {u : Value} {o : Obj} (h : w.cell? ⟨g, q, none⟩ = some u) : (w.alloc o).cell? ⟨g, q, none⟩ = some u :=
  below_cell ((Below.refl w.heap.size w).alloc (Nat.le_refl _) o) (World.block_lt_of_cell? _ _ h) h
theorem frozen_alloc_keep {w : World} {g q : Nat} {o : Obj} (hg : g < w.heap.size) (h : w.frozen? ⟨g, q, none⟩ = false) : (w.alloc o).frozen? ⟨g, q, none⟩ = false :=
  (((Below.refl w.heap.size w).alloc (Nat.le_refl _) o).frozen (p := ⟨g, q, none⟩) hg).trans h
/-- what Post says of an entry -/
def postE (c : List Acc) (es : List Ent) (ref : ByteArray) (ent per : Int) (l : List Line) : Int :=
  if entE c ref ent per l ≠ 0 then entE c ref ent per l else if hasS (es.map Ent.ref).reverse ref = true then 8 else if 200 ≤ es.length then 4 else 0

set_option maxHeartbeats 1000000 in
set_option maxRecDepth 100000 in
theorem jpost_any {w : World} {B g m : Nat} {v : Value} {es : List Ent} (h : Jrn w B g m v es) (hes : es.length ≤ 200) (hB : B ≤ w.heap.size)
    (c : List Acc) (CA : Option Addr) (cn ccap : Nat) (E : Ent) (hcl : cn ≤ 9223372036854775807) (hcc : cn ≤ ccap) (hc : Accs w CA cn c) (hcok : AccOk c) (hE : EntFits w E) :
    Calls Tryz.prog 24 #[.pointer (some ⟨g, 0, none⟩), .slice CA cn ccap, .agg #[.string E.ref, .int .i64 E.ent, .int .i64 E.per, .slice E.A E.n E.cap]] w
      fun e w' => (postE c es E.ref E.ent E.per E.lines ≠ 0 ∧ e = .returned (.tuple #[.int .i64 0, .iface 108 (.int .i64 (postE c es E.ref E.ent E.per E.lines))]) ∧ Jrn w' B g m v es ∧ Below w.heap.size w w') ∨
        (postE c es E.ref E.ent E.per E.lines = 0 ∧ e = .returned (.tuple #[.int .i64 es.length, .nilIface]) ∧ Below B w w' ∧ ∃ v' E', E'.ref = E.ref ∧ E'.ent = E.ent ∧ E'.per = E.per ∧ E'.lines = E.lines ∧ Jrn w' B g m v' (es ++ [E'])) := by
  obtain ⟨er, en, ep, EA, n, ec, el⟩ := E
  obtain ⟨h1, h2, h3, h4, h5, h6⟩ := hE
  simp only at *
  have hn63 : n ≤ 9223372036854775807 := by unfold maxLen at h3; omega
  have Hes := hide hes
  clear hes
  go_enter Tryz.func24, Tryz.ntmps24
  go_wp2_with fail
  have hbx : Below w.heap.size w (w.alloc (.cells #[.string er, .int .i64 en, .int .i64 ep, .slice EA n ec] 25)) := (Below.refl _ _).alloc (Nat.le_refl _) _
  have hX0 : EntAt (w.alloc (.cells #[.string er, .int .i64 en, .int .i64 ep, .slice EA n ec] 25)) w.heap.size er en ep (.slice EA n ec) := by unfold EntAt; simp
  refine (entCheck_any c _ _ _ er en ep el _ _ _ _ hcl hcc (hc.below hbx) hcok h1 hn63 (Rd.below h4 hbx) h6 h5).mono ?_
  rintro e w1 ⟨rfl, hb1⟩
  have hX1 := hX0.below hb1
  have hb1 := bof_alloc hb1
  have hJ1 := h.below hb1
  by_cases he : entE c er en ep el = 0
  · rw [errV_0 he]
    have HE := hide he
    obtain ⟨x0, x1, x2, x3⟩ := hX1
    have c1 := hJ1.c1
    clear he
    go_wp2_with fail
    refine wp_region_still_tail 6 (by kernel_rfl) (by kernel_rfl) ?_
    simp only [List.take_succ_cons, List.take_zero, List.drop_succ_cons, List.drop_zero]
    change wpStill _ _ w1.drew _ _ _
    repeat still_step
    refine wpStill_nil ?_
    change wpList _ _ _ _ _ w1.drew
    have hX1 : EntAt w1.drew w.heap.size er en ep (.slice EA n ec) := ⟨x0, x1, x2, x3⟩
    have hb1 : Below w.heap.size w w1.drew := bdrewN hb1 1
    have hJ1 : Jrn w1.drew B g m v es := hJ1.below (bdrewN (Below.refl _ w1) 1)
    clear x0 x1 x2 x3 c1
    generalize w1.drew = w1 at hX1 hb1 hJ1 ⊢
    obtain ⟨x0, x1, x2, x3⟩ := hX1
    have hlk := hJ1.refs.lookup er (by unfold maxLen; exact h1)
    have c0 := hJ1.c0
    have c1 := hJ1.c1
    cases hS : hasS (es.map Ent.ref).reverse er with
    | true =>
      have HP : Hid (postE c es er en ep el = 8) := by show _ = _; rw [postE, if_neg (by simpa using HE.out), if_pos hS]
      rw [hS] at hlk
      clear hS
      go_wp2_with fail
      go_ret2
      exact .inl ⟨by rw [HP.out]; decide, by rw [HP.out]; rfl, hJ1, hb1⟩
    | false =>
      rw [hS] at hlk
      obtain ⟨VA, vc, rfl, hvc, hvm⟩ := hJ1.few
      by_cases hfull : 200 ≤ es.length
      · have HP : Hid (postE c es er en ep el = 4) := by show _ = _; rw [postE, if_neg (by simpa using HE.out), if_neg (by rw [hS]; decide), if_pos hfull]
        have hf1 : (200 : Int) ≤ (es.length : Int) := by omega
        clear hS
        go_wp2_with fail
        go_ret2
        exact .inl ⟨by rw [HP.out]; decide, by rw [HP.out]; rfl, hJ1, hb1⟩
      · have HP : Hid (postE c es er en ep el = 0) := by show _ = _; rw [postE, if_neg (by simpa using HE.out), if_neg (by rw [hS]; decide), if_neg hfull]
        have hf1 : ¬ (200 : Int) ≤ (es.length : Int) := by omega
        have hf2 : (es.length : Int) < 200 := by omega
        obtain ⟨i0, hi0, hz0, hz1, hz2⟩ := info_parts ent_info
        clear hS
        go_wp2_with fail
        refine wp_region_still_tail 6 (by kernel_rfl) (by kernel_rfl) ?_
        simp only [List.take_succ_cons, List.take_zero, List.drop_succ_cons, List.drop_zero]
        change wpStill _ _ w1.drew _ _ _
        repeat still_step
        refine wpStill_nil ?_
        change wpList _ _ _ _ _ w1.drew
        have hX1 : EntAt w1.drew w.heap.size er en ep (.slice EA n ec) := ⟨x0, x1, x2, x3⟩
        have hb1 : Below w.heap.size w w1.drew := bdrewN hb1 1
        have hJ1 : Jrn w1.drew B g m (.slice VA es.length vc) es := hJ1.below (bdrewN (Below.refl _ w1) 1)
        clear x0 x1 x2 x3 c0 c1 hlk
        generalize w1.drew = w1 at hX1 hb1 hJ1 ⊢
        obtain ⟨w2, hup, href, h12⟩ := hJ1.refs.update (by unfold maxLen; omega) er (by unfold maxLen; exact h1)
        have hwx : w.heap.size < w1.heap.size := World.block_lt_of_cell? _ _ hX1.1
        have hX2 : EntAt w2 w.heap.size er en ep (.slice EA n ec) := by
          obtain ⟨x0, x1, x2, x3⟩ := hX1
          have hne : ∀ q, some (⟨w.heap.size, q, none⟩ : Addr).block ≠ some m := fun q e => by
            have e' : w.heap.size = m := by simpa using e
            have := h.refs.lt; omega
          exact ⟨h12.cell x0 (hne 0), h12.cell x1 (hne 1), h12.cell x2 (hne 2), h12.cell x3 (hne 3)⟩
        have c0 : w2.cell? ⟨g, 0, none⟩ = some (.slice VA es.length vc) := h12.cell hJ1.c0 (by simp; exact hJ1.gm)
        have f0 : w2.frozen? ⟨g, 0, none⟩ = false := by
          have y := h12.block g hJ1.lt (by simp; exact hJ1.gm)
          have := hJ1.fr 0
          rw [← this]; unfold World.frozen?; simp only [y]
        have hbB2 : Below B w w2 := (hb1.mono hB).grown h12 (Nat.le_trans hB hb1.size) (fun q e => by injection e with e; subst e; exact hJ1.mB)
        obtain ⟨x0, x1, x2, x3⟩ := hX2
        have hn20 : n ≤ 20 := by
          have r := (entE_right HE.out).high
          have := h4.1
          omega
        have hmx : m < w1.heap.size := hJ1.refs.lt
        have hbw2 : ∀ q, q < w.heap.size → q ≠ m → w2.heap[q]? = w.heap[q]? := fun q hq hm => (h12.block q (by omega) (by simp; exact hm)).trans (hb1.block q hq)
        have hr2 : Rd w2 3 lineEnc EA n el := by
          refine ⟨h4.1, fun hp => ?_⟩
          obtain ⟨b, off, e, hc'⟩ := h4.2 hp
          refine ⟨b, off, e, fun k j u hk hu => ?_⟩
          have hcell := hc' k j u hk hu
          have hbl := World.block_lt_of_cell? _ _ hcell
          have h1c := below_cell hb1 hbl hcell
          refine h12.cell h1c (fun e2 => ?_)
          have e3 : b = m := by simpa using e2
          subst e3
          obtain ⟨D, ⟨esm, clk, hm, _⟩, _⟩ := hJ1.refs
          simp [World.cell?, hm] at h1c
        go_wp2_with fail
        have hr2d : Rd w2.drew 3 lineEnc EA n el := hr2
        have hown2 : Own w2.drew B 25 4 Ent.enc (.slice VA es.length vc) es := (show Own w2 B 25 4 Ent.enc (.slice VA es.length vc) es from hJ1.own.grown h12 (.inr hJ1.vm))
        have c0d : w2.drew.cell? ⟨g, 0, none⟩ = some (.slice VA es.length vc) := c0
        have f0d : w2.drew.frozen? ⟨g, 0, none⟩ = false := f0
        have hg2 : g < w2.drew.heap.size := World.block_lt_of_cell? _ _ c0d
        have hB2 : B ≤ w2.drew.heap.size := Nat.le_trans hB hbB2.size
        have hvg := hJ1.vg
        go_region_law (first
          | (refine step_pushJ _ rfl _ _ 50 rfl B 25 i0 zeroEnt 4 56 Tryz.underlying50 hi0 hz0 hz1 hz2 rfl (by decide) entEnc_ok (.slice VA es.length vc) es (by simp [Act.eval]) (Own.alloc hown3 _) _ 1 1 [⟨er, en, ep, CA3, el.length, cc3, el⟩] (by simp [Act.eval]) (Rd.boxedAt _ entEnc_ok _ _ _ rfl _ rfl) (by intro h; cases h) (by simp only [maxLen]; omega) (by omega) (by simp; omega) ?_; intro v' w5 hown5 hg5 hat5; have c05 := hg5.cell (cell?_alloc_keep c03) (fun e => hvg e.symm); have f05 := frozen_grown (frozen_alloc_keep hg3 f03) (by simp; omega) hg5 hvg; obtain ⟨VA5, vc5, rfl, hvc5, hvm5⟩ := hown5.form)
          | (go_simp; go_at_call 86; refine (jclone_any er en ep el EA n ec _ hr2d hn20 h6).mono ?_; rintro e w3 ⟨CA3, cc3, rfl, hownC, hb3⟩; have c03 := below_cell hb3 hg2 c0d; have f03 := (hb3.frozen (p := ⟨g, 0, none⟩) hg2).trans f0d; have hown3 := hown2.below hb3; have hg3 := Nat.lt_of_lt_of_le hg2 hb3.size; have hB3 := Nat.le_trans hB2 hb3.size))
        all_goals go_wp2_with fail
        all_goals
          go_ret2
          have e1 : (es ++ [(⟨er, en, ep, CA3, el.length, cc3, el⟩ : Ent)]).length = es.length + 1 := by simp
          rw [e1] at hown5 hat5
          have h23 : Below w2.heap.size w2 w3 := (bdrewN (Below.refl w2.heap.size w2) 1).trans hb3
          have hel : el.length ≤ 20 := (entE_right HE.out).high
          refine .inr ⟨HP.out, rfl, ?_, _, ⟨er, en, ep, CA3, el.length, cc3, el⟩, rfl, rfl, rfl, rfl, Jrn.push (n := 0) (c := 0) _ hJ1 href h12 h23 hownC hel hown5 hg5 hat5⟩
          exact (((hbB2.trans (h23.mono hB2)).alloc hB3 _).grown hg5 (by simp; omega) (fun q e => (hown3.block q e).1)).setCell hJ1.gB _
  · rw [errV_n he]
    have HP : Hid (postE c es er en ep el = entE c er en ep el) := by show _ = _; rw [postE, if_pos he]
    have HE := hide he
    clear he
    go_wp2_with fail
    go_ret2
    exact .inl ⟨by rw [HP.out]; exact HE.out, by rw [HP.out]; rfl, hJ1, hb1⟩
end Go.Proofs.YthmjkhlndphldaaGreatDoor
