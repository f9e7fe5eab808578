/- The journal: what lies in it; New, Clone, Len, At, Of. -/
import Derived.Test.YthmjkhlndphldaaGreatDoorJrnA
namespace Go.Proofs.YthmjkhlndphldaaGreatDoor
open Go Go.RowKit
set_option linter.unusedVariables false

theorem entEnc_ok : Enc 4 Ent.enc := ⟨fun _ => rfl, by
  intro a u hu
  simp only [Ent.enc, List.mem_cons, List.not_mem_nil, or_false] at hu
  rcases hu with rfl | rfl | rfl | rfl <;> rfl⟩

/-- an entry of the journal: its lines lie in a block that is none of these three -/
structure Kept (w : World) (B g m : Nat) (r : Option Nat) (e : Ent) : Prop where
  rd : Rd w 3 lineEnc e.A e.n e.lines
  few : e.n ≤ 20
  nil : e.A = none → e.cap = 0
  cap : e.n ≤ e.cap ∧ e.cap ≤ maxLen
  apart : ∀ b off s, e.A = some ⟨b, off, s⟩ → b ≠ g ∧ b ≠ m ∧ some b ≠ r ∧ b < w.heap.size
theorem Kept.below {w w' : World} {B g m : Nat} {r : Option Nat} {e : Ent} (h : Kept w B g m r e) (hb : Below w.heap.size w w') : Kept w' B g m r e :=
  ⟨h.rd.below hb, h.few, h.nil, h.cap, fun b off s he => by have x := h.apart b off s he; have := hb.size; exact ⟨x.1, x.2.1, x.2.2.1, by omega⟩⟩
theorem Kept.grown {w w' : World} {B g m : Nat} {r row : Option Nat} {e : Ent} (h : Kept w B g m r e) (hg : w.grownBy w' row) (hr : row = some g ∨ row = some m ∨ row = r ∨ row = none) : Kept w' B g m r e := by
  refine ⟨?_, h.few, h.nil, h.cap, fun b off s he => by have x := h.apart b off s he; have := hg.size; exact ⟨x.1, x.2.1, x.2.2.1, by omega⟩⟩
  refine ⟨h.rd.1, fun hn => ?_⟩
  obtain ⟨b, off, e1, hc⟩ := h.rd.2 hn
  have ha := h.apart b off none e1
  refine ⟨b, off, e1, fun k j u hk hu => hg.cell (hc k j u hk hu) ?_⟩
  intro e2
  rcases hr with rfl | rfl | rfl | rfl
  · exact ha.1 (by simpa using e2)
  · exact ha.2.1 (by simpa using e2)
  · exact ha.2.2.1 e2
  · cases e2

/-- block g is a journal of these entries: v the slice of them, m the set of refs; all at or above B -/
structure Jrn (w : World) (B g m : Nat) (v : Value) (es : List Ent) : Prop where
  gB : B ≤ g
  mB : B ≤ m
  gm : g ≠ m
  c0 : w.cell? ⟨g, 0, none⟩ = some v
  c1 : w.cell? ⟨g, 1, none⟩ = some (.map (some m))
  fr : ∀ o, w.frozen? ⟨g, o, none⟩ = false
  own : Own w B 25 4 Ent.enc v es
  vg : v.ownBlock ≠ some g
  vm : v.ownBlock ≠ some m
  refs : Refs w m es.length (es.map Ent.ref).reverse
  all : ∀ e, e ∈ es → Kept w B g m v.ownBlock e

section
variable {w w' : World} {B g m : Nat} {v : Value} {es : List Ent}
theorem Jrn.lt (h : Jrn w B g m v es) : g < w.heap.size := World.block_lt_of_cell? _ _ h.c0
theorem Jrn.below (h : Jrn w B g m v es) (hb : Below w.heap.size w w') : Jrn w' B g m v es :=
  ⟨h.gB, h.mB, h.gm, below_cell hb h.lt h.c0, below_cell hb h.lt h.c1, fun o => (hb.frozen (p := ⟨g, o, none⟩) h.lt).trans (h.fr o), h.own.below hb, h.vg, h.vm, h.refs.below hb, fun e he => (h.all e he).below hb⟩
theorem Jrn.alloc (h : Jrn w B g m v es) (o : Obj) : Jrn (w.alloc o) B g m v es := h.below ((Below.refl _ _).alloc (Nat.le_refl _) o)
theorem Jrn.few (h : Jrn w B g m v es) : ∃ A c, v = .slice A es.length c ∧ es.length ≤ c ∧ c ≤ maxLen := h.own.form
end

/-- the numbers of those that are of an entity (0 for all), and a period -/
def ofB (ent per : Int) (e : Ent) : Bool := ((ent == 0) || (e.ent == ent)) && ((per == 0) || (e.per == per))
def ofTo (es : List Ent) (ent per : Int) (k : Nat) : List Int := ((List.range k).filter (fun i => match es[i]? with | some e => ofB ent per e | none => false)).map (fun (i : Nat) => (i : Int))
theorem ofTo_yes {es : List Ent} {ent per : Int} {k : Nat} (hk : k < es.length) (h : ofB ent per es[k] = true) : ofTo es ent per (k + 1) = ofTo es ent per k ++ [(k : Int)] := by
  unfold ofTo
  rw [List.range_succ, List.filter_append, List.map_append, List.filter_cons, if_pos (by rw [List.getElem?_eq_getElem hk]; exact h)]
  rfl
theorem ofTo_no {es : List Ent} {ent per : Int} {k : Nat} (hk : k < es.length) (h : ofB ent per es[k] = false) : ofTo es ent per (k + 1) = ofTo es ent per k := by
  unfold ofTo
  rw [List.range_succ, List.filter_append, List.map_append, List.filter_cons, if_neg (by rw [List.getElem?_eq_getElem hk]; simp [h])]
  simp
theorem ofTo_len (es : List Ent) (ent per : Int) (k : Nat) : (ofTo es ent per k).length ≤ k := by
  unfold ofTo
  rw [List.length_map]
  exact Nat.le_trans (List.length_filter_le _ _) (by simp)
def intEnc (n : Int) : List Value := [.int .i64 n]
theorem intEnc_ok : Enc 1 intEnc := ⟨fun _ => rfl, by
  intro a u hu
  simp only [intEnc, List.mem_singleton] at hu
  subst hu; rfl⟩

theorem Jrn.push {w1 w2 w3 w5 : World} {B g m n c : Nat} {v v' : Value} {es : List Ent} {E : Ent} (o : Obj) (h : Jrn w1 B g m v es) (href : Refs w2 m (es.length + 1) (E.ref :: (es.map Ent.ref).reverse)) (h12 : w1.grownBy w2 (some m)) (h23 : Below w2.heap.size w2 w3)
    (hl : Own w3 w2.heap.size 35 3 lineEnc (.slice E.A E.n E.cap) E.lines) (hn : E.n ≤ 20)
    (hown5 : Own w5 B 25 4 Ent.enc v' (es ++ [E])) (hg5 : (w3.alloc o).grownBy w5 v.ownBlock) (hat : v'.ownBlock = v.ownBlock ∨ v'.ownBlock = some (w3.alloc o).heap.size) :
    Jrn (w5.setCell ⟨g, 0, none⟩ v') B g m v' (es ++ [E]) := by
  have hgl := h.lt
  have hml : m < w1.heap.size := h.refs.lt
  have hs2 := h12.size
  have hs3 := h23.size
  have hs5 := hg5.size
  have hvl : ∀ k, v.ownBlock = some k → k < w1.heap.size := fun k hk => (h.own.block k hk).2
  have ha : (w3.alloc o).heap.size = w3.heap.size + 1 := by simp
  -- a cell of an old block that is none of the three
  have hb24 : Below w2.heap.size w2 (w3.alloc o) := h23.alloc (by omega) o
  have c5 : ∀ q u, w1.cell? ⟨g, q, none⟩ = some u → w5.cell? ⟨g, q, none⟩ = some u := by
    intro q u hu
    have e2 := h12.cell hu (by simp; exact h.gm)
    exact hg5.cell (below_cell hb24 (by omega) e2) (fun e => h.vg e.symm)
  have f5 : ∀ q, w5.frozen? ⟨g, q, none⟩ = false := by
    intro q
    have x1 : w5.frozen? ⟨g, q, none⟩ = w1.frozen? ⟨g, q, none⟩ := by
      have y1 := hg5.block g (by omega) (fun e => h.vg e.symm)
      have y2 := hb24.block g (by omega)
      have y3 := h12.block g hgl (by simp; exact h.gm)
      unfold World.frozen?
      simp only [y1, y2, y3]
    rw [x1]; exact h.fr q
  have hvg' : v'.ownBlock ≠ some g := by
    rcases hat with e | e
    · rw [e]; exact h.vg
    · rw [e]; intro e2; injection e2 with e2; omega
  have hvm' : v'.ownBlock ≠ some m := by
    rcases hat with e | e
    · rw [e]; exact h.vm
    · rw [e]; intro e2; injection e2 with e2; omega
  have hset : w5.grownBy (w5.setCell ⟨g, 0, none⟩ v') (some g) := only_setCell (only_refl w5 (some g)) 0 v'
  have hsz : (w5.setCell ⟨g, 0, none⟩ v').heap.size = w5.heap.size := by simp [World.setCell]
  refine ⟨h.gB, h.mB, h.gm, World.cell?_setCell_same w5 ⟨g, 0, none⟩ v' (c5 0 _ h.c0), ?_, ?_, hown5.grown hset (.inr hvg'), hvg', hvm', ?_, ?_⟩
  · rw [World.cell?_setCell_other _ _ _ _ (by simp)]
    exact c5 1 _ h.c1
  · intro q
    have := hset
    simp [f5 q]
  · rw [List.length_append, List.map_append, List.reverse_append]
    have r3 := href.below hb24
    exact (r3.kept hg5 (fun e => h.vm e.symm)).kept hset (by simp; exact fun e => h.gm e.symm)
  · intro e he
    rcases List.mem_append.1 he with he | he
    · have k1 := h.all e he
      have k5 := ((k1.grown h12 (.inr (.inl rfl))).below hb24).grown hg5 (.inr (.inr (.inl rfl)))
      have k6 := k5.grown hset (.inl rfl)
      refine ⟨k6.rd, k6.few, k6.nil, k6.cap, fun b off s hb => ?_⟩
      have x1 := k1.apart b off s hb
      have x6 := k6.apart b off s hb
      refine ⟨x6.1, x6.2.1, ?_, x6.2.2.2⟩
      rcases hat with e2 | e2
      · rw [e2]; exact x1.2.2.1
      · rw [e2]; intro e3; injection e3 with e3; omega
    · have : e = E := by simpa using he
      subst this
      have hap : ∀ b off s, e.A = some ⟨b, off, s⟩ → w2.heap.size ≤ b ∧ b < w3.heap.size := by
        intro b off s hb
        exact hl.block b (by simp [Value.ownBlock, hb])
      have hrd := hl.rd lineEnc_ok
      have k3 : Kept w3 B g m v.ownBlock e := by
        obtain ⟨A', c', e1, e2, e3⟩ := hl.form
        injection e1 with e4 e5 e6
        refine ⟨hrd, hn, fun hA => ?_, ⟨by omega, by omega⟩, fun b off s hb => ?_⟩
        · have hl' := hl
          rw [hA] at hl'
          rcases hl'.2 with ⟨hv, _⟩ | ⟨g', c'', cur, hv, _⟩
          · injection hv
          · cases hv
        · have := hap b off s hb
          refine ⟨by omega, by omega, fun e3 => ?_, by omega⟩
          have := hvl b e3.symm
          omega
      have k6 := ((k3.below ((Below.refl _ _).alloc (Nat.le_refl _) o)).grown hg5 (.inr (.inr (.inl rfl)))).grown hset (.inl rfl)
      refine ⟨k6.rd, k6.few, k6.nil, k6.cap, fun b off s hb => ?_⟩
      have x1 := hap b off s hb
      have x6 := k6.apart b off s hb
      refine ⟨x6.1, x6.2.1, ?_, x6.2.2.2⟩
      rcases hat with e2 | e2
      · rw [e2]; exact x6.2.2.1
      · rw [e2]; intro e3; injection e3 with e3; omega
end Go.Proofs.YthmjkhlndphldaaGreatDoor
