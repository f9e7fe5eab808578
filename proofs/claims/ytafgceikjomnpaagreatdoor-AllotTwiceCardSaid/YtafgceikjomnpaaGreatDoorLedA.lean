/- The map of sums that the call makes: places to amounts. -/
import Derived.Test.YtafgceikjomnpaaGreatDoorLedZ
import Derived.Test.YtafgceikjomnpaaGreatDoorLaid0
import Derived.Maps.OwnSet
import Derived.Maps.OwnOps
import Derived.Maps.Views
import Derived.Maps.RangeWalk
import Derived.DeepKeys4
namespace Go.Proofs.YtafgceikjomnpaaGreatDoor
open Go Go.RowKit Go.Maps Go.WideMaps
set_option linter.unusedVariables false

def plKey (p : Pl) : Value := .agg #[.int .i64 p.ent, .string p.acc, .string p.cur]
def PlFits (p : Pl) : Prop := (-9223372036854775808 ≤ p.ent ∧ p.ent ≤ 9223372036854775807) ∧ p.acc.size ≤ 9223372036854775807 ∧ p.cur.size ≤ 9223372036854775807
theorem BalFits.pl {x : Bal} (h : BalFits x) : PlFits x.pl := ⟨h.1, h.2.1, h.2.2.1⟩
theorem plKey_inj {p q : Pl} (h : plKey p = plKey q) : p = q := by
  obtain ⟨a, b, c⟩ := p
  obtain ⟨d, e, f⟩ := q
  simp [plKey] at h
  obtain ⟨rfl, rfl, rfl⟩ := h
  rfl
theorem wide_place : (match Tryz.prog.underlying 63 with | some (.array _ _) | some (.struct _) => true | _ => false) = true := by kernel_rfl
set_option maxRecDepth 100000 in
theorem placeKey : Keyed Tryz.prog 63 := Keyed.of_law (deep_law_laid laid_out (m := 2) (by omega) (of_decide_eq_true (by kernel_rfl)) (by kernel_rfl) wide_place)
theorem keyType_place : Tryz.prog.keyType 63 = true := by kernel_rfl
theorem cells_place : Tryz.prog.cellsOf 63 = 3 := by kernel_rfl
theorem cells_pint : Tryz.prog.cellsOf 3 = 1 := by kernel_rfl
theorem cells_pstr : Tryz.prog.cellsOf 9 = 1 := by kernel_rfl
theorem types_two : ∃ m, Tryz.prog.types.size + 1 = m + 2 := ⟨Tryz.prog.types.size - 1, by have : 0 < Tryz.prog.types.size := of_decide_eq_true (by kernel_rfl); omega⟩

set_option maxRecDepth 100000 in
theorem lits_int (m : Nat) (v : Value) (l : List Lit) : Tryz.prog.keyLits (m + 1) 3 [v] = some l ↔ ∃ e, v = .int .i64 e ∧ (Lit.int .i64 e).wf = true ∧ l = [.int .i64 e] := by
  unfold Program.keyLits
  rw [Tryz.underlying3]
  constructor
  · intro h
    cases v <;> simp at h
    obtain ⟨⟨rfl, h⟩, rfl⟩ := h
    exact ⟨_, rfl, h, rfl⟩
  · rintro ⟨e, rfl, h, rfl⟩
    simp [h]
set_option maxRecDepth 100000 in
theorem lits_str (m : Nat) (v : Value) (l : List Lit) : Tryz.prog.keyLits (m + 1) 9 [v] = some l ↔ ∃ s : ByteArray, v = .string s ∧ s.size ≤ maxLen ∧ l = [.string s.data.toList] := by
  unfold Program.keyLits
  rw [Tryz.underlying9]
  constructor
  · intro h
    cases v <;> simp at h
    obtain ⟨h, rfl⟩ := h
    exact ⟨_, rfl, h, rfl⟩
  · rintro ⟨e, rfl, h, rfl⟩
    simp [h]
set_option maxRecDepth 100000 in
theorem lits_place (m : Nat) (xs : List Value) (L : List Lit) : Tryz.prog.keyLits (m + 2) 63 xs = some L ↔
    ∃ v0 v1 v2 l0 l1 l2, xs = [v0, v1, v2] ∧ Tryz.prog.keyLits (m + 1) 3 [v0] = some l0 ∧ Tryz.prog.keyLits (m + 1) 9 [v1] = some l1 ∧ Tryz.prog.keyLits (m + 1) 9 [v2] = some l2 ∧ L = l0 ++ (l1 ++ l2) := by
  conv => lhs; unfold Program.keyLits
  rw [Tryz.underlying63]
  simp only [cells_place]
  constructor
  · intro h
    split at h
    · rename_i hc
      obtain ⟨v0, v1, v2, rfl⟩ : ∃ v0 v1 v2, xs = [v0, v1, v2] := by
        match xs, hc.1 with
        | [a, b, c], _ => exact ⟨a, b, c, rfl⟩
      simp only [List.mapM_cons, List.mapM_nil, List.drop_zero, List.drop_succ_cons, cells_pint, cells_pstr, List.take_succ_cons, List.take_zero] at h
      cases h0 : Tryz.prog.keyLits (m + 1) 3 [v0] with
      | none => simp [h0] at h
      | some l0 =>
        cases h1 : Tryz.prog.keyLits (m + 1) 9 [v1] with
        | none => simp [h0, h1] at h
        | some l1 =>
          cases h2 : Tryz.prog.keyLits (m + 1) 9 [v2] with
          | none => simp [h0, h1, h2] at h
          | some l2 =>
            simp [h0, h1, h2] at h
            exact ⟨v0, v1, v2, l0, l1, l2, rfl, h0, h1, h2, h.symm⟩
    · cases h
  · rintro ⟨v0, v1, v2, l0, l1, l2, rfl, h0, h1, h2, rfl⟩
    rw [if_pos ⟨rfl, by kernel_rfl⟩]
    simp [List.mapM_cons, cells_pint, cells_pstr, h0, h1, h2]

set_option maxRecDepth 100000 in
/-- a place is a key -/
theorem keyOf_some {p : Pl} (h : PlFits p) : ∃ l, keyOf Tryz.prog 63 (plKey p) = some l := by
  obtain ⟨m, hm⟩ := types_two
  have h1 : Tryz.prog.keyLits (m + 2) 63 [.int .i64 p.ent, .string p.acc, .string p.cur] = some ([.int .i64 p.ent] ++ ([.string p.acc.data.toList] ++ [.string p.cur.data.toList])) :=
    (lits_place m _ _).2 ⟨_, _, _, _, _, _, rfl, (lits_int m _ _).2 ⟨_, rfl, by simp [Lit.wf, IntKind.min, IntKind.max, IntKind.signed, IntKind.bits]; exact h.1, rfl⟩, (lits_str m _ _).2 ⟨_, rfl, by unfold maxLen; exact h.2.1, rfl⟩, (lits_str m _ _).2 ⟨_, rfl, by unfold maxLen; exact h.2.2, rfl⟩, rfl⟩
  have hf : (plKey p).formed Tryz.prog 63 = true := by
    unfold plKey Value.formed
    rw [Tryz.underlying63, cells_place]; rfl
  refine ⟨.string (keyBytes ([.int .i64 p.ent] ++ ([.string p.acc.data.toList] ++ [.string p.cur.data.toList]))), ?_⟩
  unfold keyOf
  rw [Tryz.underlying63]
  show (if (Tryz.prog.keyType 63 && (plKey p).formed Tryz.prog 63) = true then (Tryz.prog.keyLits (Tryz.prog.types.size + 1) 63 [.int .i64 p.ent, .string p.acc, .string p.cur]).map fun ls => Lit.string (keyBytes ls) else none) = _
  rw [keyType_place, hf, hm, h1]
  rfl
/-- what a place reads as -/
noncomputable def plLit (p : Pl) : Lit := (keyOf Tryz.prog 63 (plKey p)).getD .nil
set_option maxRecDepth 100000 in
theorem keyOf_pl {p : Pl} (h : PlFits p) : keyOf Tryz.prog 63 (plKey p) = some (plLit p) := by
  obtain ⟨l, hl⟩ := keyOf_some h
  unfold plLit
  rw [hl]; rfl
set_option maxRecDepth 100000 in
/-- a key is a place -/
theorem keyOf_inv {v : Value} {l : Lit} (h : keyOf Tryz.prog 63 v = some l) : ∃ p, v = plKey p ∧ PlFits p ∧ l = plLit p := by
  have key : ∃ p, v = plKey p ∧ PlFits p := by
    obtain ⟨xs, L, rfl, hL, _⟩ := keyOf_top wide_place h
    obtain ⟨m, hm⟩ := types_two
    rw [hm] at hL
    obtain ⟨v0, v1, v2, l0, l1, l2, hx, h0, h1, h2, _⟩ := (lits_place m _ _).1 hL
    obtain ⟨e, rfl, he, _⟩ := (lits_int m _ _).1 h0
    obtain ⟨a, rfl, ha, _⟩ := (lits_str m _ _).1 h1
    obtain ⟨c, rfl, hc, _⟩ := (lits_str m _ _).1 h2
    refine ⟨⟨e, a, c⟩, ?_, ?_, ?_, ?_⟩
    · unfold plKey
      congr 1
      exact Array.toList_inj.1 hx
    · simp [Lit.wf, IntKind.min, IntKind.max, IntKind.signed, IntKind.bits] at he; exact he
    · unfold maxLen at ha; exact ha
    · unfold maxLen at hc; exact hc
  obtain ⟨p, rfl, hp⟩ := key
  refine ⟨p, rfl, hp, ?_⟩
  rw [keyOf_pl hp] at h
  exact (Option.some.inj h).symm
set_option maxRecDepth 100000 in
theorem plLit_inj {p q : Pl} (hp : PlFits p) (hq : PlFits q) (h : plLit p = plLit q) : p = q := by
  have h1 := keyOf_pl hp
  have h2 := keyOf_pl hq
  rw [← h] at h2
  exact plKey_inj (placeKey.inj h1 h2)
set_option maxRecDepth 100000 in
theorem plLit_key {p : Pl} (hp : PlFits p) : WideAt.IsKeyLit (plLit p) := placeKey.key (keyOf_pl hp)
set_option maxRecDepth 100000 in
theorem plLit_same {p q : Pl} (hp : PlFits p) (hq : PlFits q) : (plLit p).sameKey (plLit q) = decide (p = q) := by
  by_cases h : p = q
  · subst h
    rw [WideAt.sameKey_self (plLit_key hp)]; simp
  · rw [sameKey_ne (fun e => h (plLit_inj hp hq e))]; simp [h]

set_option maxRecDepth 100000 in
theorem zeroInt (w : World) : (zeroValue 3).run Tryz.prog w = .ok (.int .i64 0) w := by kernel_rfl
/-- block m is a map of at most n entries: of each place as much as the balances S have of it -/
def Sums (w : World) (m n : Nat) (S : List Bal) : Prop :=
  ∃ D : DataW Unit, w.ownsMap Tryz.prog 63 (plainElem Tryz.prog 3) m n D ∧ Tidy D ∧ Maps.size D = (canonB S).length ∧ (∀ p, PlFits p → (Maps.has D (plLit p) = true ↔ hasB S p)) ∧
    ∀ p, PlFits p → D.atKey (plLit p) (.lit (.int .i64 0)) = .lit (.int .i64 (totB S p))
theorem Sums.lt {w : World} {m n : Nat} {S : List Bal} (h : Sums w m n S) : m < w.heap.size := by
  obtain ⟨D, h1, _⟩ := h; exact h1.lt
theorem Sums.made (w : World) : Sums (w.alloc (.map #[] 0)) w.heap.size 0 [] :=
  ⟨.map [], World.ownsMap_made _ _ _ _, tidy_empty, rfl, fun p _ => ⟨(fun h => by simp [Maps.has] at h), (fun ⟨_, h, _⟩ => absurd h (by simp))⟩, fun p _ => by simp [DataW.atKey, totB]⟩
theorem Sums.kept {w w' : World} {m n : Nat} {S : List Bal} {row : Option Nat} (h : Sums w m n S) (hg : w.grownBy w' row) (hne : some m ≠ row) : Sums w' m n S := by
  obtain ⟨D, h1, h2⟩ := h; exact ⟨D, h1.kept hg hne, h2⟩
theorem Sums.below {w w' : World} {m n : Nat} {S : List Bal} (h : Sums w m n S) (hb : Below w.heap.size w w') : Sums w' m n S :=
  h.kept (row := none) ⟨hb.os, hb.tape, hb.output, hb.size, fun i hi _ => hb.block i hi⟩ (by simp)
set_option maxRecDepth 100000 in
theorem Sums.lookup {w : World} {m n : Nat} {S : List Bal} (h : Sums w m n S) (p : Pl) (hp : PlFits p) :
    (Instr.lookup 60 (.map (some m)) (plKey p) false).run Tryz.prog w = .ok (.int .i64 (totB S p)) w := by
  obtain ⟨D, h1, _, _, _, h4⟩ := h
  obtain ⟨c, hrun, hat, _⟩ := h1.lookup_int placeKey Tryz.underlying60 Tryz.underlying3 (zeroInt w) (keyOf_pl hp)
  rw [h4 p hp] at hat
  injection hat with hat
  injection hat with _ hat
  rw [hrun, hat]
set_option maxRecDepth 100000 in
theorem Sums.put {w' : World} {m n : Nat} {S : List Bal} {D : DataW Unit} (x : Bal) (hx : PlFits x.pl) {c : Int} (hc : c = totB S x.pl + x.amt) (h2 : Tidy D) (h3 : Maps.size D = (canonB S).length) (h4 : ∀ p, PlFits p → (Maps.has D (plLit p) = true ↔ hasB S p))
    (h5 : ∀ p, PlFits p → D.atKey (plLit p) (.lit (.int .i64 0)) = .lit (.int .i64 (totB S p)))
    (h : w'.ownsMap Tryz.prog 63 (plainElem Tryz.prog 3) m (n + 1) (D.put (plLit x.pl) (.lit (.int .i64 c)))) : Sums w' m (n + 1) (S ++ [x]) := by
  refine ⟨_, h, h2.put (plLit_key hx) _, ?_, fun p hp => ?_, fun p hp => ?_⟩
  · rw [size_put h2, h3, canonB_snoc]
    by_cases hh : hasB S x.pl
    · rw [if_pos ((h4 _ hx).2 hh), (insB_len x (canonB_sort S)).1 ((canonB_has S _).2 hh)]
    · rw [if_neg (fun e => hh ((h4 _ hx).1 e)), (insB_len x (canonB_sort S)).2 (fun e => hh ((canonB_has S _).1 e))]
  · rw [hasB_append]
    by_cases e : p = x.pl
    · subst e
      rw [has_put_same h2.isMap (plLit_key hx)]
      exact ⟨fun _ => .inr ⟨x, by simp, rfl⟩, fun _ => rfl⟩
    · rw [has_put_other (fun h => e (plLit_inj hp hx h)), h4 p hp]
      constructor
      · exact .inl
      · rintro (h | ⟨y, hy, e2⟩)
        · exact h
        · have : y = x := by simpa using hy
          subst this; exact absurd e2.symm e
  · rw [totB_append]
    by_cases e : p = x.pl
    · subst e
      rw [atKey_put_same h2.isMap (plLit_key hx), hc]
      simp [totB]
    · rw [atKey_put_other (fun h => e (plLit_inj hp hx h)), h5 p hp]
      rw [totB, if_neg (fun e' => e (Eq.symm e'))]
      simp [totB]
set_option maxRecDepth 100000 in
theorem Sums.update {w : World} {m n : Nat} {S : List Bal} (h : Sums w m n S) (hn : n < maxLen) (x : Bal) (hx : PlFits x.pl) {c : Int} (hc : c = totB S x.pl + x.amt) (hw : (Lit.int .i64 c).wf = true) :
    ∃ w', (Instr.mapUpdate 60 (.map (some m)) (plKey x.pl) (.int .i64 c)).run Tryz.prog w = .ok () w' ∧ Sums w' m (n + 1) (S ++ [x]) ∧ w.grownBy w' (some m) := by
  obtain ⟨D, h1, h2, h3, h4, h5⟩ := h
  obtain ⟨w', r1, r2, r3⟩ := h1.update placeKey Tryz.underlying60 hn (keyOf_pl hx) (plainElem_int Tryz.underlying3 hw)
  exact ⟨w', r1, Sums.put x hx hc h2 h3 h4 h5 r2, r3⟩

/-- balances met so far in a range over the map: each place once, those that are not 0 -/
structure Coll (S : List Bal) (left : Lit → Bool) (cs : List Bal) : Prop where
  once : cs.Pairwise fun x y => x.pl ≠ y.pl
  right : ∀ x, x ∈ cs → x.amt = totB S x.pl ∧ x.amt ≠ 0 ∧ PlFits x.pl ∧ left (plLit x.pl) = false
  all : ∀ p, PlFits p → hasB S p → totB S p ≠ 0 → left (plLit p) = false → hasB cs p
theorem Coll.start {S : List Bal} {D : DataW Unit} (h4 : ∀ p, PlFits p → (Maps.has D (plLit p) = true ↔ hasB S p)) : Coll S (Maps.has D) [] :=
  ⟨List.Pairwise.nil, (fun x hx => absurd hx (by simp)), (fun p hp h _ hl => absurd (((h4 p hp).2 h).symm.trans hl) (by decide))⟩
theorem strike {left : Lit → Bool} {p q : Pl} (hp : PlFits p) (hq : PlFits q) : (left (plLit p) && !(plLit p).sameKey (plLit q)) = if p = q then false else left (plLit p) := by
  rw [plLit_same hp hq]
  by_cases h : p = q
  · simp [h]
  · simp [h]
theorem Coll.skip {S : List Bal} {left : Lit → Bool} {cs : List Bal} (h : Coll S left cs) {p : Pl} (hp : PlFits p) (h0 : totB S p = 0) : Coll S (fun z => left z && !z.sameKey (plLit p)) cs := by
  refine ⟨h.once, fun x hx => ?_, fun q hq hs ht hl => ?_⟩
  · obtain ⟨h1, h2, h3, h4⟩ := h.right x hx
    exact ⟨h1, h2, h3, by simp [h4]⟩
  · simp only [strike hq hp] at hl
    by_cases e : q = p
    · subst e; exact absurd h0 ht
    · rw [if_neg e] at hl; exact h.all q hq hs ht hl
theorem Coll.take {S : List Bal} {left : Lit → Bool} {cs : List Bal} (h : Coll S left cs) {x : Bal} (hp : PlFits x.pl) (hl : left (plLit x.pl) = true) (h0 : x.amt = totB S x.pl) (hn : x.amt ≠ 0) : Coll S (fun z => left z && !z.sameKey (plLit x.pl)) (cs ++ [x]) := by
  refine ⟨?_, fun y hy => ?_, fun q hq hs ht hl' => ?_⟩
  · refine List.pairwise_append.2 ⟨h.once, by simp, fun a ha b hb => ?_⟩
    have : b = x := by simpa using hb
    subst this
    intro e
    have := (h.right a ha).2.2.2
    rw [e, hl] at this; cases this
  · rcases List.mem_append.1 hy with hy | hy
    · obtain ⟨h1, h2, h3, h4⟩ := h.right y hy
      exact ⟨h1, h2, h3, by simp [h4]⟩
    · have : y = x := by simpa using hy
      subst this
      exact ⟨h0, hn, hp, by simp only [strike hp hp, if_pos]⟩
  · rw [hasB_append]
    simp only [strike hq hp] at hl'
    by_cases e : q = x.pl
    · exact .inr ⟨x, by simp, e.symm⟩
    · rw [if_neg e] at hl'; exact .inl (h.all q hq hs ht hl')
/-- at the end, put in order: what the sums come to -/
theorem Coll.net {S : List Bal} {left : Lit → Bool} {cs a : List Bal} (h : Coll S left cs) (h0 : ∀ kl, left kl = false) (hS : ∀ x, x ∈ S → PlFits x.pl) (hp : a.Perm cs) (hw : a.Pairwise fun x y => Pl.lt y.pl x.pl = false) : a = netB S := by
  refine netB_perm hp hw h.once (fun x hx => ⟨(h.right x hx).1, (h.right x hx).2.1⟩) fun k hk => ?_
  by_cases hh : hasB S k
  · obtain ⟨x, hx, rfl⟩ := hh
    exact h.all _ (hS x hx) ⟨x, hx, rfl⟩ hk (h0 _)
  · exact absurd (totB_none hh) hk
end Go.Proofs.YtafgceikjomnpaaGreatDoor
