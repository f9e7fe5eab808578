/- The journal's set of refs: a map from text to bool that the call makes. -/
import Derived.Test.YthmjkhlndphldaaGreatDoorOpenE
import Derived.Maps.OwnSet
import Derived.Maps.OwnOps
import Derived.Maps.Views
namespace Go.Proofs.YthmjkhlndphldaaGreatDoor
open Go Go.RowKit Go.Maps Go.WideMaps
set_option linter.unusedVariables false

theorem refKey : Keyed Tryz.prog 9 := string_keyed Tryz.underlying9
theorem zeroBool (w : World) : (zeroValue 4).run Tryz.prog w = .ok (.bool false) w := by kernel_rfl

def keyOfS (s : ByteArray) : Lit := .string s.data.toList
theorem keyS_inj {s t : ByteArray} (h : keyOfS s = keyOfS t) : s = t := by
  unfold keyOfS at h
  injection h with h
  obtain ⟨⟨a⟩⟩ := s
  obtain ⟨⟨b⟩⟩ := t
  simp at h
  rw [h]

/-- is it on the list? -/
def hasS (S : List ByteArray) (s : ByteArray) : Bool := S.any fun t => decide (t = s)

/-- block m is a map of at most n entries; of a text it says true where that is on the list S, else false -/
def Refs (w : World) (m n : Nat) (S : List ByteArray) : Prop :=
  ∃ D : DataW Unit, w.ownsMap Tryz.prog 9 (plainElem Tryz.prog 4) m n D ∧ IsMap D ∧ ∀ s : ByteArray, s.size ≤ maxLen → D.atKey (keyOfS s) (.lit (.bool false)) = .lit (.bool (hasS S s))
theorem Refs.lt {w : World} {m n : Nat} {S : List ByteArray} (h : Refs w m n S) : m < w.heap.size := by
  obtain ⟨D, h1, _⟩ := h; exact h1.lt
theorem Refs.made (w : World) : Refs (w.alloc (.map #[] 0)) w.heap.size 0 [] :=
  ⟨.map [], World.ownsMap_made _ _ _ _, isMap_empty, fun s _ => by simp [DataW.atKey, hasS]⟩
theorem Refs.kept {w w' : World} {m n : Nat} {S : List ByteArray} {row : Option Nat} (h : Refs w m n S) (hg : w.grownBy w' row) (hne : some m ≠ row) : Refs w' m n S := by
  obtain ⟨D, h1, h2⟩ := h; exact ⟨D, h1.kept hg hne, h2⟩
theorem Refs.below {w w' : World} {m n : Nat} {S : List ByteArray} (h : Refs w m n S) (hb : Below w.heap.size w w') : Refs w' m n S :=
  h.kept (row := none) ⟨hb.os, hb.tape, hb.output, hb.size, fun i hi _ => hb.block i hi⟩ (by simp)
theorem plainElem_bool_inv {H : Type} {P : Program} {e : TypeId} (he : P.underlying e = some .bool) {v : Value} {z : DataW H × List MemPlace} (h : plainElem P e v = some z) : ∃ x, v = .bool x ∧ z = (.lit (.bool x), []) := by
  unfold plainElem at h
  rw [he] at h
  cases v <;> simp at h
  exact ⟨_, rfl, h.symm⟩
set_option maxRecDepth 100000 in
theorem Refs.lookup {w : World} {m n : Nat} {S : List ByteArray} (h : Refs w m n S) (s : ByteArray) (hs : s.size ≤ maxLen) :
    (Instr.lookup 124 (.map (some m)) (.string s) false).run Tryz.prog w = .ok (.bool (hasS S s)) w := by
  obtain ⟨D, h1, h2, h3⟩ := h
  obtain ⟨v, ps, hrun, hv⟩ := h1.lookup refKey Tryz.underlying124 (zeroBool w) (plainElem_bool Tryz.underlying4 false) (keyOf_string_mk Tryz.underlying9 hs)
  obtain ⟨x, rfl, hx⟩ := plainElem_bool_inv Tryz.underlying4 hv
  have h4 := h3 s hs
  simp only [Prod.mk.injEq] at hx
  have h5 : (DataW.lit (.bool x) : DataW Unit) = .lit (.bool (hasS S s)) := hx.1.symm.trans h4
  injection h5 with h5
  injection h5 with h5
  rw [hrun, h5]
theorem Refs.put {w' : World} {m n : Nat} {S : List ByteArray} {D : DataW Unit} (s : ByteArray) (hs : s.size ≤ maxLen) (h2 : IsMap D) (h3 : ∀ t : ByteArray, t.size ≤ maxLen → D.atKey (keyOfS t) (.lit (.bool false)) = .lit (.bool (hasS S t)))
    (h : w'.ownsMap Tryz.prog 9 (plainElem Tryz.prog 4) m (n + 1) (D.put (keyOfS s) (.lit (.bool true)))) : Refs w' m (n + 1) (s :: S) := by
  refine ⟨_, h, h2.put _ _, fun t ht => ?_⟩
  by_cases e : t = s
  · subst e
    rw [atKey_put_same h2 (by simp [keyOfS, WideAt.IsKeyLit])]
    simp [hasS]
  · rw [atKey_put_other (fun h => e (keyS_inj h)), h3 t ht]
    have e' : ¬ s = t := fun h => e h.symm
    simp [hasS, e']
set_option maxRecDepth 100000 in
theorem Refs.update {w : World} {m n : Nat} {S : List ByteArray} (h : Refs w m n S) (hn : n < maxLen) (s : ByteArray) (hs : s.size ≤ maxLen) :
    ∃ w', (Instr.mapUpdate 124 (.map (some m)) (.string s) (.bool true)).run Tryz.prog w = .ok () w' ∧ Refs w' m (n + 1) (s :: S) ∧ w.grownBy w' (some m) := by
  obtain ⟨D, h1, h2, h3⟩ := h
  obtain ⟨w', r1, r2, r3⟩ := h1.update refKey Tryz.underlying124 hn (keyOf_string_mk Tryz.underlying9 hs) (plainElem_bool Tryz.underlying4 true)
  exact ⟨w', r1, Refs.put s hs h2 h3 r2, r3⟩
end Go.Proofs.YthmjkhlndphldaaGreatDoor
